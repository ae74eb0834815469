/-
  Layer 17: the walk of the parser's whom (printed by tools/geny9.py).
-/
import Derived.Test.YtfnmidddgjlipaaGreatDoorY8
set_option linter.unusedVariables false
set_option linter.unusedSimpArgs false
namespace Go.Proofs.YtfnmidddgjlipaaGreatDoor
open Go.RowKit

def WhomPost (S B : Nat) (w : World) (stop : Int) (x : WishD) (res : PR (List Str)) (e : Ending) (w' : World) : Prop :=
  w.grownBy w' (some S) ∧ match res with
    | .ok (ag, r) => e = .returned (.tuple #[]) ∧ ∃ va, Par S B w' stop r va x ∧ OwnStrs w.heap.size w' va ag
    | .error r => e = wrongE stop r
theorem OwnStrs.one {C k : Nat} {w : World} {s : Str} (hs : s.length ≤ 140737488351232) (hk : k = w.heap.size) (hC : C ≤ w.heap.size) : OwnStrs C (w.alloc (.cells #[strV s] 9)) (.slice (some ⟨k, 0, none⟩) 1 1) [s] := by
  subst hk
  refine ⟨[[strV s]], ⟨by simp, Or.inr ⟨w.heap.size, 1, #[strV s], rfl, hC, heap_alloc_new w _, by simp, by unfold maxLen; omega, by simp, by simp⟩⟩, rfl, by simp, fun j hj => ?_⟩
  obtain rfl : j = 0 := by simpa using hj
  exact ⟨rfl, hs⟩
theorem OwnStrs.row' {C : Nat} {w w' : World} {v : Value} {xs : List Str} {row : Option Nat} (h : OwnStrs C w v xs) (hg : w.grownBy w' row) (hr : ∀ q, row = some q → q < C) : OwnStrs C w' v xs := by
  obtain ⟨vals, h1, h2, h3, h4⟩ := h
  refine ⟨vals, h1.kept hg ?_, h2, h3, h4⟩
  cases hv : v.ownBlock with
  | none => exact .inl rfl
  | some k =>
    right
    intro e
    have := hr k e.symm
    have := (h1.lt k hv).1
    omega
theorem Par.row {S B : Nat} {w w' : World} {stop : Int} {l : List Tok} {va : Value} {x : WishD} {row : Option Nat} (h : Par S B w stop l va x) (hg : w.grownBy w' row) (hr : ∀ q, row = some q → S < q) (hBS : B ≤ S) : Par S B w' stop l va x := by
  obtain ⟨lv, h1, h2⟩ := h
  refine ⟨lv, h1.grown hg (fun e => by have := hr S e.symm; omega), h2.below (B' := B) ?_ (Nat.le_refl _)⟩
  exact (Below.refl B w).grown hg (by have := h1.lt; omega) (fun k e => by have := hr k e; omega)
theorem Par.toks {S B : Nat} {w : World} {stop : Int} {l : List Tok} {va : Value} {x : WishD} (h : Par S B w stop l va x) : l.length ≤ 3518437208800 ∧ ∀ t ∈ l, okT t := by
  obtain ⟨lv, h1, b, off, cap, _, h2, h3, _⟩ := h
  exact ⟨h2, h3⟩
theorem Par.setAg {S B : Nat} {w : World} {stop : Int} {l : List Tok} {va : Value} {x : WishD} (h : Par S B w stop l va x) (hB : B ≤ S) (v : Value) : Par S B (w.setCell ⟨S, 10, none⟩ v) stop l v x := by
  obtain ⟨lv, h1, h2⟩ := h
  refine ⟨lv, ?_, h2.below ((Below.refl B w).setCell (p := ⟨S, 10, none⟩) hB _) (Nat.le_refl _)⟩
  simpa [parC] using h1.set 10 v
theorem Par.len {S B : Nat} {w : World} {stop : Int} {l : List Tok} {va : Value} {x : WishD} (h : Par S B w stop l va x) : (match w.cell? ⟨S, 0, none⟩ with | some (.slice _ n _) => n | _ => 0) = l.length := by
  obtain ⟨lv, h1, b, off, cap, ⟨a, rfl, _⟩, _⟩ := h
  rw [h1.cell 0]
  rfl
theorem name_got {l : List Tok} {s : Str} {r : List Tok} (h : pName l = .ok (s, r)) : ∃ t, l = t :: r ∧ s = t.text := by
  cases l with
  | nil => cases h
  | cons t u =>
    rw [name_cons] at h
    split at h
    · cases h; exact ⟨t, rfl, rfl⟩
    · cases h
theorem grown_row {S C : Nat} {w w1 w2 : World} {row : Option Nat} (h : w.grownBy w1 (some S)) (k : w1.grownBy w2 row) (hr : ∀ q, row = some q → w.heap.size ≤ q ∨ q = S) : w.grownBy w2 (some S) := by
  refine ⟨k.os.trans h.os, k.tape.trans h.tape, k.output.trans h.output, Nat.le_trans h.size k.size, fun q hq hne => ?_⟩
  have h1 := h.block q hq hne
  have h2 := k.block q (Nat.lt_of_lt_of_le hq h.size) (fun e => by
    rcases hr q e.symm with h3 | h3
    · omega
    · exact hne (by rw [h3]))
  exact h2.trans h1

set_option maxHeartbeats 8000000 in
set_option maxRecDepth 100000 in
theorem whom_any (S B : Nat) (w : World) (stop : Int) (l : List Tok) (x : WishD) (hS : Par S B w stop l (.slice none 0 0) x) (hB : B ≤ S) :
    Calls Tryz.prog 35 #[.pointer (some ⟨S, 0, none⟩)] w (WhomPost S B w stop x (pAgainst l)) := by
  have HS := Lib.hid hS
  have hlt := hS.lt
  obtain ⟨hl1, hl2⟩ := hS.toks
  have HOK := Lib.hid hl2
  clear hS hl2
  go_enter Tryz.func35, Tryz.ntmps35
  go_wp2_with fail
  refine (take_any S B w stop l _ x wAgainst HS.out hB).mono ?_
  rintro e w1 ⟨rfl, hp, hg⟩
  have HG := Lib.hid hg
  clear hg
  cases hk : pTake wAgainst l with
  | none =>
    rw [hk] at hp
    simp only [Option.getD_none, Option.isSome_none] at hp ⊢
    have HE : Hid (pAgainst l = .ok ([], l)) := Lib.hid (by unfold pAgainst; rw [hk])
    have HP := Lib.hid hp
    clear hk hp
    go_wp2
    first | go_end0 | refine bodyPost_ret (results_none rfl _ _ _) rfl ?_
    refine ⟨HG.out, ?_⟩
    rw [HE.out]
    exact ⟨rfl, _, HP.out, OwnRecs.nil⟩
  | some r =>
    rw [hk] at hp
    simp only [Option.getD_some, Option.isSome_some] at hp ⊢
    have HK := Lib.hid hk
    have HP := Lib.hid hp
    obtain ⟨t0, hl0, _⟩ := take_end hk
    have HL0 := Lib.hid hl0
    clear hk hp hl0
    go_wp2_with fail
    refine (name_any' S B w1 stop r _ x HP.out hB).mono ?_
    rintro e w2 ⟨hg, h⟩
    have HG2 := Lib.hid (HG.out.trans' hg)
    clear hg
    cases hn : pName r with
    | error r' =>
      rw [hn] at h
      simp only at h
      subst h
      have HE : Hid (pAgainst l = .error r') := Lib.hid (by unfold pAgainst; rw [HK.out]; simp only [hn])
      clear hn
      go_wp2
      exact ⟨rfl, HG2.out, by rw [HE.out]⟩
    | ok v =>
      obtain ⟨s, r'⟩ := v
      rw [hn] at h
      simp only at h
      obtain ⟨rfl, hp⟩ := h
      have HE : Hid (pAgainst l = pMoreA [s] r') := Lib.hid (by unfold pAgainst; rw [HK.out]; simp only [hn]; rfl)
      obtain ⟨t1, hl1', hs1⟩ := name_got hn
      have hsl : s.length ≤ 140737488351232 := by rw [hs1]; exact (HOK.out t1 (by rw [HL0.out, hl1']; simp)).2.1
      have hlen : 1 + r'.length ≤ l.length := by rw [HL0.out, hl1']; simp; omega
      have HP2 := Lib.hid hp
      have HSUB : Hid (∀ t ∈ r', okT t) := Lib.hid fun t ht => HOK.out t (by rw [HL0.out, hl1']; simp [ht])
      have hsz2 : w.heap.size ≤ w2.heap.size := HG2.out.size
      have hw2 := hp.lt
      have hS2 : w2.heap.size ≠ S := by omega
      have hsA : (w2.setCell ⟨S, 10, none⟩ (.slice (some ⟨w2.heap.size, 0, none⟩) 1 1)).heap.size = w2.heap.size := by simp [World.setCell]
      obtain ⟨W3, hW3⟩ : ∃ W, (w2.setCell ⟨S, 10, none⟩ (.slice (some ⟨w2.heap.size, 0, none⟩) 1 1)).alloc (.cells #[strV s] 9) = W := ⟨_, rfl⟩
      obtain ⟨v10, c10, f10⟩ := hp.cellS 10 (by decide)
      have HP3 : Hid (Par S B W3 stop r' (.slice (some ⟨w2.heap.size, 0, none⟩) 1 1) x) := Lib.hid (by rw [← hW3]; exact (hp.setAg hB _).below (box_below' _ _) hB)
      have HO3 : Hid (OwnStrs w.heap.size W3 (.slice (some ⟨w2.heap.size, 0, none⟩) 1 1) [s]) := Lib.hid (by rw [← hW3]; exact OwnStrs.one hsl hsA.symm (by omega))
      have HG3 : Hid (w.grownBy W3 (some S)) := Lib.hid (by rw [← hW3]; exact (HG2.out.trans' (grown_setCell _ _ _)).trans' (grown_ext (box_below' _ _)))
      have HW3 := Lib.hid hW3
      clear hn hp hl1' hs1 hW3
      go_wp2_with fail
      rw [HW3.out]
      clear c10 f10
      go_loopw [] (fun wr => ∃ (acc : List Str) (l' : List Tok) (va : Value), Par S B wr stop l' va x ∧ OwnStrs w.heap.size wr va acc ∧ pMoreA [s] r' = pMoreA acc l' ∧ w.grownBy wr (some S) ∧ acc.length + l'.length ≤ l.length ∧ ∀ t ∈ l', okT t) (fun wr => match wr.cell? ⟨S, 0, none⟩ with | some (.slice _ n _) => n | _ => 0)
      case atStart => exact ⟨[s], r', _, HP3.out, HO3.out, rfl, HG3.out, by simpa using hlen, HSUB.out⟩
      case round =>
        obtain ⟨acc, l', va, hp, ho, he, hg, hal, hok⟩ := hrel
        have HP4 := Lib.hid hp
        have HO4 := Lib.hid ho
        have HE4 := Lib.hid he
        have HG4 := Lib.hid hg
        have HOK4 := Lib.hid hok
        have HMS : Hid ((match wr.cell? ⟨S, 0, none⟩ with | some (.slice _ n _) => n | _ => 0) = l'.length) := Lib.hid (Par.len hp)
        clear hp ho he hg hok
        go_wp2_with fail
        refine (take_any S B wr stop l' va x sComma HP4.out hB).mono ?_
        rintro e w5 ⟨rfl, hp, hg⟩
        have HG5 := Lib.hid (HG4.out.trans' hg)
        have HO5 := Lib.hid (OwnStrs.row' HO4.out hg (fun q e => by have e2 : S = q := Option.some.inj e; omega))
        clear hg
        cases hk : pTake sComma l' with
        | none =>
          rw [hk] at hp
          simp only [Option.getD_none, Option.isSome_none] at hp ⊢
          have HEE : Hid (pAgainst l = .ok (acc, l')) := Lib.hid (by rw [HE.out, HE4.out, moreA_step, hk])
          have HP5 := Lib.hid hp
          clear hk hp
          go_wp2
          first | go_end0 | refine bodyPost_ret (results_none rfl _ _ _) rfl ?_
          refine ⟨HG5.out, ?_⟩
          rw [HEE.out]
          exact ⟨rfl, _, HP5.out, HO5.out⟩
        | some q =>
          rw [hk] at hp
          simp only [Option.getD_some, Option.isSome_some] at hp ⊢
          have HK5 := Lib.hid hk
          have HP5 := Lib.hid hp
          obtain ⟨t2, hl2, _⟩ := take_end hk
          have hq : l'.length = q.length + 1 := by rw [hl2]; simp
          have HOKQ : Hid (∀ t ∈ q, okT t) := Lib.hid fun t ht => HOK4.out t (by rw [hl2]; simp [ht])
          clear hk hp hl2
          obtain ⟨av, nv, cv, rfl⟩ := HO5.out.form'
          go_upto_region 3 with fail
          cases hn : pName q with
          | error r2 =>
            have HNE := Lib.hid hn
            have HEE : Hid (pAgainst l = .error r2) := Lib.hid (by rw [HE.out, HE4.out, moreA_step, HK5.out]; simp only [hn])
            clear hn
            obtain ⟨V, hV⟩ : ∃ V : List (Option Value), V = [some (.pointer (some ⟨S, 0, none⟩)), some (.pointer (some ⟨S, 0, none⟩)), some (.pointer (some ⟨S, 0, none⟩)), some (.pointer (some ⟨S, 2, none⟩)), some (.pointer (some ⟨S, 10, none⟩)), some (.slice av nv cv), some (.pointer (some ⟨S, 0, none⟩)), none, none, none, some (.pointer (some ⟨S, 0, none⟩)), some (.pointer (some ⟨S, 2, none⟩)), some (.pointer (some ⟨S, 10, none⟩)), none] := ⟨_, rfl⟩
            have HVV := Lib.hid hV
            clear hV
            refine wp_region_V [some 14, some 15, some 16, some 17, some 18, some 19, some 20, some 21, some 22, some 23, some 24, some 25, some 26, none] (fun L w' xs => ValsAt V L xs ∧ (L 7 = false ∧ w' = w5.drew)) (by kernel_rfl) (by kernel_rfl) (by rfl) (by rfl) (by rfl) ?_ ?_ ?_
            focus
              exact fun xs => ⟨ValsAt.none _ _, rfl, rfl⟩
            focus
              refine ⟨?_, ?_, ?_, ?_, ?_, ?_, ?_, ?_, ?_, ?_, ?_, ?_, ?_, ?_, trivial⟩
              all_goals
                intro L a' w' xs hi hd hf hJ K hK
                obtain ⟨hv, hl, hw⟩ := hJ
                have HF := Lib.hid hf
                have HVA := Lib.hid hv
                have HLI := Lib.hid hi
                clear hf hv hi
              focus
                clear hd
                obtain ⟨ρ, hρ⟩ : ∃ ρ, a'.eval = ρ := ⟨_, rfl⟩
                have hcst : ∀ v, ρ (.const v) = v := fun v => (congrFun hρ (.const v)).symm
                have l0 : ρ (.tmp 0) = .pointer (some ⟨S, 0, none⟩) := (congrFun hρ (.tmp 0)).symm.trans (HF.out.lo 0 rfl)
                rw [if_pos (by simp [Region.wanted])]
                unfold Oper.wp
                rw [hρ]
                clear hρ
                subst hw
                go_simp
                exact hK.out _ _ ⟨HVA.out.set (i := 0) (by rw [HVV.out]; rfl), ((upd_ne (L := L) (show (7 : Nat) ≠ 0 by decide)).trans hl), rfl⟩
              focus
                clear hd
                obtain ⟨ρ, hρ⟩ : ∃ ρ, a'.eval = ρ := ⟨_, rfl⟩
                have hcst : ∀ v, ρ (.const v) = v := fun v => (congrFun hρ (.const v)).symm
                have l0 : ρ (.tmp 0) = .pointer (some ⟨S, 0, none⟩) := (congrFun hρ (.tmp 0)).symm.trans (HF.out.lo 0 rfl)
                rw [if_pos (by simp [Region.wanted])]
                unfold Oper.wp
                rw [hρ]
                clear hρ
                subst hw
                go_simp
                exact hK.out _ _ ⟨HVA.out.set (i := 1) (by rw [HVV.out]; rfl), ((upd_ne (L := L) (show (7 : Nat) ≠ 1 by decide)).trans hl), rfl⟩
              focus
                obtain ⟨d1, _⟩ := hd
                obtain ⟨ρ, hρ⟩ : ∃ ρ, a'.eval = ρ := ⟨_, rfl⟩
                have hcst : ∀ v, ρ (.const v) = v := fun v => (congrFun hρ (.const v)).symm
                have v1 : ρ (.tmp 15) = .pointer (some ⟨S, 0, none⟩) := (congrFun hρ (.tmp 15)).symm.trans ((HF.out.ev 1 rfl d1).trans (HVA.out 1 _ (by rw [HVV.out]; rfl) d1))
                rw [if_pos (by simp [Region.wanted])]
                unfold Oper.wp
                rw [hρ]
                clear hρ
                subst hw
                go_simp
                exact hK.out _ _ ⟨HVA.out.set (i := 2) (by rw [HVV.out]; rfl), ((upd_ne (L := L) (show (7 : Nat) ≠ 2 by decide)).trans hl), rfl⟩
              focus
                obtain ⟨d2, _⟩ := hd
                obtain ⟨ρ, hρ⟩ : ∃ ρ, a'.eval = ρ := ⟨_, rfl⟩
                have hcst : ∀ v, ρ (.const v) = v := fun v => (congrFun hρ (.const v)).symm
                have v2 : ρ (.tmp 16) = .pointer (some ⟨S, 0, none⟩) := (congrFun hρ (.tmp 16)).symm.trans ((HF.out.ev 2 rfl d2).trans (HVA.out 2 _ (by rw [HVV.out]; rfl) d2))
                rw [if_pos (by simp [Region.wanted])]
                unfold Oper.wp
                rw [hρ]
                clear hρ
                subst hw
                go_simp
                exact hK.out _ _ ⟨HVA.out.set (i := 3) (by rw [HVV.out]; rfl), ((upd_ne (L := L) (show (7 : Nat) ≠ 3 by decide)).trans hl), rfl⟩
              focus
                obtain ⟨d3, _⟩ := hd
                obtain ⟨ρ, hρ⟩ : ∃ ρ, a'.eval = ρ := ⟨_, rfl⟩
                have hcst : ∀ v, ρ (.const v) = v := fun v => (congrFun hρ (.const v)).symm
                have v3 : ρ (.tmp 17) = .pointer (some ⟨S, 2, none⟩) := (congrFun hρ (.tmp 17)).symm.trans ((HF.out.ev 3 rfl d3).trans (HVA.out 3 _ (by rw [HVV.out]; rfl) d3))
                rw [if_pos (by simp [Region.wanted])]
                unfold Oper.wp
                rw [hρ]
                clear hρ
                subst hw
                go_simp
                exact hK.out _ _ ⟨HVA.out.set (i := 4) (by rw [HVV.out]; rfl), ((upd_ne (L := L) (show (7 : Nat) ≠ 4 by decide)).trans hl), rfl⟩
              focus
                obtain ⟨d4, _⟩ := hd
                obtain ⟨ρ, hρ⟩ : ∃ ρ, a'.eval = ρ := ⟨_, rfl⟩
                have hcst : ∀ v, ρ (.const v) = v := fun v => (congrFun hρ (.const v)).symm
                have v4 : ρ (.tmp 18) = .pointer (some ⟨S, 10, none⟩) := (congrFun hρ (.tmp 18)).symm.trans ((HF.out.ev 4 rfl d4).trans (HVA.out 4 _ (by rw [HVV.out]; rfl) d4))
                rw [if_pos (by simp [Region.wanted])]
                unfold Oper.wp
                rw [hρ]
                clear hρ
                subst hw
                obtain ⟨lv5, hc5, _⟩ := HP5.out
                have m5 := (hc5.drewL).cell 10
                simp [parC] at m5
                clear hc5
                go_simp
                exact hK.out _ _ ⟨HVA.out.set (i := 5) (by rw [HVV.out]; rfl), ((upd_ne (L := L) (show (7 : Nat) ≠ 5 by decide)).trans hl), rfl⟩
              focus
                clear hd
                obtain ⟨ρ, hρ⟩ : ∃ ρ, a'.eval = ρ := ⟨_, rfl⟩
                have hcst : ∀ v, ρ (.const v) = v := fun v => (congrFun hρ (.const v)).symm
                have l0 : ρ (.tmp 0) = .pointer (some ⟨S, 0, none⟩) := (congrFun hρ (.tmp 0)).symm.trans (HF.out.lo 0 rfl)
                rw [if_pos (by simp [Region.wanted])]
                unfold Oper.wp
                rw [hρ]
                clear hρ
                subst hw
                go_simp
                exact hK.out _ _ ⟨HVA.out.set (i := 6) (by rw [HVV.out]; rfl), ((upd_ne (L := L) (show (7 : Nat) ≠ 6 by decide)).trans hl), rfl⟩
              focus
                obtain ⟨d6, _⟩ := hd
                obtain ⟨ρ, hρ⟩ : ∃ ρ, a'.eval = ρ := ⟨_, rfl⟩
                have hcst : ∀ v, ρ (.const v) = v := fun v => (congrFun hρ (.const v)).symm
                have hfun : ∀ k, ρ (.func k) = .func (.func k) #[] #[] := fun k => (congrFun hρ (.func k)).symm
                have v6 : ρ (.tmp 20) = .pointer (some ⟨S, 0, none⟩) := (congrFun hρ (.tmp 20)).symm.trans ((HF.out.ev 6 rfl d6).trans (HVA.out 6 _ (by rw [HVV.out]; rfl) d6))
                rw [if_pos (by simp [Region.wanted])]
                unfold Oper.wp
                rw [hρ]
                clear hρ
                subst hw
                go_simp
                go_at_call 62
                refine (name_any' S B w5.drew stop q (.slice av nv cv) x (HP5.out.drew hB) hB).mono ?_
                rintro e w6 ⟨hg5, h5⟩
                rw [HNE.out] at h5
                simp only at h5
                subst h5
                have HG6 := Lib.hid (HG5.out.trans' ((grown_ext (Below.refl _ w5).drew).trans' hg5))
                clear hg5
                go_simp
                exact ⟨HF.out.defers, HG6.out, by rw [HEE.out]⟩
              focus
                obtain ⟨d7, _⟩ := hd
                obtain ⟨ρ, hρ⟩ : ∃ ρ, a'.eval = ρ := ⟨_, rfl⟩
                have hcst : ∀ v, ρ (.const v) = v := fun v => (congrFun hρ (.const v)).symm
                have v7 : ρ (.tmp 21) = xs 7 := (congrFun hρ (.tmp 21)).symm.trans (HF.out.ev 7 rfl d7)
                rw [if_pos (by simp [Region.wanted])]
                unfold Oper.wp
                rw [hρ]
                clear hρ
                rw [hl] at d7
                cases d7
              focus
                obtain ⟨d5, d8, d7, _⟩ := hd
                obtain ⟨ρ, hρ⟩ : ∃ ρ, a'.eval = ρ := ⟨_, rfl⟩
                have hcst : ∀ v, ρ (.const v) = v := fun v => (congrFun hρ (.const v)).symm
                have v5 : ρ (.tmp 19) = .slice av nv cv := (congrFun hρ (.tmp 19)).symm.trans ((HF.out.ev 5 rfl d5).trans (HVA.out 5 _ (by rw [HVV.out]; rfl) d5))
                have v8 : ρ (.tmp 22) = xs 8 := (congrFun hρ (.tmp 22)).symm.trans (HF.out.ev 8 rfl d8)
                rw [if_pos (by simp [Region.wanted])]
                unfold Oper.wp
                rw [hρ]
                clear hρ
                rw [hl] at d7
                cases d7
              focus
                obtain ⟨d0, _, d1, d2, d3, d4, d5, d6, d7, d8, d9, _⟩ := hd
                obtain ⟨ρ, hρ⟩ : ∃ ρ, a'.eval = ρ := ⟨_, rfl⟩
                have hcst : ∀ v, ρ (.const v) = v := fun v => (congrFun hρ (.const v)).symm
                have v0 : ρ (.tmp 14) = .pointer (some ⟨S, 0, none⟩) := (congrFun hρ (.tmp 14)).symm.trans ((HF.out.ev 0 rfl d0).trans (HVA.out 0 _ (by rw [HVV.out]; rfl) d0))
                rw [if_pos (by simp [Region.wanted])]
                unfold Oper.wp
                rw [hρ]
                clear hρ
                rw [hl] at d7
                cases d7
              focus
                obtain ⟨d10, d0, d1, d2, d3, d4, d5, d6, d7, d8, d9, _⟩ := hd
                obtain ⟨ρ, hρ⟩ : ∃ ρ, a'.eval = ρ := ⟨_, rfl⟩
                have hcst : ∀ v, ρ (.const v) = v := fun v => (congrFun hρ (.const v)).symm
                have v10 : ρ (.tmp 24) = .pointer (some ⟨S, 0, none⟩) := (congrFun hρ (.tmp 24)).symm.trans ((HF.out.ev 10 rfl d10).trans (HVA.out 10 _ (by rw [HVV.out]; rfl) d10))
                rw [if_pos (by simp [Region.wanted])]
                unfold Oper.wp
                rw [hρ]
                clear hρ
                rw [hl] at d7
                cases d7
              focus
                obtain ⟨d11, d0, d1, d2, d3, d4, d5, d6, d7, d8, d9, _⟩ := hd
                obtain ⟨ρ, hρ⟩ : ∃ ρ, a'.eval = ρ := ⟨_, rfl⟩
                have hcst : ∀ v, ρ (.const v) = v := fun v => (congrFun hρ (.const v)).symm
                have v11 : ρ (.tmp 25) = .pointer (some ⟨S, 2, none⟩) := (congrFun hρ (.tmp 25)).symm.trans ((HF.out.ev 11 rfl d11).trans (HVA.out 11 _ (by rw [HVV.out]; rfl) d11))
                rw [if_pos (by simp [Region.wanted])]
                unfold Oper.wp
                rw [hρ]
                clear hρ
                rw [hl] at d7
                cases d7
              focus
                obtain ⟨d12, d9, _, d0, d1, d2, d3, d4, d5, d6, d7, d8, _, _⟩ := hd
                obtain ⟨ρ, hρ⟩ : ∃ ρ, a'.eval = ρ := ⟨_, rfl⟩
                have hcst : ∀ v, ρ (.const v) = v := fun v => (congrFun hρ (.const v)).symm
                have v12 : ρ (.tmp 26) = .pointer (some ⟨S, 10, none⟩) := (congrFun hρ (.tmp 26)).symm.trans ((HF.out.ev 12 rfl d12).trans (HVA.out 12 _ (by rw [HVV.out]; rfl) d12))
                have v9 : ρ (.tmp 23) = xs 9 := (congrFun hρ (.tmp 23)).symm.trans (HF.out.ev 9 rfl d9)
                rw [if_pos (by simp [Region.wanted])]
                unfold Oper.wp
                rw [hρ]
                clear hρ
                rw [hl] at d7
                cases d7
            focus
              intro L w' xs hL hJ
              obtain ⟨hv, hl, hw⟩ := hJ
              have e0 : xs 0 = .pointer (some ⟨S, 0, none⟩) := hv 0 _ (by rw [HVV.out]; rfl) (hL 0 (by decide))
              have e1 : xs 1 = .pointer (some ⟨S, 0, none⟩) := hv 1 _ (by rw [HVV.out]; rfl) (hL 1 (by decide))
              have e2 : xs 2 = .pointer (some ⟨S, 0, none⟩) := hv 2 _ (by rw [HVV.out]; rfl) (hL 2 (by decide))
              have e3 : xs 3 = .pointer (some ⟨S, 2, none⟩) := hv 3 _ (by rw [HVV.out]; rfl) (hL 3 (by decide))
              have e4 : xs 4 = .pointer (some ⟨S, 10, none⟩) := hv 4 _ (by rw [HVV.out]; rfl) (hL 4 (by decide))
              have e5 : xs 5 = .slice av nv cv := hv 5 _ (by rw [HVV.out]; rfl) (hL 5 (by decide))
              have e6 : xs 6 = .pointer (some ⟨S, 0, none⟩) := hv 6 _ (by rw [HVV.out]; rfl) (hL 6 (by decide))
              have e10 : xs 10 = .pointer (some ⟨S, 0, none⟩) := hv 10 _ (by rw [HVV.out]; rfl) (hL 10 (by decide))
              have e11 : xs 11 = .pointer (some ⟨S, 2, none⟩) := hv 11 _ (by rw [HVV.out]; rfl) (hL 11 (by decide))
              have e12 : xs 12 = .pointer (some ⟨S, 10, none⟩) := hv 12 _ (by rw [HVV.out]; rfl) (hL 12 (by decide))
              simp only [putGo, Act.put, List.setIfInBounds_toArray, List.set_cons_zero, List.set_cons_succ, e0, e1, e2, e3, e4, e5, e6, e10, e11, e12]
              clear hv e0 e1 e2 e3 e4 e5 e6 e10 e11 e12
              rw [hL 7 (by decide)] at hl
              cases hl
          | ok v =>
            obtain ⟨s2, r2⟩ := v
            have HNE := Lib.hid hn
            have HEE : Hid (pMoreA [s] r' = pMoreA (acc ++ [s2]) r2) := Lib.hid (by rw [HE4.out, moreA_step, HK5.out]; simp only [hn])
            obtain ⟨t3, hl3, hs3⟩ := name_got hn
            have hsl2 : s2.length ≤ 140737488351232 := by rw [hs3]; exact (HOKQ.out t3 (by rw [hl3]; simp)).2.1
            have hr2 : q.length = r2.length + 1 := by rw [hl3]; simp
            have HOKR : Hid (∀ t ∈ r2, okT t) := Lib.hid fun t ht => HOKQ.out t (by rw [hl3]; simp [ht])
            have HOWN : Hid (∀ k, Value.ownBlock (.slice av nv cv) = some k → S < k) := Lib.hid fun k e => by have := (HO5.out.lt k e).1; omega
            have HOWW : Hid (∀ k, Value.ownBlock (.slice av nv cv) = some k → w.heap.size ≤ k ∨ k = S) := Lib.hid fun k e => .inl (HO5.out.lt k e).1
            have hszw : w.heap.size ≤ w5.heap.size := HG5.out.size
            clear hn hl3 hs3
            obtain ⟨V, hV⟩ : ∃ V : List (Option Value), V = [some (.pointer (some ⟨S, 0, none⟩)), some (.pointer (some ⟨S, 0, none⟩)), some (.pointer (some ⟨S, 0, none⟩)), some (.pointer (some ⟨S, 2, none⟩)), some (.pointer (some ⟨S, 10, none⟩)), some (.slice av nv cv), some (.pointer (some ⟨S, 0, none⟩)), some (strV s2), none, none, some (.pointer (some ⟨S, 0, none⟩)), some (.pointer (some ⟨S, 2, none⟩)), some (.pointer (some ⟨S, 10, none⟩)), none] := ⟨_, rfl⟩
            have HVV := Lib.hid hV
            clear hV
            refine wp_region_V [some 14, some 15, some 16, some 17, some 18, some 19, some 20, some 21, some 22, some 23, some 24, some 25, some 26, none] (fun L w' xs => ValsAt V L xs ∧ ((L 7 = false ∧ L 8 = false ∧ L 9 = false ∧ L 13 = false ∧ w' = w5.drew) ∨ (L 7 = true ∧ L 8 = false ∧ L 9 = false ∧ L 13 = false ∧ w.grownBy w' (some S) ∧ w.heap.size ≤ w'.heap.size ∧ Par S B w' stop r2 (.slice av nv cv) x ∧ OwnStrs w.heap.size w' (.slice av nv cv) (acc)) ∨ (L 7 = true ∧ L 8 = true ∧ L 9 = false ∧ L 13 = false ∧ (∃ g, xs 8 = .slice (some ⟨g, 0, none⟩) 1 1 ∧ w'.cell? ⟨g, 0, none⟩ = some (strV s2)) ∧ w.grownBy w' (some S) ∧ w.heap.size ≤ w'.heap.size ∧ Par S B w' stop r2 (.slice av nv cv) x ∧ OwnStrs w.heap.size w' (.slice av nv cv) (acc)) ∨ (L 7 = true ∧ L 8 = true ∧ L 9 = true ∧ L 13 = false ∧ L 5 = true ∧ w.grownBy w' (some S) ∧ w.heap.size ≤ w'.heap.size ∧ Par S B w' stop r2 (.slice av nv cv) x ∧ OwnStrs w.heap.size w' (xs 9) (acc ++ [s2])) ∨ (L 7 = true ∧ L 8 = true ∧ L 9 = true ∧ L 13 = true ∧ L 5 = true ∧ w.grownBy w' (some S) ∧ w.heap.size ≤ w'.heap.size ∧ Par S B w' stop r2 (xs 9) x ∧ OwnStrs w.heap.size w' (xs 9) (acc ++ [s2])))) (by kernel_rfl) (by kernel_rfl) (by rfl) (by rfl) (by rfl) ?_ ?_ ?_
            focus
              exact fun xs => ⟨ValsAt.none _ _, Or.inl ⟨rfl, rfl, rfl, rfl, rfl⟩⟩
            focus
              refine ⟨?_, ?_, ?_, ?_, ?_, ?_, ?_, ?_, ?_, ?_, ?_, ?_, ?_, ?_, trivial⟩
              all_goals
                intro L a' w' xs hi hd hf hJ K hK
                obtain ⟨hv, hw⟩ := hJ
                have HF := Lib.hid hf
                have HVA := Lib.hid hv
                have HLI := Lib.hid hi
                clear hf hv hi
              focus
                clear hd
                obtain ⟨ρ, hρ⟩ : ∃ ρ, a'.eval = ρ := ⟨_, rfl⟩
                have hcst : ∀ v, ρ (.const v) = v := fun v => (congrFun hρ (.const v)).symm
                have l0 : ρ (.tmp 0) = .pointer (some ⟨S, 0, none⟩) := (congrFun hρ (.tmp 0)).symm.trans (HF.out.lo 0 rfl)
                rw [if_pos (by simp [Region.wanted])]
                unfold Oper.wp
                rw [hρ]
                clear hρ
                have HW := Lib.hid hw
                clear hw
                go_simp
                exact hK.out _ _ ⟨HVA.out.set (i := 0) (by rw [HVV.out]; rfl), by simp only [upd_ne (L := L) (show (5 : Nat) ≠ 0 by decide), upd_ne (L := L) (show (7 : Nat) ≠ 0 by decide), upd_ne (L := L) (show (8 : Nat) ≠ 0 by decide), upd_ne (L := L) (show (9 : Nat) ≠ 0 by decide), upd_ne (L := L) (show (13 : Nat) ≠ 0 by decide), updV_ne (xs := xs) (show (8 : Nat) ≠ 0 by decide), updV_ne (xs := xs) (show (9 : Nat) ≠ 0 by decide)]; exact HW.out⟩
              focus
                clear hd
                obtain ⟨ρ, hρ⟩ : ∃ ρ, a'.eval = ρ := ⟨_, rfl⟩
                have hcst : ∀ v, ρ (.const v) = v := fun v => (congrFun hρ (.const v)).symm
                have l0 : ρ (.tmp 0) = .pointer (some ⟨S, 0, none⟩) := (congrFun hρ (.tmp 0)).symm.trans (HF.out.lo 0 rfl)
                rw [if_pos (by simp [Region.wanted])]
                unfold Oper.wp
                rw [hρ]
                clear hρ
                have HW := Lib.hid hw
                clear hw
                go_simp
                exact hK.out _ _ ⟨HVA.out.set (i := 1) (by rw [HVV.out]; rfl), by simp only [upd_ne (L := L) (show (5 : Nat) ≠ 1 by decide), upd_ne (L := L) (show (7 : Nat) ≠ 1 by decide), upd_ne (L := L) (show (8 : Nat) ≠ 1 by decide), upd_ne (L := L) (show (9 : Nat) ≠ 1 by decide), upd_ne (L := L) (show (13 : Nat) ≠ 1 by decide), updV_ne (xs := xs) (show (8 : Nat) ≠ 1 by decide), updV_ne (xs := xs) (show (9 : Nat) ≠ 1 by decide)]; exact HW.out⟩
              focus
                obtain ⟨d1, _⟩ := hd
                obtain ⟨ρ, hρ⟩ : ∃ ρ, a'.eval = ρ := ⟨_, rfl⟩
                have hcst : ∀ v, ρ (.const v) = v := fun v => (congrFun hρ (.const v)).symm
                have v1 : ρ (.tmp 15) = .pointer (some ⟨S, 0, none⟩) := (congrFun hρ (.tmp 15)).symm.trans ((HF.out.ev 1 rfl d1).trans (HVA.out 1 _ (by rw [HVV.out]; rfl) d1))
                rw [if_pos (by simp [Region.wanted])]
                unfold Oper.wp
                rw [hρ]
                clear hρ
                have HW := Lib.hid hw
                clear hw
                go_simp
                exact hK.out _ _ ⟨HVA.out.set (i := 2) (by rw [HVV.out]; rfl), by simp only [upd_ne (L := L) (show (5 : Nat) ≠ 2 by decide), upd_ne (L := L) (show (7 : Nat) ≠ 2 by decide), upd_ne (L := L) (show (8 : Nat) ≠ 2 by decide), upd_ne (L := L) (show (9 : Nat) ≠ 2 by decide), upd_ne (L := L) (show (13 : Nat) ≠ 2 by decide), updV_ne (xs := xs) (show (8 : Nat) ≠ 2 by decide), updV_ne (xs := xs) (show (9 : Nat) ≠ 2 by decide)]; exact HW.out⟩
              focus
                obtain ⟨d2, _⟩ := hd
                obtain ⟨ρ, hρ⟩ : ∃ ρ, a'.eval = ρ := ⟨_, rfl⟩
                have hcst : ∀ v, ρ (.const v) = v := fun v => (congrFun hρ (.const v)).symm
                have v2 : ρ (.tmp 16) = .pointer (some ⟨S, 0, none⟩) := (congrFun hρ (.tmp 16)).symm.trans ((HF.out.ev 2 rfl d2).trans (HVA.out 2 _ (by rw [HVV.out]; rfl) d2))
                rw [if_pos (by simp [Region.wanted])]
                unfold Oper.wp
                rw [hρ]
                clear hρ
                have HW := Lib.hid hw
                clear hw
                go_simp
                exact hK.out _ _ ⟨HVA.out.set (i := 3) (by rw [HVV.out]; rfl), by simp only [upd_ne (L := L) (show (5 : Nat) ≠ 3 by decide), upd_ne (L := L) (show (7 : Nat) ≠ 3 by decide), upd_ne (L := L) (show (8 : Nat) ≠ 3 by decide), upd_ne (L := L) (show (9 : Nat) ≠ 3 by decide), upd_ne (L := L) (show (13 : Nat) ≠ 3 by decide), updV_ne (xs := xs) (show (8 : Nat) ≠ 3 by decide), updV_ne (xs := xs) (show (9 : Nat) ≠ 3 by decide)]; exact HW.out⟩
              focus
                obtain ⟨d3, _⟩ := hd
                obtain ⟨ρ, hρ⟩ : ∃ ρ, a'.eval = ρ := ⟨_, rfl⟩
                have hcst : ∀ v, ρ (.const v) = v := fun v => (congrFun hρ (.const v)).symm
                have v3 : ρ (.tmp 17) = .pointer (some ⟨S, 2, none⟩) := (congrFun hρ (.tmp 17)).symm.trans ((HF.out.ev 3 rfl d3).trans (HVA.out 3 _ (by rw [HVV.out]; rfl) d3))
                rw [if_pos (by simp [Region.wanted])]
                unfold Oper.wp
                rw [hρ]
                clear hρ
                have HW := Lib.hid hw
                clear hw
                go_simp
                exact hK.out _ _ ⟨HVA.out.set (i := 4) (by rw [HVV.out]; rfl), by simp only [upd_ne (L := L) (show (5 : Nat) ≠ 4 by decide), upd_ne (L := L) (show (7 : Nat) ≠ 4 by decide), upd_ne (L := L) (show (8 : Nat) ≠ 4 by decide), upd_ne (L := L) (show (9 : Nat) ≠ 4 by decide), upd_ne (L := L) (show (13 : Nat) ≠ 4 by decide), updV_ne (xs := xs) (show (8 : Nat) ≠ 4 by decide), updV_ne (xs := xs) (show (9 : Nat) ≠ 4 by decide)]; exact HW.out⟩
              focus
                obtain ⟨d4, _⟩ := hd
                obtain ⟨ρ, hρ⟩ : ∃ ρ, a'.eval = ρ := ⟨_, rfl⟩
                have hcst : ∀ v, ρ (.const v) = v := fun v => (congrFun hρ (.const v)).symm
                have v4 : ρ (.tmp 18) = .pointer (some ⟨S, 10, none⟩) := (congrFun hρ (.tmp 18)).symm.trans ((HF.out.ev 4 rfl d4).trans (HVA.out 4 _ (by rw [HVV.out]; rfl) d4))
                rw [if_pos (by simp [Region.wanted])]
                unfold Oper.wp
                rw [hρ]
                clear hρ
                rcases hw with ⟨h7, h8, h9, h13, hw⟩ | ⟨h7, h8, h9, h13, hg, hz, hp, ho⟩ | ⟨h7, h8, h9, h13, ⟨g, e8, hgc⟩, hg, hz, hp, ho⟩ | ⟨h7, h8, h9, h13, h5, hg, hz, hp, ho⟩ | ⟨h7, h8, h9, h13, h5, hg, hz, hp, ho⟩
                focus
                  subst hw
                  obtain ⟨lv5, hc5, _⟩ := HP5.out.drew hB
                  have m5 := hc5.cell 10
                  simp [parC] at m5
                  clear hc5
                  go_simp
                  exact hK.out _ _ ⟨HVA.out.set (i := 5) (by rw [HVV.out]; rfl), .inl ⟨((upd_ne (L := L) (show (7 : Nat) ≠ 5 by decide)).trans h7), ((upd_ne (L := L) (show (8 : Nat) ≠ 5 by decide)).trans h8), ((upd_ne (L := L) (show (9 : Nat) ≠ 5 by decide)).trans h9), ((upd_ne (L := L) (show (13 : Nat) ≠ 5 by decide)).trans h13), rfl⟩⟩
                focus
                  have HGG := Lib.hid hg
                  have HZZ := Lib.hid hz
                  have HPP := Lib.hid hp
                  have HOO := Lib.hid ho
                  obtain ⟨lv5, hc5, _⟩ := HPP.out
                  have m5 := hc5.cell 10
                  simp [parC] at m5
                  clear hc5
                  clear hg hz hp ho
                  go_simp
                  exact hK.out _ _ ⟨HVA.out.set (i := 5) (by rw [HVV.out]; rfl), .inr (.inl ⟨((upd_ne (L := L) (show (7 : Nat) ≠ 5 by decide)).trans h7), ((upd_ne (L := L) (show (8 : Nat) ≠ 5 by decide)).trans h8), ((upd_ne (L := L) (show (9 : Nat) ≠ 5 by decide)).trans h9), ((upd_ne (L := L) (show (13 : Nat) ≠ 5 by decide)).trans h13), HGG.out, HZZ.out, HPP.out, HOO.out⟩)⟩
                focus
                  have HGG := Lib.hid hg
                  have HZZ := Lib.hid hz
                  have HPP := Lib.hid hp
                  have HOO := Lib.hid ho
                  obtain ⟨lv5, hc5, _⟩ := HPP.out
                  have m5 := hc5.cell 10
                  simp [parC] at m5
                  clear hc5
                  have HGC := Lib.hid hgc
                  have E8 := Lib.hid e8
                  clear hg hz hp ho hgc e8
                  go_simp
                  exact hK.out _ _ ⟨HVA.out.set (i := 5) (by rw [HVV.out]; rfl), .inr (.inr (.inl ⟨((upd_ne (L := L) (show (7 : Nat) ≠ 5 by decide)).trans h7), ((upd_ne (L := L) (show (8 : Nat) ≠ 5 by decide)).trans h8), ((upd_ne (L := L) (show (9 : Nat) ≠ 5 by decide)).trans h9), ((upd_ne (L := L) (show (13 : Nat) ≠ 5 by decide)).trans h13), ⟨g, (updV_ne (xs := xs) (show (8 : Nat) ≠ 5 by decide)).trans E8.out, HGC.out⟩, HGG.out, HZZ.out, HPP.out, HOO.out⟩))⟩
                focus
                  rw [HLI.out] at h5
                  cases h5
                focus
                  rw [HLI.out] at h5
                  cases h5
              focus
                clear hd
                obtain ⟨ρ, hρ⟩ : ∃ ρ, a'.eval = ρ := ⟨_, rfl⟩
                have hcst : ∀ v, ρ (.const v) = v := fun v => (congrFun hρ (.const v)).symm
                have l0 : ρ (.tmp 0) = .pointer (some ⟨S, 0, none⟩) := (congrFun hρ (.tmp 0)).symm.trans (HF.out.lo 0 rfl)
                rw [if_pos (by simp [Region.wanted])]
                unfold Oper.wp
                rw [hρ]
                clear hρ
                have HW := Lib.hid hw
                clear hw
                go_simp
                exact hK.out _ _ ⟨HVA.out.set (i := 6) (by rw [HVV.out]; rfl), by simp only [upd_ne (L := L) (show (5 : Nat) ≠ 6 by decide), upd_ne (L := L) (show (7 : Nat) ≠ 6 by decide), upd_ne (L := L) (show (8 : Nat) ≠ 6 by decide), upd_ne (L := L) (show (9 : Nat) ≠ 6 by decide), upd_ne (L := L) (show (13 : Nat) ≠ 6 by decide), updV_ne (xs := xs) (show (8 : Nat) ≠ 6 by decide), updV_ne (xs := xs) (show (9 : Nat) ≠ 6 by decide)]; exact HW.out⟩
              focus
                obtain ⟨d6, _⟩ := hd
                obtain ⟨ρ, hρ⟩ : ∃ ρ, a'.eval = ρ := ⟨_, rfl⟩
                have hcst : ∀ v, ρ (.const v) = v := fun v => (congrFun hρ (.const v)).symm
                have hfun : ∀ k, ρ (.func k) = .func (.func k) #[] #[] := fun k => (congrFun hρ (.func k)).symm
                have v6 : ρ (.tmp 20) = .pointer (some ⟨S, 0, none⟩) := (congrFun hρ (.tmp 20)).symm.trans ((HF.out.ev 6 rfl d6).trans (HVA.out 6 _ (by rw [HVV.out]; rfl) d6))
                rw [if_pos (by simp [Region.wanted])]
                unfold Oper.wp
                rw [hρ]
                clear hρ
                rcases hw with ⟨h7, h8, h9, h13, hw⟩ | ⟨h7, h8, h9, h13, hg, hz, hp, ho⟩ | ⟨h7, h8, h9, h13, ⟨g, e8, hgc⟩, hg, hz, hp, ho⟩ | ⟨h7, h8, h9, h13, h5, hg, hz, hp, ho⟩ | ⟨h7, h8, h9, h13, h5, hg, hz, hp, ho⟩
                rotate_left
                focus
                  rw [HLI.out] at h7
                  cases h7
                focus
                  rw [HLI.out] at h7
                  cases h7
                focus
                  rw [HLI.out] at h7
                  cases h7
                focus
                  rw [HLI.out] at h7
                  cases h7
                subst hw
                go_simp
                go_at_call 62
                refine (name_any' S B w5.drew stop q (.slice av nv cv) x (HP5.out.drew hB) hB).mono ?_
                rintro e w6 ⟨hg6, h6⟩
                rw [HNE.out] at h6
                simp only at h6
                obtain ⟨rfl, hp6⟩ := h6
                have hgw := HG5.out.trans' ((grown_ext (Below.refl _ w5).drew).trans' hg6)
                exact hK.out _ _ ⟨HVA.out.set (i := 7) (by rw [HVV.out]; rfl), .inr (.inl ⟨upd_self _ _, ((upd_ne (L := L) (show (8 : Nat) ≠ 7 by decide)).trans h8), ((upd_ne (L := L) (show (9 : Nat) ≠ 7 by decide)).trans h9), ((upd_ne (L := L) (show (13 : Nat) ≠ 7 by decide)).trans h13), hgw, hgw.size, hp6, OwnStrs.row' (OwnRecs.below strK HO5.out (Below.refl _ w5).drew hszw) hg6 (fun k e => by have e2 : S = k := Option.some.inj e; omega)⟩)⟩
              focus
                obtain ⟨d7, _⟩ := hd
                obtain ⟨ρ, hρ⟩ : ∃ ρ, a'.eval = ρ := ⟨_, rfl⟩
                have hcst : ∀ v, ρ (.const v) = v := fun v => (congrFun hρ (.const v)).symm
                have v7 : ρ (.tmp 21) = strV s2 := (congrFun hρ (.tmp 21)).symm.trans ((HF.out.ev 7 rfl d7).trans (HVA.out 7 _ (by rw [HVV.out]; rfl) d7))
                rw [if_pos (by simp [Region.wanted])]
                unfold Oper.wp
                rw [hρ]
                clear hρ
                rcases hw with ⟨h7, h8, h9, h13, hw⟩ | ⟨h7, h8, h9, h13, hg, hz, hp, ho⟩ | ⟨h7, h8, h9, h13, ⟨g, e8, hgc⟩, hg, hz, hp, ho⟩ | ⟨h7, h8, h9, h13, h5, hg, hz, hp, ho⟩ | ⟨h7, h8, h9, h13, h5, hg, hz, hp, ho⟩
                focus
                  rw [h7] at d7
                  cases d7
                rotate_left
                focus
                  rw [HLI.out] at h8
                  cases h8
                focus
                  rw [HLI.out] at h8
                  cases h8
                focus
                  rw [HLI.out] at h8
                  cases h8
                have HGG := Lib.hid hg
                have HZZ := Lib.hid hz
                have HPP := Lib.hid hp
                have HOO := Lib.hid ho
                clear hg hz hp ho
                go_simp
                exact hK.out _ _ ⟨HVA.out.free (i := 8) (by rw [HVV.out]; rfl) _, .inr (.inr (.inl ⟨((upd_ne (L := L) (show (7 : Nat) ≠ 8 by decide)).trans h7), upd_self _ _, ((upd_ne (L := L) (show (9 : Nat) ≠ 8 by decide)).trans h9), ((upd_ne (L := L) (show (13 : Nat) ≠ 8 by decide)).trans h13), ⟨_, updV_self _ _ _, World.cell?_alloc_at _ _ _ _ rfl⟩, HGG.out.trans' (grown_ext (box_below' _ _)), (by have := HZZ.out; simp; omega), HPP.out.below (box_below' _ _) hB, OwnRecs.below strK HOO.out (box_below' _ _) HZZ.out⟩))⟩
              focus
                obtain ⟨d5, d8, d7, _⟩ := hd
                have v5 : a'.eval (.tmp 19) = .slice av nv cv := (HF.out.ev 5 rfl d5).trans (HVA.out 5 _ (by rw [HVV.out]; rfl) d5)
                have v8 : a'.eval (.tmp 22) = xs 8 := HF.out.ev 8 rfl d8
                rw [if_pos (by simp [Region.wanted])]
                rcases hw with ⟨h7, h8, h9, h13, hw⟩ | ⟨h7, h8, h9, h13, hg, hz, hp, ho⟩ | ⟨h7, h8, h9, h13, ⟨g, e8, hgc⟩, hg, hz, hp, ho⟩ | ⟨h7, h8, h9, h13, h5, hg, hz, hp, ho⟩ | ⟨h7, h8, h9, h13, h5, hg, hz, hp, ho⟩
                focus
                  rw [h8] at d8
                  cases d8
                focus
                  rw [h8] at d8
                  cases d8
                rotate_left
                focus
                  rw [HLI.out] at h9
                  cases h9
                focus
                  rw [HLI.out] at h9
                  cases h9
                rw [e8] at v8
                obtain ⟨v', w6, hrun, ho6, hg6, _⟩ := run_append_recs strK (by decide) str_inf Tryz.underlying32 rfl (by decide) (by decide) (oty := 32) (C := w.heap.size) (v := .slice av nv cv) (vx := .slice (some ⟨g, 0, none⟩) 1 1) (xs := acc) (ys := [s2]) ho (srcRecs_one strK (g := g) (c := 1) (cs := [strV s2]) (d := s2) (fun q u hq => by
                  match q, hq with
                  | 0, hq => simp at hq; subst hq; exact hgc) ⟨rfl, hsl2⟩) (by simp; omega) hz
                refine wp_of_append _ rfl v5 v8 hrun ?_
                exact hK.out _ _ ⟨HVA.out.free (i := 9) (by rw [HVV.out]; rfl) _, .inr (.inr (.inr (.inl ⟨((upd_ne (L := L) (show (7 : Nat) ≠ 9 by decide)).trans h7), ((upd_ne (L := L) (show (8 : Nat) ≠ 9 by decide)).trans h8), upd_self _ _, ((upd_ne (L := L) (show (13 : Nat) ≠ 9 by decide)).trans h13), ((upd_ne (L := L) (show (5 : Nat) ≠ 9 by decide)).trans d5), grown_row (C := 0) hg hg6 HOWW.out, (by have := hg6.size; omega), hp.row hg6 HOWN.out hB, by rw [updV_self]; exact ho6⟩)))⟩
              focus
                obtain ⟨d0, _, d1, d2, d3, d4, d5, d6, d7, d8, d9, _⟩ := hd
                obtain ⟨ρ, hρ⟩ : ∃ ρ, a'.eval = ρ := ⟨_, rfl⟩
                have hcst : ∀ v, ρ (.const v) = v := fun v => (congrFun hρ (.const v)).symm
                have v0 : ρ (.tmp 14) = .pointer (some ⟨S, 0, none⟩) := (congrFun hρ (.tmp 14)).symm.trans ((HF.out.ev 0 rfl d0).trans (HVA.out 0 _ (by rw [HVV.out]; rfl) d0))
                rw [if_pos (by simp [Region.wanted])]
                unfold Oper.wp
                rw [hρ]
                clear hρ
                have HW := Lib.hid hw
                clear hw
                go_simp
                exact hK.out _ _ ⟨HVA.out.set (i := 10) (by rw [HVV.out]; rfl), by simp only [upd_ne (L := L) (show (5 : Nat) ≠ 10 by decide), upd_ne (L := L) (show (7 : Nat) ≠ 10 by decide), upd_ne (L := L) (show (8 : Nat) ≠ 10 by decide), upd_ne (L := L) (show (9 : Nat) ≠ 10 by decide), upd_ne (L := L) (show (13 : Nat) ≠ 10 by decide), updV_ne (xs := xs) (show (8 : Nat) ≠ 10 by decide), updV_ne (xs := xs) (show (9 : Nat) ≠ 10 by decide)]; exact HW.out⟩
              focus
                obtain ⟨d10, d0, d1, d2, d3, d4, d5, d6, d7, d8, d9, _⟩ := hd
                obtain ⟨ρ, hρ⟩ : ∃ ρ, a'.eval = ρ := ⟨_, rfl⟩
                have hcst : ∀ v, ρ (.const v) = v := fun v => (congrFun hρ (.const v)).symm
                have v10 : ρ (.tmp 24) = .pointer (some ⟨S, 0, none⟩) := (congrFun hρ (.tmp 24)).symm.trans ((HF.out.ev 10 rfl d10).trans (HVA.out 10 _ (by rw [HVV.out]; rfl) d10))
                rw [if_pos (by simp [Region.wanted])]
                unfold Oper.wp
                rw [hρ]
                clear hρ
                have HW := Lib.hid hw
                clear hw
                go_simp
                exact hK.out _ _ ⟨HVA.out.set (i := 11) (by rw [HVV.out]; rfl), by simp only [upd_ne (L := L) (show (5 : Nat) ≠ 11 by decide), upd_ne (L := L) (show (7 : Nat) ≠ 11 by decide), upd_ne (L := L) (show (8 : Nat) ≠ 11 by decide), upd_ne (L := L) (show (9 : Nat) ≠ 11 by decide), upd_ne (L := L) (show (13 : Nat) ≠ 11 by decide), updV_ne (xs := xs) (show (8 : Nat) ≠ 11 by decide), updV_ne (xs := xs) (show (9 : Nat) ≠ 11 by decide)]; exact HW.out⟩
              focus
                obtain ⟨d11, d0, d1, d2, d3, d4, d5, d6, d7, d8, d9, _⟩ := hd
                obtain ⟨ρ, hρ⟩ : ∃ ρ, a'.eval = ρ := ⟨_, rfl⟩
                have hcst : ∀ v, ρ (.const v) = v := fun v => (congrFun hρ (.const v)).symm
                have v11 : ρ (.tmp 25) = .pointer (some ⟨S, 2, none⟩) := (congrFun hρ (.tmp 25)).symm.trans ((HF.out.ev 11 rfl d11).trans (HVA.out 11 _ (by rw [HVV.out]; rfl) d11))
                rw [if_pos (by simp [Region.wanted])]
                unfold Oper.wp
                rw [hρ]
                clear hρ
                have HW := Lib.hid hw
                clear hw
                go_simp
                exact hK.out _ _ ⟨HVA.out.set (i := 12) (by rw [HVV.out]; rfl), by simp only [upd_ne (L := L) (show (5 : Nat) ≠ 12 by decide), upd_ne (L := L) (show (7 : Nat) ≠ 12 by decide), upd_ne (L := L) (show (8 : Nat) ≠ 12 by decide), upd_ne (L := L) (show (9 : Nat) ≠ 12 by decide), upd_ne (L := L) (show (13 : Nat) ≠ 12 by decide), updV_ne (xs := xs) (show (8 : Nat) ≠ 12 by decide), updV_ne (xs := xs) (show (9 : Nat) ≠ 12 by decide)]; exact HW.out⟩
              focus
                obtain ⟨d12, d9, _, d0, d1, d2, d3, d4, d5, d6, d7, d8, _, _⟩ := hd
                obtain ⟨ρ, hρ⟩ : ∃ ρ, a'.eval = ρ := ⟨_, rfl⟩
                have hcst : ∀ v, ρ (.const v) = v := fun v => (congrFun hρ (.const v)).symm
                have v12 : ρ (.tmp 26) = .pointer (some ⟨S, 10, none⟩) := (congrFun hρ (.tmp 26)).symm.trans ((HF.out.ev 12 rfl d12).trans (HVA.out 12 _ (by rw [HVV.out]; rfl) d12))
                have v9 : ρ (.tmp 23) = xs 9 := (congrFun hρ (.tmp 23)).symm.trans (HF.out.ev 9 rfl d9)
                rw [if_pos (by simp [Region.wanted])]
                unfold Oper.wp
                rw [hρ]
                clear hρ
                rcases hw with ⟨h7, h8, h9, h13, hw⟩ | ⟨h7, h8, h9, h13, hg, hz, hp, ho⟩ | ⟨h7, h8, h9, h13, ⟨g, e8, hgc⟩, hg, hz, hp, ho⟩ | ⟨h7, h8, h9, h13, h5, hg, hz, hp, ho⟩ | ⟨h7, h8, h9, h13, h5, hg, hz, hp, ho⟩
                focus
                  rw [h9] at d9
                  cases d9
                focus
                  rw [h9] at d9
                  cases d9
                focus
                  rw [h9] at d9
                  cases d9
                rotate_left
                focus
                  rw [HLI.out] at h13
                  cases h13
                have HGG := Lib.hid hg
                have HZZ := Lib.hid hz
                have HPP := Lib.hid hp
                have HOO := Lib.hid ho
                obtain ⟨vc, hvc, hvf⟩ := hp.cellS 10 (by decide)
                obtain ⟨a9, n9, c9, e9⟩ := ho.form'
                rw [e9] at v9
                have E9 := Lib.hid e9
                clear hg hz hp ho e9
                go_simp
                exact hK.out _ _ ⟨HVA.out.free (i := 13) (by rw [HVV.out]; rfl) undef, .inr (.inr (.inr (.inr ⟨((upd_ne (L := L) (show (7 : Nat) ≠ 13 by decide)).trans h7), ((upd_ne (L := L) (show (8 : Nat) ≠ 13 by decide)).trans h8), ((upd_ne (L := L) (show (9 : Nat) ≠ 13 by decide)).trans h9), upd_self _ _, ((upd_ne (L := L) (show (5 : Nat) ≠ 13 by decide)).trans h5), grown_row (C := 0) HGG.out (grown_setCell _ ⟨S, 10, none⟩ _) (fun k e => .inr (Option.some.inj e).symm), (by have := HZZ.out; simpa [World.setCell] using this), by rw [updV_ne (xs := xs) (show (9 : Nat) ≠ 13 by decide), E9.out]; exact HPP.out.setAg hB _, by rw [updV_ne (xs := xs) (show (9 : Nat) ≠ 13 by decide)]; exact OwnStrs.row' HOO.out (grown_setCell _ ⟨S, 10, none⟩ _) (fun k e => by have e2 : S = k := Option.some.inj e; omega)⟩)))⟩
            focus
              intro L w' xs hL hJ
              obtain ⟨hv, hw⟩ := hJ
              have e0 : xs 0 = .pointer (some ⟨S, 0, none⟩) := hv 0 _ (by rw [HVV.out]; rfl) (hL 0 (by decide))
              have e1 : xs 1 = .pointer (some ⟨S, 0, none⟩) := hv 1 _ (by rw [HVV.out]; rfl) (hL 1 (by decide))
              have e2 : xs 2 = .pointer (some ⟨S, 0, none⟩) := hv 2 _ (by rw [HVV.out]; rfl) (hL 2 (by decide))
              have e3 : xs 3 = .pointer (some ⟨S, 2, none⟩) := hv 3 _ (by rw [HVV.out]; rfl) (hL 3 (by decide))
              have e4 : xs 4 = .pointer (some ⟨S, 10, none⟩) := hv 4 _ (by rw [HVV.out]; rfl) (hL 4 (by decide))
              have e5 : xs 5 = .slice av nv cv := hv 5 _ (by rw [HVV.out]; rfl) (hL 5 (by decide))
              have e6 : xs 6 = .pointer (some ⟨S, 0, none⟩) := hv 6 _ (by rw [HVV.out]; rfl) (hL 6 (by decide))
              have e7 : xs 7 = strV s2 := hv 7 _ (by rw [HVV.out]; rfl) (hL 7 (by decide))
              have e10 : xs 10 = .pointer (some ⟨S, 0, none⟩) := hv 10 _ (by rw [HVV.out]; rfl) (hL 10 (by decide))
              have e11 : xs 11 = .pointer (some ⟨S, 2, none⟩) := hv 11 _ (by rw [HVV.out]; rfl) (hL 11 (by decide))
              have e12 : xs 12 = .pointer (some ⟨S, 10, none⟩) := hv 12 _ (by rw [HVV.out]; rfl) (hL 12 (by decide))
              simp only [putGo, Act.put, List.setIfInBounds_toArray, List.set_cons_zero, List.set_cons_succ, e0, e1, e2, e3, e4, e5, e6, e7, e10, e11, e12]
              clear hv e0 e1 e2 e3 e4 e5 e6 e7 e10 e11 e12
              rcases hw with ⟨h7, _⟩ | ⟨_, h8, _⟩ | ⟨_, _, h9, _⟩ | ⟨_, _, _, h13, _⟩ | ⟨_, _, _, _, _, hg, hz, hp, ho⟩
              · rw [hL 7 (by decide)] at h7; cases h7
              · rw [hL 8 (by decide)] at h8; cases h8
              · rw [hL 9 (by decide)] at h9; cases h9
              · rw [hL 13 (by decide)] at h13; cases h13
              have HGG := Lib.hid hg
              have HPP := Lib.hid hp
              have HOO := Lib.hid ho
              have HML := Lib.hid (Par.len hp)
              clear hg hz hp ho hL
              obtain ⟨wE, rfl⟩ : ∃ W, W = w' := ⟨_, rfl⟩
              go_wp2_with fail
              go_roundw
              case rel => exact ⟨acc ++ [s2], r2, _, HPP.out, HOO.out, HEE.out, HGG.out, by simp; omega, HOKR.out⟩
              case measure => rw [HML.out, HMS.out]; omega
end Go.Proofs.YtfnmidddgjlipaaGreatDoor
