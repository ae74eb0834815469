/-
  Layer 17: the walks of the parser's pay and otherwise.
-/
import Derived.Test.YtfnmidddgjlipaaGreatDoorY7
set_option linter.unusedVariables false
set_option linter.unusedSimpArgs false
namespace Go.Proofs.YtfnmidddgjlipaaGreatDoor
open Go.RowKit

def pPay (x : WishD) (l : List Tok) : PR WishD := match pWM wPay payM l with
  | .error e => .error e
  | .ok (n, r) => .ok ({ x with pay := n, back := (pTake wBack r).isSome }, (pTake wBack r).getD r)
def pOther (x : WishD) (l : List Tok) : PR WishD := match pTake wElse l with
  | none => .ok (x, l)
  | some r => match pTake wHold r with
    | some r' => .ok ({ x with els := 1 }, r')
    | none => match pTake wForward r with
      | some r' => .ok ({ x with els := 2 }, r')
      | none => .error r
theorem Par.setPay {S B : Nat} {w : World} {stop : Int} {l : List Tok} {va : Value} {x : WishD} (h : Par S B w stop l va x) (hB : B ≤ S) (s : Int) : Par S B (w.setCell ⟨S, 9, none⟩ (.int .i64 s)) stop l va { x with pay := s } := by
  obtain ⟨lv, h1, h2⟩ := h
  refine ⟨lv, ?_, h2.below ((Below.refl B w).setCell (p := ⟨S, 9, none⟩) hB _) (Nat.le_refl _)⟩
  simpa [parC] using h1.set 9 (.int .i64 s)
theorem Par.setBack {S B : Nat} {w : World} {stop : Int} {l : List Tok} {va : Value} {x : WishD} (h : Par S B w stop l va x) (hB : B ≤ S) (s : Bool) : Par S B (w.setCell ⟨S, 11, none⟩ (.bool s)) stop l va { x with back := s } := by
  obtain ⟨lv, h1, h2⟩ := h
  refine ⟨lv, ?_, h2.below ((Below.refl B w).setCell (p := ⟨S, 11, none⟩) hB _) (Nat.le_refl _)⟩
  simpa [parC] using h1.set 11 (.bool s)
theorem Par.setEls {S B : Nat} {w : World} {stop : Int} {l : List Tok} {va : Value} {x : WishD} (h : Par S B w stop l va x) (hB : B ≤ S) (s : Int) : Par S B (w.setCell ⟨S, 12, none⟩ (.int .i64 s)) stop l va { x with els := s } := by
  obtain ⟨lv, h1, h2⟩ := h
  refine ⟨lv, ?_, h2.below ((Below.refl B w).setCell (p := ⟨S, 12, none⟩) hB _) (Nat.le_refl _)⟩
  simpa [parC] using h1.set 12 (.int .i64 s)
theorem Par.cellS {S B : Nat} {w : World} {stop : Int} {l : List Tok} {va : Value} {x : WishD} (h : Par S B w stop l va x) (k : Nat) (hk : k < 13) : ∃ v, w.cell? ⟨S, k, none⟩ = some v ∧ w.frozen? ⟨S, k, none⟩ = false := by
  obtain ⟨h1, h2⟩ := h.cells k hk
  obtain ⟨v, hv⟩ := Option.isSome_iff_exists.1 h1
  exact ⟨v, hv, h2⟩

set_option maxHeartbeats 2000000 in
set_option maxRecDepth 100000 in
theorem pay_any (S B : Nat) (w : World) (stop : Int) (l : List Tok) (va : Value) (x : WishD) (hS : Par S B w stop l va x) (hB : B ≤ S) :
    Calls Tryz.prog 36 #[.pointer (some ⟨S, 0, none⟩)] w (PartPost S B w stop va (pPay x l)) := by
  have HS := Lib.hid hS
  clear hS
  go_enter Tryz.func36, Tryz.ntmps36
  go_wp2_with fail
  refine (want_any S B w stop l va x wPay HS.out hB).mono ?_
  rintro e w1 ⟨hg, h⟩
  have HG := Lib.hid hg
  clear hg
  cases hk : pTake wPay l with
  | none =>
    rw [hk] at h
    simp only at h
    subst h
    have HE : Hid (pPay x l = .error l) := Lib.hid (by unfold pPay; rw [wm_none hk])
    clear hk
    go_wp2
    exact ⟨rfl, HG.out, by rw [HE.out]⟩
  | some r =>
    rw [hk] at h
    simp only at h
    obtain ⟨rfl, hp⟩ := h
    have HP := Lib.hid hp
    have HK := Lib.hid (wm_some (m := payM) hk)
    clear hp hk
    go_wp2_with fail
    refine (number_any' S B w1 stop r va x payM HP.out hB).mono ?_
    rintro e w2 ⟨hg2, h⟩
    have HG2 := Lib.hid (HG.out.trans' hg2)
    clear hg2
    cases hn : pNum payM r with
    | error r' =>
      rw [hn] at h
      simp only at h
      subst h
      have HE : Hid (pPay x l = .error r') := Lib.hid (by unfold pPay; rw [HK.out, hn])
      clear hn
      go_wp2
      exact ⟨rfl, HG2.out, by rw [HE.out]⟩
    | ok v =>
      obtain ⟨n, r'⟩ := v
      rw [hn] at h
      simp only at h
      obtain ⟨rfl, hp⟩ := h
      have HE : Hid (pPay x l = .ok ({ x with pay := n, back := (pTake wBack r').isSome }, (pTake wBack r').getD r')) := Lib.hid (by unfold pPay; rw [HK.out, hn])
      have HP2 := Lib.hid hp
      obtain ⟨v9, c9, f9⟩ := hp.cellS 9 (by decide)
      clear hn hp
      go_upto_region 2 with fail
      obtain ⟨W3, hW3⟩ : ∃ W, w2.setCell ⟨S, 9, none⟩ (.int .i64 n) = W := ⟨_, rfl⟩
      have HP3 : Hid (Par S B W3 stop r' va { x with pay := n }) := Lib.hid (by rw [← hW3]; exact HP2.out.setPay hB n)
      have HG3 : Hid (w.grownBy W3 (some S)) := Lib.hid (by rw [← hW3]; exact HG2.out.trans' (grown_setCell _ _ _))
      rw [hW3]
      clear hW3 c9 f9
      go_wp2_with fail
      refine (take_any S B W3 stop r' va _ wBack HP3.out hB).mono ?_
      rintro e w4 ⟨rfl, hp4, hg4⟩
      have HP4 := Lib.hid hp4
      have HG4 := Lib.hid (HG3.out.trans' hg4)
      obtain ⟨v11, c11, f11⟩ := hp4.cellS 11 (by decide)
      clear hp4 hg4
      go_wp2
      first | go_end0 | refine bodyPost_ret (results_none rfl _ _ _) rfl ?_
      refine ⟨HG4.out.trans' (grown_setCell _ _ _), ?_⟩
      rw [HE.out]
      exact ⟨rfl, HP4.out.setBack hB _⟩

set_option maxHeartbeats 2000000 in
set_option maxRecDepth 100000 in
theorem otherwise_any (S B : Nat) (w : World) (stop : Int) (l : List Tok) (va : Value) (x : WishD) (hS : Par S B w stop l va x) (hB : B ≤ S) :
    Calls Tryz.prog 37 #[.pointer (some ⟨S, 0, none⟩)] w (PartPost S B w stop va (pOther x l)) := by
  have HS := Lib.hid hS
  clear hS
  go_enter Tryz.func37, Tryz.ntmps37
  go_wp2_with fail
  refine (take_any S B w stop l va x wElse HS.out hB).mono ?_
  rintro e w1 ⟨rfl, hp, hg⟩
  have HG := Lib.hid hg
  clear hg
  cases hk : pTake wElse l with
  | none =>
    rw [hk] at hp
    simp only [Option.getD_none, Option.isSome_none] at hp ⊢
    have HE : Hid (pOther x l = .ok (x, l)) := Lib.hid (by unfold pOther; rw [hk])
    have HP := Lib.hid hp
    clear hk hp
    go_wp2
    first | go_end0 | refine bodyPost_ret (results_none rfl _ _ _) rfl ?_
    refine ⟨HG.out, ?_⟩
    rw [HE.out]
    exact ⟨rfl, HP.out⟩
  | some r =>
    rw [hk] at hp
    simp only [Option.getD_some, Option.isSome_some] at hp ⊢
    have HK := Lib.hid hk
    have HP := Lib.hid hp
    clear hk hp
    go_wp2_with fail
    refine (take_any S B w1 stop r va x wHold HP.out hB).mono ?_
    rintro e w2 ⟨rfl, hp, hg⟩
    have HG2 := Lib.hid (HG.out.trans' hg)
    clear hg
    cases hh : pTake wHold r with
    | some r' =>
      rw [hh] at hp
      simp only [Option.getD_some, Option.isSome_some] at hp ⊢
      have HE : Hid (pOther x l = .ok ({ x with els := 1 }, r')) := Lib.hid (by unfold pOther; rw [HK.out]; simp only [hh])
      have HP2 := Lib.hid hp
      obtain ⟨v12, c12, f12⟩ := hp.cellS 12 (by decide)
      clear hh hp
      go_wp2
      first | go_end0 | refine bodyPost_ret (results_none rfl _ _ _) rfl ?_
      refine ⟨HG2.out.trans' (grown_setCell _ _ _), ?_⟩
      rw [HE.out]
      exact ⟨rfl, HP2.out.setEls hB 1⟩
    | none =>
      rw [hh] at hp
      simp only [Option.getD_none, Option.isSome_none] at hp ⊢
      have HH := Lib.hid hh
      have HP2 := Lib.hid hp
      clear hh hp
      go_wp2_with fail
      refine (want_any S B w2 stop r va x wForward HP2.out hB).mono ?_
      rintro e w3 ⟨hg, h⟩
      have HG3 := Lib.hid (HG2.out.trans' hg)
      clear hg
      cases hf : pTake wForward r with
      | none =>
        rw [hf] at h
        simp only at h
        subst h
        have HE : Hid (pOther x l = .error r) := Lib.hid (by unfold pOther; rw [HK.out]; simp only [HH.out, hf])
        clear hf
        go_wp2
        exact ⟨rfl, HG3.out, by rw [HE.out]⟩
      | some r' =>
        rw [hf] at h
        simp only at h
        obtain ⟨rfl, hp⟩ := h
        have HE : Hid (pOther x l = .ok ({ x with els := 2 }, r')) := Lib.hid (by unfold pOther; rw [HK.out]; simp only [HH.out, hf])
        have HP3 := Lib.hid hp
        obtain ⟨v12, c12, f12⟩ := hp.cellS 12 (by decide)
        clear hf hp
        go_wp2
        first | go_end0 | refine bodyPost_ret (results_none rfl _ _ _) rfl ?_
        refine ⟨HG3.out.trans' (grown_setCell _ _ _), ?_⟩
        rw [HE.out]
        exact ⟨rfl, HP3.out.setEls hB 2⟩
end Go.Proofs.YtfnmidddgjlipaaGreatDoor
