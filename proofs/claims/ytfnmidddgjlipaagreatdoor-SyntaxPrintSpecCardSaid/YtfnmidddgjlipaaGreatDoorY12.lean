/-
  Layer 17: the walk of read (printed by tools/geny12.py).
-/
import Derived.Test.YtfnmidddgjlipaaGreatDoorY11
import Derived.Test.YtfnmidddgjlipaaGreatDoorY1s
set_option linter.unusedVariables false
set_option linter.unusedSimpArgs false
namespace Go.Proofs.YtfnmidddgjlipaaGreatDoor
open Go.RowKit

def readE (l : List Tok) : Int := match pRead l with
  | .ok _ => 0
  | .error _ => 170
def readP (stop : Int) (l : List Tok) : Int := match pRead l with
  | .ok _ => 0
  | .error r => placeOf stop r
def readL (l : List Tok) : List WishD := match pRead l with
  | .ok xs => xs
  | .error _ => []
def ReadPost (l : List Tok) (stop : Int) (w : World) (e : Ending) (w' : World) : Prop :=
  ∃ v, e = .returned (.tuple #[v, .int .i64 (readP stop l), .int .i64 (readE l)]) ∧ OwnWs w.heap.size w' v (readL l) ∧ Below w.heap.size w w'
theorem OwnDeep.toOk {C : Nat} {w : World} : OwnWs C w (.slice none 0 0) [] := OwnDeep.nil
theorem okW_from {x : WishD} (h : From okT x) : okW x := by
  have hn : ∀ {s : Str}, NameFrom okT s → s.length ≤ 140737488351232 := by rintro s ⟨t, h1, _, rfl⟩; exact h1.2.1
  have hm : ∀ {m n : Int}, NumFrom okT m n → I64 n := by rintro m n ⟨t, h1, _, rfl⟩; exact h1.2.2.1
  refine ⟨hn h.name, hn h.frm, hn h.to_, hn h.cls, hm h.after, hm h.by_, hm h.crowd, hm h.pay, ?_⟩
  rcases h.els with e | e | e <;> rw [e] <;> unfold I64 <;> omega
/-- an order is read -/
theorem read_step {l l' r : List Tok} {x : WishD} {xs : List WishD} (h : pRead l = match pRead l' with
    | .error e => .error e
    | .ok ys => .ok (xs ++ ys)) (hne : l' ≠ []) (ho : pOrder l' = .ok (x, r)) : pRead l = match pRead r with
    | .error e => .error e
    | .ok ys => .ok ((xs ++ [x]) ++ ys) := by
  rw [h, read_cons hne, ho]
  simp only
  cases pRead r with
  | error e => rfl
  | ok ys => simp
theorem read_err {l l' r : List Tok} {xs : List WishD} (h : pRead l = match pRead l' with
    | .error e => .error e
    | .ok ys => .ok (xs ++ ys)) (hne : l' ≠ []) (ho : pOrder l' = .error r) : pRead l = .error r := by
  rw [h, read_cons hne, ho]

set_option maxHeartbeats 16000000 in
set_option maxRecDepth 100000 in
theorem read_any (B : Nat) (w : World) (lv : Value) (l : List Tok) (stop : Int) (hB : B ≤ w.heap.size) (hl : IsToks B w lv l) (hn : l.length ≤ 1000000) :
    Calls Tryz.prog 14 #[lv, .int .i64 stop] w (ReadPost l stop w) := by
  have hform : ∃ a n c, lv = .slice a n c := by obtain ⟨b, off, cap, ⟨a, e, _⟩, _⟩ := hl; exact ⟨a, _, cap, e⟩
  have HLV := Lib.hid hl
  have HTK : Hid (∀ t ∈ l, okT t) := Lib.hid (by obtain ⟨b, off, cap, _, _, h3, _⟩ := hl; exact h3)
  obtain ⟨S, hS⟩ : ∃ S, w.heap.size + 1 + 1 + 1 = S := ⟨_, rfl⟩
  obtain ⟨wR, hwR⟩ : ∃ W, ((w.alloc (.cells #[.slice none 0 0] 23)).alloc (.cells #[.int .i64 0] 3)).alloc (.cells #[.int .i64 0] 24) = W := ⟨_, rfl⟩
  have hszR : wR.heap.size = S := by rw [← hwR]; simp; omega
  have hbR : Below w.heap.size w wR := by rw [← hwR]; exact ((box_below' w _).alloc (by simp) _).alloc (by simp; omega) _
  obtain ⟨w5, hw5⟩ : ∃ W, wR.alloc (.cells #[lv, .int .i64 stop, .string ⟨#[]⟩, .string ⟨#[]⟩, .string ⟨#[]⟩, .string ⟨#[]⟩, .int .i64 0, .int .i64 0, .int .i64 0, .int .i64 0, .slice none 0 0, .bool false, .int .i64 0] 67) = W := ⟨_, rfl⟩
  have hb5 : Below w.heap.size w w5 := by rw [← hw5]; exact hbR.alloc hbR.size _
  have HB5 := Lib.hid hb5
  have HC0 : Hid (Cell1 w5 w.heap.size (.slice none 0 0)) := Lib.hid (by rw [← hw5, ← hwR]; exact (((Cell1.new w _ _).alloc _).alloc _).alloc _)
  have HC1 : Hid (Cell1 w5 (w.heap.size + 1) (.int .i64 0)) := Lib.hid (by
    rw [← hw5, ← hwR]
    have := Cell1.new (w.alloc (.cells #[.slice none 0 0] 23)) (.int .i64 0) 3
    rw [World.size_alloc] at this
    exact (this.alloc _).alloc _)
  have HC2 : Hid (Cell1 w5 (w.heap.size + 1 + 1) (.int .i64 0)) := Lib.hid (by
    rw [← hw5, ← hwR]
    have := Cell1.new ((w.alloc (.cells #[.slice none 0 0] 23)).alloc (.cells #[.int .i64 0] 3)) (.int .i64 0) 24
    rw [World.size_alloc, World.size_alloc] at this
    exact this.alloc _)
  have HP5 : Hid (Par S B w5 stop l (.slice none 0 0) default) := Lib.hid (by
    refine ⟨lv, ?_, hl.below hb5 hB⟩
    rw [← hw5, ← hszR]
    exact CellsN.new wR _ _)
  have hBS : B ≤ S := by omega
  have HSZ : Hid (w.heap.size + 1 + 1 + 1 = S) := Lib.hid hS
  have HWR := Lib.hid hwR
  have HW5 := Lib.hid hw5
  have HSR := Lib.hid hszR
  have hmf : ∀ (fn : Fn) (first cap : Array Value) (w : World), (Instr.makeFunc fn first cap).run Tryz.prog w = .ok (.func fn first cap) w := fun _ _ _ _ => rfl
  obtain ⟨la, ln, lc, rfl⟩ := hform
  clear hl hwR hw5 hb5 hbR hszR
  go_enter_defers Tryz.func14, Tryz.ntmps14
  go_upto_region 2 with fail
  rw [HWR.out]
  try rw [hS]
  go_upto_region 3 with fail
  rw [HW5.out]
  try rw [HSR.out]
  have HMF := Lib.hid hmf
  clear hmf
  go_loopw [] (fun wr => ∃ (xs : List WishD) (l' : List Tok) (va vl : Value) (x' : WishD), Cell1 wr w.heap.size vl ∧ OwnWs (S + 1) wr vl xs ∧ Cell1 wr (w.heap.size + 1) (.int .i64 0) ∧ Cell1 wr (w.heap.size + 1 + 1) (.int .i64 0) ∧ Par S B wr stop l' va x' ∧ (pRead l = match pRead l' with
    | .error e => .error e
    | .ok ys => .ok (xs ++ ys)) ∧ Below w.heap.size w wr ∧ (∀ t ∈ l', okT t) ∧ xs.length + l'.length ≤ l.length) (fun wr => match wr.cell? ⟨S, 0, none⟩ with | some (.slice _ n _) => n | _ => 0)
  case atStart => exact ⟨[], l, _, _, default, HC0.out, OwnDeep.nil, HC1.out, HC2.out, HP5.out, by cases pRead l <;> rfl, HB5.out, HTK.out, by simp⟩
  case round =>
    obtain ⟨xs, l', va, vl, x', hc0, how, hc1, hc2, hp, he, hb, hok, hlen⟩ := hrel
    obtain ⟨wA, rfl⟩ : ∃ W, W = wr := ⟨_, rfl⟩
    have HP := Lib.hid hp
    have HE := Lib.hid he
    have HB := Lib.hid hb
    have HOK := Lib.hid hok
    have HOW := Lib.hid how
    have HD0 := Lib.hid hc0
    have HD1 := Lib.hid hc1
    have HD2 := Lib.hid hc2
    have HML := Lib.hid (Par.len hp)
    obtain ⟨va1, vn1, vc1, rfl⟩ := how.form'
    obtain ⟨lv', hc, ht⟩ := hp
    have c0 := hc.cell 0
    simp [parC] at c0
    clear he hb hok how
    cases l' with
    | nil =>
      obtain ⟨a, c, rfl, hcm⟩ := ht.empty
      have u0 := hc0.cell
      have f0 := hc0.free
      have f1 := hc1.free
      have f2 := hc2.free
      have u1 := hc1.cell
      have u2 := hc2.cell
      clear hc ht hc0 hc1 hc2
      go_wp2
      refine leaves_cons (f := 32) (args := #[.pointer (some ⟨w.heap.size, 0, none⟩), .pointer (some ⟨w.heap.size + 1, 0, none⟩), .pointer (some ⟨w.heap.size + 1 + 1, 0, none⟩)]) (by simp) (by simp [go_sem]) ?_
      refine (catchR_idle w.heap.size (w.heap.size + 1) (w.heap.size + 1 + 1) _).mono ?_
      rintro e u' w9 ⟨rfl, rfl, rfl⟩
      have HRES : Hid (pRead l = .ok xs) := Lib.hid (by rw [HE.out, read_nil]; simp)
      have A0 := (((HD0.out.set (.slice va1 vn1 vc1)).other (by omega : w.heap.size ≠ w.heap.size + 1) (.int .i64 0)).other (by omega : w.heap.size ≠ w.heap.size + 1 + 1) (.int .i64 0)).cell
      have A1 := (((HD1.out.other (by omega : w.heap.size + 1 ≠ w.heap.size) (.slice va1 vn1 vc1)).set (.int .i64 0)).other (by omega : w.heap.size + 1 ≠ w.heap.size + 1 + 1) (.int .i64 0)).cell
      have A2 := (((HD2.out.other (by omega : w.heap.size + 1 + 1 ≠ w.heap.size) (.slice va1 vn1 vc1)).other (by omega : w.heap.size + 1 + 1 ≠ w.heap.size + 1) (.int .i64 0)).set (.int .i64 0)).cell
      refine ⟨.tuple #[.slice va1 vn1 vc1, .int .i64 0, .int .i64 0], ?_, ?_⟩
      focus simp [results, Tryz.results14, go_sem, A0, A1, A2]
      refine ⟨.slice va1 vn1 vc1, by unfold readP readE; rw [HRES.out], ?_, ?_⟩
      focus
        unfold readL
        rw [HRES.out]
        have k0 := OwnDeep.kept wishSK HOW.out (grown_setCell wA ⟨w.heap.size, 0, none⟩ (.slice va1 vn1 vc1)) (fun q e => by have e2 : w.heap.size = q := Option.some.inj e; omega)
        have k1 := OwnDeep.kept wishSK k0 (grown_setCell _ ⟨w.heap.size + 1, 0, none⟩ (.int .i64 0)) (fun q e => by have e2 : w.heap.size + 1 = q := Option.some.inj e; omega)
        have k2 := OwnDeep.kept wishSK k1 (grown_setCell _ ⟨w.heap.size + 1 + 1, 0, none⟩ (.int .i64 0)) (fun q e => by have e2 : w.heap.size + 1 + 1 = q := Option.some.inj e; omega)
        exact k2.mono (by omega)
      exact ((HB.out.setCell (p := ⟨w.heap.size, 0, none⟩) (Nat.le_refl _) _).setCell (p := ⟨w.heap.size + 1, 0, none⟩) (Nat.le_succ _) _).setCell (p := ⟨w.heap.size + 1 + 1, 0, none⟩) (by show w.heap.size ≤ w.heap.size + 1 + 1; omega) _
    | cons t r =>
      obtain ⟨b, off, c, rfl, hl2, hcm, hbB, hok2, hlen2, g0, g1, g2, g3⟩ := ht.head
      have hi1 : (0 : Int) < (r.length : Int) + 1 := by omega
      have c2 := hc.cell 2
      have f2 := hc.free 2
      have c3 := hc.cell 3
      have f3 := hc.free 3
      have c4 := hc.cell 4
      have f4 := hc.free 4
      have c5 := hc.cell 5
      have f5 := hc.free 5
      have c6 := hc.cell 6
      have f6 := hc.free 6
      have c7 := hc.cell 7
      have f7 := hc.free 7
      have c8 := hc.cell 8
      have f8 := hc.free 8
      have c9 := hc.cell 9
      have f9 := hc.free 9
      have c10 := hc.cell 10
      have f10 := hc.free 10
      have c11 := hc.cell 11
      have f11 := hc.free 11
      have c12 := hc.cell 12
      have f12 := hc.free 12
      simp [parC] at c2 c3 c4 c5 c6 c7 c8 c9 c10 c11 c12
      have HC := Lib.hid hc
      have HT := Lib.hid ht
      clear hc ht hc0 hc1 hc2 g0 g1 g2 g3
      go_upto_region 5 with fail
      obtain ⟨W6, hW6⟩ : ∃ W, (((((((((((wA.setCell ⟨S, 2, none⟩ (.string ⟨#[]⟩)).setCell ⟨S, 3, none⟩ (.string ⟨#[]⟩)).setCell ⟨S, 4, none⟩ (.string ⟨#[]⟩)).setCell ⟨S, 5, none⟩ (.string ⟨#[]⟩)).setCell ⟨S, 6, none⟩ (.int .i64 0)).setCell ⟨S, 7, none⟩ (.int .i64 0)).setCell ⟨S, 8, none⟩ (.int .i64 0)).setCell ⟨S, 9, none⟩ (.int .i64 0)).setCell ⟨S, 10, none⟩ (.slice none 0 0)).setCell ⟨S, 11, none⟩ (.bool false)).setCell ⟨S, 12, none⟩ (.int .i64 0)) = W := ⟨_, rfl⟩
      have hg6 : wA.grownBy W6 (some S) := by
        rw [← hW6]
        exact ((((((((((((grown_refl wA (some S)).trans' (grown_setCell _ ⟨S, 2, none⟩ _)).trans' (grown_setCell _ ⟨S, 3, none⟩ _)).trans' (grown_setCell _ ⟨S, 4, none⟩ _)).trans' (grown_setCell _ ⟨S, 5, none⟩ _)).trans' (grown_setCell _ ⟨S, 6, none⟩ _)).trans' (grown_setCell _ ⟨S, 7, none⟩ _)).trans' (grown_setCell _ ⟨S, 8, none⟩ _)).trans' (grown_setCell _ ⟨S, 9, none⟩ _)).trans' (grown_setCell _ ⟨S, 10, none⟩ _)).trans' (grown_setCell _ ⟨S, 11, none⟩ _)).trans' (grown_setCell _ ⟨S, 12, none⟩ _))
      have HP6 : Hid (Par S B W6 stop (t :: r) (.slice none 0 0) default) := Lib.hid (by
        refine ⟨.slice (some ⟨b, off, none⟩) (r.length + 1) c, ?_, ?_⟩
        · have h := (((((((((((HC.out.set 2 (.string ⟨#[]⟩)).set 3 (.string ⟨#[]⟩)).set 4 (.string ⟨#[]⟩)).set 5 (.string ⟨#[]⟩)).set 6 (.int .i64 0)).set 7 (.int .i64 0)).set 8 (.int .i64 0)).set 9 (.int .i64 0)).set 10 (.slice none 0 0)).set 11 (.bool false)).set 12 (.int .i64 0))
          rw [hW6] at h
          simp only [parC, List.setIfInBounds_toArray, List.set_cons_zero, List.set_cons_succ] at h
          exact h
        · exact HT.out.below ((Below.refl B wA).grown hg6 (by have := HP.out.lt; omega) (fun q e => by have e2 : S = q := Option.some.inj e; omega)) (Nat.le_refl _))
      have HG6 := Lib.hid hg6
      rw [hW6]
      clear hg6 hW6 c2 c3 c4 c5 c6 c7 c8 c9 c10 c11 c12 f2 f3 f4 f5 f6 f7 f8 f9 f10 f11 f12 c0
      have hmf := HMF.out
      obtain ⟨W7, hW7⟩ : ∃ W, W6.alloc (.cells #[.func (.func 33) #[.pointer (some ⟨S, 0, none⟩)] #[], .func (.func 34) #[.pointer (some ⟨S, 0, none⟩)] #[], .func (.func 35) #[.pointer (some ⟨S, 0, none⟩)] #[], .func (.func 36) #[.pointer (some ⟨S, 0, none⟩)] #[], .func (.func 37) #[.pointer (some ⟨S, 0, none⟩)] #[]] 1) = W := ⟨_, rfl⟩
      have HB67 : Hid (Below W6.heap.size W6 W7) := Lib.hid (by rw [← hW7]; exact box_below' W6 _)
      have HF7 : Hid (CellsN W7 W6.heap.size #[.func (.func 33) #[.pointer (some ⟨S, 0, none⟩)] #[], .func (.func 34) #[.pointer (some ⟨S, 0, none⟩)] #[], .func (.func 35) #[.pointer (some ⟨S, 0, none⟩)] #[], .func (.func 36) #[.pointer (some ⟨S, 0, none⟩)] #[], .func (.func 37) #[.pointer (some ⟨S, 0, none⟩)] #[]]) := Lib.hid (by rw [← hW7]; exact CellsN.new _ _ _)
      have HP7 := Lib.hid (HP6.out.below HB67.out hBS)
      have HG7 : Hid (wA.grownBy W7 (some S)) := Lib.hid (HG6.out.trans' (grown_ext HB67.out))
      have hSF : W6.heap.size ≠ S := by have := HP6.out.lt; omega
      have HSF : Hid (S + 1 ≤ W6.heap.size) := Lib.hid (by have := HP6.out.lt; omega)
      have HW7 := Lib.hid hW7
      clear hW7
      go_wp2_with fail
      rw [HW7.out]
      clear hmf
      go_loopw [37] (fun kv wr => ∃ (k : Nat) (x2 : WishD) (ag : List Str) (l2 : List Tok) (v2 : Value), k ≤ 5 ∧ kv = .int .i64 k ∧ Par S B wr stop l2 v2 x2 ∧ OwnStrs W7.heap.size wr v2 ag ∧ (k ≤ 2 → v2 = .slice none 0 0 ∧ ag = []) ∧ partsF 5 0 default [] (t :: r) = partsF (5 - k) k x2 ag l2 ∧ W7.grownBy wr (some S)) (fun kv _ => 5 - (intOf kv).toNat)
      case atStart => exact ⟨0, default, [], t :: r, _, by omega, rfl, HP7.out, OwnRecs.nil, fun _ => ⟨rfl, rfl⟩, rfl, grown_refl _ _⟩
      case round =>
        obtain ⟨k, x2, ag, l2, v2, hk, rfl, hp2, ho2, hv2, he2, hg2⟩ := hrel
        have HPK := Lib.hid hp2
        have HOK2 := Lib.hid ho2
        have HVK := Lib.hid hv2
        have HEK := Lib.hid he2
        have HGK := Lib.hid hg2
        have hcF := HF7.out.grown hg2 (fun e => hSF (Option.some.inj e))
        have HCF := Lib.hid hcF
        clear hp2 ho2 hv2 he2 hg2
        by_cases hk5 : k < 5
        focus
          rcases (show k = 0 ∨ k = 1 ∨ k = 2 ∨ k = 3 ∨ k = 4 by omega) with rfl | rfl | rfl | rfl | rfl
          focus
            have g0 := hcF.cell 0
            simp at g0
            go_upto_region 8 with fail
            clear g0
            go_wp2_with fail
            refine (step0 S B W7.heap.size wr stop l2 v2 x2 ag HPK.out hBS (by have := HP7.out.lt; omega) HGK.out.size HOK2.out (HVK.out (by omega))).mono ?_
            rintro e w8 ⟨hg8, h8⟩
            have HG8 : Hid (W7.grownBy w8 (some S)) := Lib.hid (HGK.out.trans' hg8)
            clear hg8
            cases hs : partP 0 x2 ag l2 with
            | error r8 =>
              rw [hs] at h8
              simp only at h8
              subst h8
              have HERR : Hid (pRead l = .error r8) := Lib.hid (read_err HE.out (by simp) (by rw [order_parts, HEK.out]; show partsF (4 + 1) 0 x2 ag l2 = _; rw [parts_succ, hs]))
              clear hs hcF
              go_wp2
              refine leaves_cons (f := 32) (args := #[.pointer (some ⟨w.heap.size, 0, none⟩), .pointer (some ⟨w.heap.size + 1, 0, none⟩), .pointer (some ⟨w.heap.size + 1 + 1, 0, none⟩)]) (by simp) (by simp [go_sem]) ?_
              have hgA := HG7.out.trans' HG8.out
              refine (catchR_panic w.heap.size w.heap.size (w.heap.size + 1) (w.heap.size + 1 + 1) (placeOf stop r8) _ _ _ _ (HD0.out.grown hgA (fun e => by have e2 := Option.some.inj e; omega)) (HD1.out.grown hgA (fun e => by have e2 := Option.some.inj e; omega)) (HD2.out.grown hgA (fun e => by have e2 := Option.some.inj e; omega)) (by omega) (by omega) (by omega) (by omega) (by omega) (by omega)).mono ?_
              rintro e u' w9 ⟨rfl, rfl, A0, A1, A2, AB⟩
              have q0 := A0.cell
              have q1 := A1.cell
              have q2 := A2.cell
              refine ⟨.tuple #[.slice none 0 0, .int .i64 (placeOf stop r8), .int .i64 170], ?_, ?_⟩
              focus simp [results, Tryz.results14, go_sem, q0, q1, q2]
              exact ⟨.slice none 0 0, by unfold readP readE; rw [HERR.out], by unfold readL; rw [HERR.out]; exact OwnDeep.nil, (HB.out.grown hgA HB.out.size (fun q e => by have e2 : S = q := Option.some.inj e; omega)).trans AB⟩
            | ok v8 =>
              obtain ⟨⟨x8, ag8⟩, r8⟩ := v8
              rw [hs] at h8
              simp only at h8
              obtain ⟨rfl, v8, hp8, ho8, hv8⟩ := h8
              have HP8 := Lib.hid hp8
              have HO8 := Lib.hid ho8
              have HV8 := Lib.hid hv8
              have HE8 : Hid (partsF 5 0 default [] (t :: r) = partsF 4 1 x8 ag8 r8) := Lib.hid (by rw [HEK.out]; show partsF (4 + 1) 0 x2 ag l2 = _; rw [parts_succ, hs])
              clear hs hp8 ho8 hv8 hcF
              go_wp2_with fail
              go_roundw
              case rel => exact ⟨1, x8, ag8, r8, v8, by omega, by go_num, HP8.out, HO8.out, HV8.out, HE8.out, HG8.out⟩
              case measure => simp [intOf]
          focus
            have g1 := hcF.cell 1
            simp at g1
            go_upto_region 8 with fail
            clear g1
            go_wp2_with fail
            refine (step1 S B W7.heap.size wr stop l2 v2 x2 ag HPK.out hBS (by have := HP7.out.lt; omega) HGK.out.size HOK2.out (HVK.out (by omega))).mono ?_
            rintro e w8 ⟨hg8, h8⟩
            have HG8 : Hid (W7.grownBy w8 (some S)) := Lib.hid (HGK.out.trans' hg8)
            clear hg8
            cases hs : partP 1 x2 ag l2 with
            | error r8 =>
              rw [hs] at h8
              simp only at h8
              subst h8
              have HERR : Hid (pRead l = .error r8) := Lib.hid (read_err HE.out (by simp) (by rw [order_parts, HEK.out]; show partsF (3 + 1) 1 x2 ag l2 = _; rw [parts_succ, hs]))
              clear hs hcF
              go_wp2
              refine leaves_cons (f := 32) (args := #[.pointer (some ⟨w.heap.size, 0, none⟩), .pointer (some ⟨w.heap.size + 1, 0, none⟩), .pointer (some ⟨w.heap.size + 1 + 1, 0, none⟩)]) (by simp) (by simp [go_sem]) ?_
              have hgA := HG7.out.trans' HG8.out
              refine (catchR_panic w.heap.size w.heap.size (w.heap.size + 1) (w.heap.size + 1 + 1) (placeOf stop r8) _ _ _ _ (HD0.out.grown hgA (fun e => by have e2 := Option.some.inj e; omega)) (HD1.out.grown hgA (fun e => by have e2 := Option.some.inj e; omega)) (HD2.out.grown hgA (fun e => by have e2 := Option.some.inj e; omega)) (by omega) (by omega) (by omega) (by omega) (by omega) (by omega)).mono ?_
              rintro e u' w9 ⟨rfl, rfl, A0, A1, A2, AB⟩
              have q0 := A0.cell
              have q1 := A1.cell
              have q2 := A2.cell
              refine ⟨.tuple #[.slice none 0 0, .int .i64 (placeOf stop r8), .int .i64 170], ?_, ?_⟩
              focus simp [results, Tryz.results14, go_sem, q0, q1, q2]
              exact ⟨.slice none 0 0, by unfold readP readE; rw [HERR.out], by unfold readL; rw [HERR.out]; exact OwnDeep.nil, (HB.out.grown hgA HB.out.size (fun q e => by have e2 : S = q := Option.some.inj e; omega)).trans AB⟩
            | ok v8 =>
              obtain ⟨⟨x8, ag8⟩, r8⟩ := v8
              rw [hs] at h8
              simp only at h8
              obtain ⟨rfl, v8, hp8, ho8, hv8⟩ := h8
              have HP8 := Lib.hid hp8
              have HO8 := Lib.hid ho8
              have HV8 := Lib.hid hv8
              have HE8 : Hid (partsF 5 0 default [] (t :: r) = partsF 3 2 x8 ag8 r8) := Lib.hid (by rw [HEK.out]; show partsF (3 + 1) 1 x2 ag l2 = _; rw [parts_succ, hs])
              clear hs hp8 ho8 hv8 hcF
              go_wp2_with fail
              go_roundw
              case rel => exact ⟨2, x8, ag8, r8, v8, by omega, by go_num, HP8.out, HO8.out, HV8.out, HE8.out, HG8.out⟩
              case measure => simp [intOf]
          focus
            have g2 := hcF.cell 2
            simp at g2
            go_upto_region 8 with fail
            clear g2
            go_wp2_with fail
            refine (step2 S B W7.heap.size wr stop l2 v2 x2 ag HPK.out hBS (by have := HP7.out.lt; omega) HGK.out.size HOK2.out (HVK.out (by omega))).mono ?_
            rintro e w8 ⟨hg8, h8⟩
            have HG8 : Hid (W7.grownBy w8 (some S)) := Lib.hid (HGK.out.trans' hg8)
            clear hg8
            cases hs : partP 2 x2 ag l2 with
            | error r8 =>
              rw [hs] at h8
              simp only at h8
              subst h8
              have HERR : Hid (pRead l = .error r8) := Lib.hid (read_err HE.out (by simp) (by rw [order_parts, HEK.out]; show partsF (2 + 1) 2 x2 ag l2 = _; rw [parts_succ, hs]))
              clear hs hcF
              go_wp2
              refine leaves_cons (f := 32) (args := #[.pointer (some ⟨w.heap.size, 0, none⟩), .pointer (some ⟨w.heap.size + 1, 0, none⟩), .pointer (some ⟨w.heap.size + 1 + 1, 0, none⟩)]) (by simp) (by simp [go_sem]) ?_
              have hgA := HG7.out.trans' HG8.out
              refine (catchR_panic w.heap.size w.heap.size (w.heap.size + 1) (w.heap.size + 1 + 1) (placeOf stop r8) _ _ _ _ (HD0.out.grown hgA (fun e => by have e2 := Option.some.inj e; omega)) (HD1.out.grown hgA (fun e => by have e2 := Option.some.inj e; omega)) (HD2.out.grown hgA (fun e => by have e2 := Option.some.inj e; omega)) (by omega) (by omega) (by omega) (by omega) (by omega) (by omega)).mono ?_
              rintro e u' w9 ⟨rfl, rfl, A0, A1, A2, AB⟩
              have q0 := A0.cell
              have q1 := A1.cell
              have q2 := A2.cell
              refine ⟨.tuple #[.slice none 0 0, .int .i64 (placeOf stop r8), .int .i64 170], ?_, ?_⟩
              focus simp [results, Tryz.results14, go_sem, q0, q1, q2]
              exact ⟨.slice none 0 0, by unfold readP readE; rw [HERR.out], by unfold readL; rw [HERR.out]; exact OwnDeep.nil, (HB.out.grown hgA HB.out.size (fun q e => by have e2 : S = q := Option.some.inj e; omega)).trans AB⟩
            | ok v8 =>
              obtain ⟨⟨x8, ag8⟩, r8⟩ := v8
              rw [hs] at h8
              simp only at h8
              obtain ⟨rfl, v8, hp8, ho8, hv8⟩ := h8
              have HP8 := Lib.hid hp8
              have HO8 := Lib.hid ho8
              have HV8 := Lib.hid hv8
              have HE8 : Hid (partsF 5 0 default [] (t :: r) = partsF 2 3 x8 ag8 r8) := Lib.hid (by rw [HEK.out]; show partsF (2 + 1) 2 x2 ag l2 = _; rw [parts_succ, hs])
              clear hs hp8 ho8 hv8 hcF
              go_wp2_with fail
              go_roundw
              case rel => exact ⟨3, x8, ag8, r8, v8, by omega, by go_num, HP8.out, HO8.out, HV8.out, HE8.out, HG8.out⟩
              case measure => simp [intOf]
          focus
            have g3 := hcF.cell 3
            simp at g3
            go_upto_region 8 with fail
            clear g3
            go_wp2_with fail
            refine (step3 S B W7.heap.size wr stop l2 v2 x2 ag HPK.out hBS (by have := HP7.out.lt; omega) HGK.out.size HOK2.out).mono ?_
            rintro e w8 ⟨hg8, h8⟩
            have HG8 : Hid (W7.grownBy w8 (some S)) := Lib.hid (HGK.out.trans' hg8)
            clear hg8
            cases hs : partP 3 x2 ag l2 with
            | error r8 =>
              rw [hs] at h8
              simp only at h8
              subst h8
              have HERR : Hid (pRead l = .error r8) := Lib.hid (read_err HE.out (by simp) (by rw [order_parts, HEK.out]; show partsF (1 + 1) 3 x2 ag l2 = _; rw [parts_succ, hs]))
              clear hs hcF
              go_wp2
              refine leaves_cons (f := 32) (args := #[.pointer (some ⟨w.heap.size, 0, none⟩), .pointer (some ⟨w.heap.size + 1, 0, none⟩), .pointer (some ⟨w.heap.size + 1 + 1, 0, none⟩)]) (by simp) (by simp [go_sem]) ?_
              have hgA := HG7.out.trans' HG8.out
              refine (catchR_panic w.heap.size w.heap.size (w.heap.size + 1) (w.heap.size + 1 + 1) (placeOf stop r8) _ _ _ _ (HD0.out.grown hgA (fun e => by have e2 := Option.some.inj e; omega)) (HD1.out.grown hgA (fun e => by have e2 := Option.some.inj e; omega)) (HD2.out.grown hgA (fun e => by have e2 := Option.some.inj e; omega)) (by omega) (by omega) (by omega) (by omega) (by omega) (by omega)).mono ?_
              rintro e u' w9 ⟨rfl, rfl, A0, A1, A2, AB⟩
              have q0 := A0.cell
              have q1 := A1.cell
              have q2 := A2.cell
              refine ⟨.tuple #[.slice none 0 0, .int .i64 (placeOf stop r8), .int .i64 170], ?_, ?_⟩
              focus simp [results, Tryz.results14, go_sem, q0, q1, q2]
              exact ⟨.slice none 0 0, by unfold readP readE; rw [HERR.out], by unfold readL; rw [HERR.out]; exact OwnDeep.nil, (HB.out.grown hgA HB.out.size (fun q e => by have e2 : S = q := Option.some.inj e; omega)).trans AB⟩
            | ok v8 =>
              obtain ⟨⟨x8, ag8⟩, r8⟩ := v8
              rw [hs] at h8
              simp only at h8
              obtain ⟨rfl, v8, hp8, ho8, hv8⟩ := h8
              have HP8 := Lib.hid hp8
              have HO8 := Lib.hid ho8
              have HV8 := Lib.hid hv8
              have HE8 : Hid (partsF 5 0 default [] (t :: r) = partsF 1 4 x8 ag8 r8) := Lib.hid (by rw [HEK.out]; show partsF (1 + 1) 3 x2 ag l2 = _; rw [parts_succ, hs])
              clear hs hp8 ho8 hv8 hcF
              go_wp2_with fail
              go_roundw
              case rel => exact ⟨4, x8, ag8, r8, v8, by omega, by go_num, HP8.out, HO8.out, HV8.out, HE8.out, HG8.out⟩
              case measure => simp [intOf]
          focus
            have g4 := hcF.cell 4
            simp at g4
            go_upto_region 8 with fail
            clear g4
            go_wp2_with fail
            refine (step4 S B W7.heap.size wr stop l2 v2 x2 ag HPK.out hBS (by have := HP7.out.lt; omega) HGK.out.size HOK2.out).mono ?_
            rintro e w8 ⟨hg8, h8⟩
            have HG8 : Hid (W7.grownBy w8 (some S)) := Lib.hid (HGK.out.trans' hg8)
            clear hg8
            cases hs : partP 4 x2 ag l2 with
            | error r8 =>
              rw [hs] at h8
              simp only at h8
              subst h8
              have HERR : Hid (pRead l = .error r8) := Lib.hid (read_err HE.out (by simp) (by rw [order_parts, HEK.out]; show partsF (0 + 1) 4 x2 ag l2 = _; rw [parts_succ, hs]))
              clear hs hcF
              go_wp2
              refine leaves_cons (f := 32) (args := #[.pointer (some ⟨w.heap.size, 0, none⟩), .pointer (some ⟨w.heap.size + 1, 0, none⟩), .pointer (some ⟨w.heap.size + 1 + 1, 0, none⟩)]) (by simp) (by simp [go_sem]) ?_
              have hgA := HG7.out.trans' HG8.out
              refine (catchR_panic w.heap.size w.heap.size (w.heap.size + 1) (w.heap.size + 1 + 1) (placeOf stop r8) _ _ _ _ (HD0.out.grown hgA (fun e => by have e2 := Option.some.inj e; omega)) (HD1.out.grown hgA (fun e => by have e2 := Option.some.inj e; omega)) (HD2.out.grown hgA (fun e => by have e2 := Option.some.inj e; omega)) (by omega) (by omega) (by omega) (by omega) (by omega) (by omega)).mono ?_
              rintro e u' w9 ⟨rfl, rfl, A0, A1, A2, AB⟩
              have q0 := A0.cell
              have q1 := A1.cell
              have q2 := A2.cell
              refine ⟨.tuple #[.slice none 0 0, .int .i64 (placeOf stop r8), .int .i64 170], ?_, ?_⟩
              focus simp [results, Tryz.results14, go_sem, q0, q1, q2]
              exact ⟨.slice none 0 0, by unfold readP readE; rw [HERR.out], by unfold readL; rw [HERR.out]; exact OwnDeep.nil, (HB.out.grown hgA HB.out.size (fun q e => by have e2 : S = q := Option.some.inj e; omega)).trans AB⟩
            | ok v8 =>
              obtain ⟨⟨x8, ag8⟩, r8⟩ := v8
              rw [hs] at h8
              simp only at h8
              obtain ⟨rfl, v8, hp8, ho8, hv8⟩ := h8
              have HP8 := Lib.hid hp8
              have HO8 := Lib.hid ho8
              have HV8 := Lib.hid hv8
              have HE8 : Hid (partsF 5 0 default [] (t :: r) = partsF 0 5 x8 ag8 r8) := Lib.hid (by rw [HEK.out]; show partsF (0 + 1) 4 x2 ag l2 = _; rw [parts_succ, hs])
              clear hs hp8 ho8 hv8 hcF
              go_wp2_with fail
              go_roundw
              case rel => exact ⟨5, x8, ag8, r8, v8, by omega, by go_num, HP8.out, HO8.out, HV8.out, HE8.out, HG8.out⟩
              case measure => simp [intOf]
        obtain rfl : k = 5 := by omega
        clear hk5 hcF
        go_wp2_with fail
        refine (want_any S B wr stop l2 v2 x2 sSemi HPK.out hBS).mono ?_
        rintro e w8 ⟨hg8, h8⟩
        have HG8 : Hid (W7.grownBy w8 (some S)) := Lib.hid (HGK.out.trans' hg8)
        cases hs : pTake sSemi l2 with
        | none =>
          rw [hs] at h8
          simp only at h8
          subst h8
          have HERR : Hid (pRead l = .error l2) := Lib.hid (read_err HE.out (by simp) (by rw [order_parts, HEK.out]; show partsF 0 5 x2 ag l2 = _; rw [parts_zero, hs]))
          clear hg8 hs
          go_wp2
          refine leaves_cons (f := 32) (args := #[.pointer (some ⟨w.heap.size, 0, none⟩), .pointer (some ⟨w.heap.size + 1, 0, none⟩), .pointer (some ⟨w.heap.size + 1 + 1, 0, none⟩)]) (by simp) (by simp [go_sem]) ?_
          have hgA := HG7.out.trans' HG8.out
          refine (catchR_panic w.heap.size w.heap.size (w.heap.size + 1) (w.heap.size + 1 + 1) (placeOf stop l2) _ _ _ _ (HD0.out.grown hgA (fun e => by have e2 := Option.some.inj e; omega)) (HD1.out.grown hgA (fun e => by have e2 := Option.some.inj e; omega)) (HD2.out.grown hgA (fun e => by have e2 := Option.some.inj e; omega)) (by omega) (by omega) (by omega) (by omega) (by omega) (by omega)).mono ?_
          rintro e u' w9 ⟨rfl, rfl, A0, A1, A2, AB⟩
          have q0 := A0.cell
          have q1 := A1.cell
          have q2 := A2.cell
          refine ⟨.tuple #[.slice none 0 0, .int .i64 (placeOf stop l2), .int .i64 170], ?_, ?_⟩
          focus simp [results, Tryz.results14, go_sem, q0, q1, q2]
          exact ⟨.slice none 0 0, by unfold readP readE; rw [HERR.out], by unfold readL; rw [HERR.out]; exact OwnDeep.nil, (HB.out.grown hgA HB.out.size (fun q e => by have e2 : S = q := Option.some.inj e; omega)).trans AB⟩
        | some r2 =>
          rw [hs] at h8
          simp only at h8
          obtain ⟨rfl, hp8⟩ := h8
          have HORD : Hid (pOrder (t :: r) = .ok ({ x2 with against := ag }, r2)) := Lib.hid (by rw [order_parts, HEK.out]; show partsF 0 5 x2 ag l2 = _; rw [parts_zero, hs])
          have HO8 := Lib.hid (OwnStrs.row' HOK2.out hg8 (fun q e => by have e2 : S = q := Option.some.inj e; have := HP7.out.lt; omega))
          have HP8 := Lib.hid hp8
          clear hg8 hp8 hs
          obtain ⟨av2, nv2, cv2, rfl⟩ := HO8.out.form'
          have hsf := (order_some HORD.out)
          have HSUF : Hid (r2 <:+ r) := Lib.hid (by obtain ⟨t', u', he, h⟩ := hsf; injection he with _ he; subst he; exact h)
          obtain ⟨X, hX⟩ : ∃ X, ({ x2 with against := ag } : WishD) = X := ⟨_, rfl⟩
          have HX := Lib.hid hX
          have HOKW : Hid (okW X) := Lib.hid (by rw [← hX]; exact okW_from (sat_order _ _ _ HOK.out HORD.out))
          have hgA := HG7.out.trans' HG8.out
          have hszA := hgA.size
          have hE0 := HD0.out.grown hgA (fun e => by have e2 := Option.some.inj e; omega)
          have HE0 := Lib.hid hE0
          have HE1 := Lib.hid (HD1.out.grown hgA (fun e => by have e2 := Option.some.inj e; omega))
          have HE2 := Lib.hid (HD2.out.grown hgA (fun e => by have e2 := Option.some.inj e; omega))
          have HOW8 := Lib.hid (OwnDeep.kept wishSK HOW.out hgA (fun q e => by have e2 : S = q := Option.some.inj e; omega))
          have HB8 : Hid (Below w.heap.size w w8) := Lib.hid (HB.out.grown hgA HB.out.size (fun q e => by have e2 : S = q := Option.some.inj e; omega))
          obtain ⟨b8, hb8⟩ : ∃ z, w8.heap.size = z := ⟨_, rfl⟩
          obtain ⟨WX, hWX⟩ : ∃ W, (w8.alloc (.cells #[strV x2.name, strV x2.frm, strV x2.to, strV x2.cls, .int .i64 x2.after, .int .i64 x2.by_, .int .i64 x2.crowd, .int .i64 x2.pay, .slice av2 nv2 cv2, .bool x2.back, .int .i64 x2.els] 34)).drew = W := ⟨_, rfl⟩
          have HBX : Hid (Below w8.heap.size w8 WX) := Lib.hid (by rw [← hWX]; exact below_drewL (box_below' _ _))
          have hlt8 := HP8.out.lt
          have hOWN : ∀ q, Value.ownBlock (.slice va1 vn1 vc1) = some q → S + 1 ≤ q ∧ q < w8.heap.size := HOW8.out.lt
          have HOWN := Lib.hid hOWN
          have hag : ∀ q, Value.ownBlock (.slice va1 vn1 vc1) = some q → Value.ownBlock (.slice av2 nv2 cv2) ≠ some q := fun q e e2 => by
            have h1 := (HOW.out.lt q e).2
            have h2 := (HO8.out.lt q e2).1
            have h3 := HG7.out.size
            omega
          have HSRC : Hid (SrcDeep 11 wishRS default (S + 1) (Value.ownBlock (.slice va1 vn1 vc1)) WX (.slice (some ⟨b8, 0, none⟩) 1 1) [X]) := Lib.hid (by
            have h := src_wish (t := 34) (va := .slice av2 nv2 cv2) (o := X) (C := S + 1) (D := W7.heap.size) (w := w8) (g := Value.ownBlock (.slice va1 vn1 vc1)) (by rw [← hX]; exact HO8.out) HG8.out.size HOKW.out (by have := HP7.out.lt; omega) hag
            rw [hb8] at h
            rw [← hWX]
            rw [← hX] at h ⊢
            exact h)
          have HWX := Lib.hid hWX
          have HB8Z := Lib.hid hb8
          clear hX hsf hgA hWX hOWN hag hb8
          go_upto_region 11 with fail
          obtain ⟨V, hV⟩ : ∃ V : List (Option Value), V = [some (.slice va1 vn1 vc1), some (.pointer (some ⟨S, 0, none⟩)), some (.pointer (some ⟨S, 0, none⟩)), some (.pointer (some ⟨S, 2, none⟩)), some (.agg #[strV x2.name, strV x2.frm, strV x2.to, strV x2.cls, .int .i64 x2.after, .int .i64 x2.by_, .int .i64 x2.crowd, .int .i64 x2.pay, .slice av2 nv2 cv2, .bool x2.back, .int .i64 x2.els]), some (.slice (some ⟨b8, 0, none⟩) 1 1), none, none] := ⟨_, rfl⟩
          have HVV := Lib.hid hV
          clear hV
          refine wp_region_V [some 46, some 47, some 48, some 49, some 50, some 51, some 52, none] (fun L w' ys => ValsAt V L ys ∧ ((L 5 = false ∧ L 6 = false ∧ L 7 = false ∧ w' = w8.drew) ∨ (L 5 = true ∧ L 4 = true ∧ L 6 = false ∧ L 7 = false ∧ w' = WX) ∨ (L 6 = true ∧ L 0 = true ∧ L 4 = true ∧ L 5 = true ∧ L 7 = false ∧ OwnWs (S + 1) w' (ys 6) (xs ++ [X]) ∧ WX.grownBy w' (Value.ownBlock (.slice va1 vn1 vc1))) ∨ (L 7 = true ∧ L 6 = true ∧ L 0 = true ∧ L 4 = true ∧ L 5 = true ∧ ∃ w6, (OwnWs (S + 1) w6 (ys 6) (xs ++ [X]) ∧ WX.grownBy w6 (Value.ownBlock (.slice va1 vn1 vc1))) ∧ w' = w6.setCell ⟨w.heap.size, 0, none⟩ (ys 6)))) (by kernel_rfl) (by kernel_rfl) (by rfl) (by rfl) (by rfl) ?_ ?_ ?_
          focus
            exact fun ys => ⟨ValsAt.none _ _, Or.inl ⟨rfl, rfl, rfl, rfl⟩⟩
          focus
            refine ⟨?_, ?_, ?_, ?_, ?_, ?_, ?_, ?_, trivial⟩
            all_goals
              intro L a' w' ys hi hd hf hJ K hK
              obtain ⟨hv, hw⟩ := hJ
              have HF := Lib.hid hf
              have HVA := Lib.hid hv
              have HLI := Lib.hid hi
              clear hf hv hi
            focus
              clear hd
              obtain ⟨ρ, hρ⟩ : ∃ ρ, a'.eval = ρ := ⟨_, rfl⟩
              have hcst : ∀ v, ρ (.const v) = v := fun v => (congrFun hρ (.const v)).symm
              have l4 : ρ (.tmp 4) = .pointer (some ⟨w.heap.size, 0, none⟩) := (congrFun hρ (.tmp 4)).symm.trans (HF.out.lo 4 rfl)
              rw [if_pos (by simp [Region.wanted])]
              unfold Oper.wp
              rw [hρ]
              clear hρ
              rcases hw with ⟨h5, h6, h7, hw⟩ | ⟨h5, h4, h6, h7, hw⟩ | ⟨h6, h0, h4, h5, h7, ho, hg⟩ | ⟨h7, h6, h0, h4, h5, w6, ⟨ho, hg⟩, hw⟩
              focus
                subst hw
                have c0 := HE0.out.cell
                go_simp
                exact hK.out _ _ ⟨HVA.out.set (i := 0) (by rw [HVV.out]; rfl), .inl ⟨((upd_ne (L := L) (show (5 : Nat) ≠ 0 by decide)).trans h5), ((upd_ne (L := L) (show (6 : Nat) ≠ 0 by decide)).trans h6), ((upd_ne (L := L) (show (7 : Nat) ≠ 0 by decide)).trans h7), rfl⟩⟩
              focus
                obtain rfl := hw
                have c0 := (HE0.out.ext HBX.out).cell
                go_simp
                exact hK.out _ _ ⟨HVA.out.set (i := 0) (by rw [HVV.out]; rfl), .inr (.inl ⟨((upd_ne (L := L) (show (5 : Nat) ≠ 0 by decide)).trans h5), ((upd_ne (L := L) (show (4 : Nat) ≠ 0 by decide)).trans h4), ((upd_ne (L := L) (show (6 : Nat) ≠ 0 by decide)).trans h6), ((upd_ne (L := L) (show (7 : Nat) ≠ 0 by decide)).trans h7), rfl⟩)⟩
              focus
                rw [HLI.out] at h0
                cases h0
              focus
                rw [HLI.out] at h0
                cases h0
            focus
              clear hd
              obtain ⟨ρ, hρ⟩ : ∃ ρ, a'.eval = ρ := ⟨_, rfl⟩
              have hcst : ∀ v, ρ (.const v) = v := fun v => (congrFun hρ (.const v)).symm
              have l7 : ρ (.tmp 7) = .pointer (some ⟨S, 0, none⟩) := (congrFun hρ (.tmp 7)).symm.trans (HF.out.lo 7 rfl)
              rw [if_pos (by simp [Region.wanted])]
              unfold Oper.wp
              rw [hρ]
              clear hρ
              have HW := Lib.hid hw
              clear hw
              go_simp
              exact hK.out _ _ ⟨HVA.out.set (i := 1) (by rw [HVV.out]; rfl), by simp only [upd_ne (L := L) (show (0 : Nat) ≠ 1 by decide), upd_ne (L := L) (show (4 : Nat) ≠ 1 by decide), upd_ne (L := L) (show (5 : Nat) ≠ 1 by decide), upd_ne (L := L) (show (6 : Nat) ≠ 1 by decide), upd_ne (L := L) (show (7 : Nat) ≠ 1 by decide), updV_ne (xs := ys) (show (6 : Nat) ≠ 1 by decide)]; exact HW.out⟩
            focus
              obtain ⟨d1, _⟩ := hd
              obtain ⟨ρ, hρ⟩ : ∃ ρ, a'.eval = ρ := ⟨_, rfl⟩
              have hcst : ∀ v, ρ (.const v) = v := fun v => (congrFun hρ (.const v)).symm
              have v1 : ρ (.tmp 47) = .pointer (some ⟨S, 0, none⟩) := (congrFun hρ (.tmp 47)).symm.trans ((HF.out.ev 1 rfl d1).trans (HVA.out 1 _ (by rw [HVV.out]; rfl) d1))
              rw [if_pos (by simp [Region.wanted])]
              unfold Oper.wp
              rw [hρ]
              clear hρ
              have HW := Lib.hid hw
              clear hw
              go_simp
              exact hK.out _ _ ⟨HVA.out.set (i := 2) (by rw [HVV.out]; rfl), by simp only [upd_ne (L := L) (show (0 : Nat) ≠ 2 by decide), upd_ne (L := L) (show (4 : Nat) ≠ 2 by decide), upd_ne (L := L) (show (5 : Nat) ≠ 2 by decide), upd_ne (L := L) (show (6 : Nat) ≠ 2 by decide), upd_ne (L := L) (show (7 : Nat) ≠ 2 by decide), updV_ne (xs := ys) (show (6 : Nat) ≠ 2 by decide)]; exact HW.out⟩
            focus
              obtain ⟨d2, _⟩ := hd
              obtain ⟨ρ, hρ⟩ : ∃ ρ, a'.eval = ρ := ⟨_, rfl⟩
              have hcst : ∀ v, ρ (.const v) = v := fun v => (congrFun hρ (.const v)).symm
              have v2 : ρ (.tmp 48) = .pointer (some ⟨S, 0, none⟩) := (congrFun hρ (.tmp 48)).symm.trans ((HF.out.ev 2 rfl d2).trans (HVA.out 2 _ (by rw [HVV.out]; rfl) d2))
              rw [if_pos (by simp [Region.wanted])]
              unfold Oper.wp
              rw [hρ]
              clear hρ
              have HW := Lib.hid hw
              clear hw
              go_simp
              exact hK.out _ _ ⟨HVA.out.set (i := 3) (by rw [HVV.out]; rfl), by simp only [upd_ne (L := L) (show (0 : Nat) ≠ 3 by decide), upd_ne (L := L) (show (4 : Nat) ≠ 3 by decide), upd_ne (L := L) (show (5 : Nat) ≠ 3 by decide), upd_ne (L := L) (show (6 : Nat) ≠ 3 by decide), upd_ne (L := L) (show (7 : Nat) ≠ 3 by decide), updV_ne (xs := ys) (show (6 : Nat) ≠ 3 by decide)]; exact HW.out⟩
            focus
              obtain ⟨d3, _⟩ := hd
              obtain ⟨ρ, hρ⟩ : ∃ ρ, a'.eval = ρ := ⟨_, rfl⟩
              have hcst : ∀ v, ρ (.const v) = v := fun v => (congrFun hρ (.const v)).symm
              have v3 : ρ (.tmp 49) = .pointer (some ⟨S, 2, none⟩) := (congrFun hρ (.tmp 49)).symm.trans ((HF.out.ev 3 rfl d3).trans (HVA.out 3 _ (by rw [HVV.out]; rfl) d3))
              rw [if_pos (by simp [Region.wanted])]
              unfold Oper.wp
              rw [hρ]
              clear hρ
              rcases hw with ⟨h5, h6, h7, hw⟩ | ⟨h5, h4, h6, h7, hw⟩ | ⟨h6, h0, h4, h5, h7, ho, hg⟩ | ⟨h7, h6, h0, h4, h5, w6, ⟨ho, hg⟩, hw⟩
              rotate_left
              focus
                rw [HLI.out] at h4
                cases h4
              focus
                rw [HLI.out] at h4
                cases h4
              focus
                rw [HLI.out] at h4
                cases h4
              subst hw
              obtain ⟨lv8, hc8, _⟩ := HP8.out
              have c2 := hc8.cell 2
              have c3 := hc8.cell 3
              have c4 := hc8.cell 4
              have c5 := hc8.cell 5
              have c6 := hc8.cell 6
              have c7 := hc8.cell 7
              have c8 := hc8.cell 8
              have c9 := hc8.cell 9
              have c10 := hc8.cell 10
              have c11 := hc8.cell 11
              have c12 := hc8.cell 12
              simp [parC] at c2 c3 c4 c5 c6 c7 c8 c9 c10 c11 c12
              clear hc8
              go_simp
              exact hK.out _ _ ⟨HVA.out.set (i := 4) (by rw [HVV.out]; rfl), .inl ⟨((upd_ne (L := L) (show (5 : Nat) ≠ 4 by decide)).trans h5), ((upd_ne (L := L) (show (6 : Nat) ≠ 4 by decide)).trans h6), ((upd_ne (L := L) (show (7 : Nat) ≠ 4 by decide)).trans h7), rfl⟩⟩
            focus
              obtain ⟨d4, _⟩ := hd
              obtain ⟨ρ, hρ⟩ : ∃ ρ, a'.eval = ρ := ⟨_, rfl⟩
              have hcst : ∀ v, ρ (.const v) = v := fun v => (congrFun hρ (.const v)).symm
              have v4 : ρ (.tmp 50) = .agg #[strV x2.name, strV x2.frm, strV x2.to, strV x2.cls, .int .i64 x2.after, .int .i64 x2.by_, .int .i64 x2.crowd, .int .i64 x2.pay, .slice av2 nv2 cv2, .bool x2.back, .int .i64 x2.els] := (congrFun hρ (.tmp 50)).symm.trans ((HF.out.ev 4 rfl d4).trans (HVA.out 4 _ (by rw [HVV.out]; rfl) d4))
              rw [if_pos (by simp [Region.wanted])]
              unfold Oper.wp
              rw [hρ]
              clear hρ
              rcases hw with ⟨h5, h6, h7, hw⟩ | ⟨h5, h4, h6, h7, hw⟩ | ⟨h6, h0, h4, h5, h7, ho, hg⟩ | ⟨h7, h6, h0, h4, h5, w6, ⟨ho, hg⟩, hw⟩
              rotate_left
              focus
                rw [HLI.out] at h5
                cases h5
              focus
                rw [HLI.out] at h5
                cases h5
              focus
                rw [HLI.out] at h5
                cases h5
              subst hw
              have hb8' := HB8Z.out
              go_simp
              try rw [hb8']
              rw [HWX.out]
              exact hK.out _ _ ⟨HVA.out.set (i := 5) (by rw [HVV.out]; rfl), .inr (.inl ⟨upd_self _ _, ((upd_ne (L := L) (show (4 : Nat) ≠ 5 by decide)).trans d4), ((upd_ne (L := L) (show (6 : Nat) ≠ 5 by decide)).trans h6), ((upd_ne (L := L) (show (7 : Nat) ≠ 5 by decide)).trans h7), rfl⟩)⟩
            focus
              obtain ⟨d0, d5, _⟩ := hd
              have v0 : a'.eval (.tmp 46) = .slice va1 vn1 vc1 := (HF.out.ev 0 rfl d0).trans (HVA.out 0 _ (by rw [HVV.out]; rfl) d0)
              have v5 : a'.eval (.tmp 51) = .slice (some ⟨b8, 0, none⟩) 1 1 := (HF.out.ev 5 rfl d5).trans (HVA.out 5 _ (by rw [HVV.out]; rfl) d5)
              rw [if_pos (by simp [Region.wanted])]
              rcases hw with ⟨h5, h6, h7, hw⟩ | ⟨h5, h4, h6, h7, hw⟩ | ⟨h6, h0, h4, h5, h7, ho, hg⟩ | ⟨h7, h6, h0, h4, h5, w6, ⟨ho, hg⟩, hw⟩
              focus
                rw [h5] at d5
                cases d5
              rotate_left
              focus
                rw [HLI.out] at h6
                cases h6
              focus
                rw [HLI.out] at h6
                cases h6
              obtain rfl := hw
              obtain ⟨v', w6, hrun, ho6, hg6, _⟩ := run_append_deep wishSK (by decide) wish_inf Tryz.underlying23 rfl (by decide) (by decide) (oty := 23) (C := S + 1) (v := .slice va1 vn1 vc1) (vx := .slice (some ⟨b8, 0, none⟩) 1 1) (xs := xs) (ys := [X]) (HOW8.out.below wishSK HBX.out) HSRC.out (by simp only [List.length_cons] at hlen; simp; omega) (by have := HBX.out.size; omega)
              refine wp_of_append _ rfl v0 v5 hrun ?_
              exact hK.out _ _ ⟨HVA.out.free (i := 6) (by rw [HVV.out]; rfl) _, .inr (.inr (.inl ⟨upd_self _ _, ((upd_ne (L := L) (show (0 : Nat) ≠ 6 by decide)).trans d0), ((upd_ne (L := L) (show (4 : Nat) ≠ 6 by decide)).trans h4), ((upd_ne (L := L) (show (5 : Nat) ≠ 6 by decide)).trans h5), ((upd_ne (L := L) (show (7 : Nat) ≠ 6 by decide)).trans h7), by rw [updV_self]; exact ho6, hg6⟩))⟩
            focus
              obtain ⟨d6, _, d0, d1, d2, d3, d4, d5, _, _⟩ := hd
              obtain ⟨ρ, hρ⟩ : ∃ ρ, a'.eval = ρ := ⟨_, rfl⟩
              have hcst : ∀ v, ρ (.const v) = v := fun v => (congrFun hρ (.const v)).symm
              have l4 : ρ (.tmp 4) = .pointer (some ⟨w.heap.size, 0, none⟩) := (congrFun hρ (.tmp 4)).symm.trans (HF.out.lo 4 rfl)
              have v6 : ρ (.tmp 52) = ys 6 := (congrFun hρ (.tmp 52)).symm.trans (HF.out.ev 6 rfl d6)
              rw [if_pos (by simp [Region.wanted])]
              unfold Oper.wp
              rw [hρ]
              clear hρ
              rcases hw with ⟨h5, h6, h7, hw⟩ | ⟨h5, h4, h6, h7, hw⟩ | ⟨h6, h0, h4, h5, h7, ho, hg⟩ | ⟨h7, h6, h0, h4, h5, w6, ⟨ho, hg⟩, hw⟩
              focus
                rw [h6] at d6
                cases d6
              focus
                rw [h6] at d6
                cases d6
              rotate_left
              focus
                rw [HLI.out] at h7
                cases h7
              have HOO := Lib.hid ho
              have HGG := Lib.hid hg
              have hx0 := (HE0.out.ext HBX.out).grown hg (fun e => by have := (HOWN.out _ e.symm).1; omega)
              have c0 := hx0.cell
              have f0 := hx0.free
              obtain ⟨a6, n6, c6, e6⟩ := ho.form'
              rw [e6] at v6
              have E6 := Lib.hid e6
              clear ho hg hx0 e6
              go_simp
              exact hK.out _ _ ⟨HVA.out.free (i := 7) (by rw [HVV.out]; rfl) undef, .inr (.inr (.inr ⟨upd_self _ _, ((upd_ne (L := L) (show (6 : Nat) ≠ 7 by decide)).trans h6), ((upd_ne (L := L) (show (0 : Nat) ≠ 7 by decide)).trans h0), ((upd_ne (L := L) (show (4 : Nat) ≠ 7 by decide)).trans h4), ((upd_ne (L := L) (show (5 : Nat) ≠ 7 by decide)).trans h5), w', ⟨by rw [updV_ne (xs := ys) (show (6 : Nat) ≠ 7 by decide)]; exact HOO.out, HGG.out⟩, by rw [updV_ne (xs := ys) (show (6 : Nat) ≠ 7 by decide), E6.out]⟩))⟩
          focus
            intro L w' ys hL hJ
            obtain ⟨hv, hw⟩ := hJ
            have e0 : ys 0 = .slice va1 vn1 vc1 := hv 0 _ (by rw [HVV.out]; rfl) (hL 0 (by decide))
            have e1 : ys 1 = .pointer (some ⟨S, 0, none⟩) := hv 1 _ (by rw [HVV.out]; rfl) (hL 1 (by decide))
            have e2 : ys 2 = .pointer (some ⟨S, 0, none⟩) := hv 2 _ (by rw [HVV.out]; rfl) (hL 2 (by decide))
            have e3 : ys 3 = .pointer (some ⟨S, 2, none⟩) := hv 3 _ (by rw [HVV.out]; rfl) (hL 3 (by decide))
            have e4 : ys 4 = .agg #[strV x2.name, strV x2.frm, strV x2.to, strV x2.cls, .int .i64 x2.after, .int .i64 x2.by_, .int .i64 x2.crowd, .int .i64 x2.pay, .slice av2 nv2 cv2, .bool x2.back, .int .i64 x2.els] := hv 4 _ (by rw [HVV.out]; rfl) (hL 4 (by decide))
            have e5 : ys 5 = .slice (some ⟨b8, 0, none⟩) 1 1 := hv 5 _ (by rw [HVV.out]; rfl) (hL 5 (by decide))
            simp only [putGo, Act.put, List.setIfInBounds_toArray, List.set_cons_zero, List.set_cons_succ, e0, e1, e2, e3, e4, e5]
            clear hv e0 e1 e2 e3 e4 e5
            rcases hw with ⟨_, _, h7, _⟩ | ⟨_, _, _, h7, _⟩ | ⟨_, _, _, _, h7, _⟩ | ⟨_, _, _, _, _, w6, ⟨ho, hg⟩, hw⟩
            · rw [hL 7 (by decide)] at h7; cases h7
            · rw [hL 7 (by decide)] at h7; cases h7
            · rw [hL 7 (by decide)] at h7; cases h7
            rw [hw]
            have hgs := grown_setCell w6 ⟨w.heap.size, 0, none⟩ (ys 6)
            have hx0 := ((HE0.out.ext HBX.out).grown hg (fun e => by have := (HOWN.out _ e.symm).1; omega)).set (ys 6)
            have hx1 := ((HE1.out.ext HBX.out).grown hg (fun e => by have := (HOWN.out _ e.symm).1; omega)).grown hgs (fun e => by have e2 : w.heap.size + 1 = w.heap.size := Option.some.inj e; omega)
            have hx2 := ((HE2.out.ext HBX.out).grown hg (fun e => by have := (HOWN.out _ e.symm).1; omega)).grown hgs (fun e => by have e2 : w.heap.size + 1 + 1 = w.heap.size := Option.some.inj e; omega)
            have hxo := OwnDeep.kept wishSK ho hgs (fun q e => by have e2 : w.heap.size = q := Option.some.inj e; omega)
            have hxp := (((HP8.out.below HBX.out hBS).row hg (fun q e => by have := (HOWN.out q e).1; omega) hBS)).grown hgs (show S ≠ w.heap.size by omega) (show B ≤ w.heap.size by omega) hBS
            have hxb : Below w.heap.size w (w6.setCell ⟨w.heap.size, 0, none⟩ (ys 6)) := ((HB8.out.trans (HBX.out.mono HB8.out.size)).grown hg (by have := HB8.out.size; have := HBX.out.size; omega) (fun q e => by have := (HOWN.out q e).1; omega)).setCell (p := ⟨w.heap.size, 0, none⟩) (Nat.le_refl _) _
            have HX0 := Lib.hid hx0
            have HX1 := Lib.hid hx1
            have HX2 := Lib.hid hx2
            have HXO := Lib.hid hxo
            have HXP := Lib.hid hxp
            have HXB := Lib.hid hxb
            have HRS := Lib.hid (read_step HE.out (by simp) HORD.out)
            have HLN : Hid ((xs ++ [X]).length + r2.length ≤ l.length) := Lib.hid (by have := HSUF.out.length_le; simp only [List.length_cons] at hlen; simp; omega)
            have HOKR : Hid (∀ t ∈ r2, okT t) := Lib.hid fun u hu => HOK.out u (List.mem_cons_of_mem _ (HSUF.out.subset hu))
            have HMS : Hid (r2.length < (t :: r).length) := Lib.hid (by have := HSUF.out.length_le; simp; omega)
            have HPL := Lib.hid (Par.len hxp)
            clear hw hgs hx0 hx1 hx2 hxo hxp hxb ho hg hL
            go_wp2_with fail
            go_roundw
            case rel => exact ⟨xs ++ [X], r2, _, _, _, HX0.out, HXO.out, HX1.out, HX2.out, HXP.out, by have h := HRS.out; rw [HX.out] at h; exact h, HXB.out, HOKR.out, HLN.out⟩
            case measure => exact Nat.lt_of_lt_of_eq (Nat.lt_of_le_of_lt (Nat.le_of_eq HPL.out) HMS.out) HML.out.symm
end Go.Proofs.YtfnmidddgjlipaaGreatDoor
