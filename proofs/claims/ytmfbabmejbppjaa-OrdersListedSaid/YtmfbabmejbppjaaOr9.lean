/-
  Layer 18: the walk of orders.Right (printed by tools/right9.py).
-/
import Derived.Test.YtmfbabmejbppjaaOr8
import Derived.Test.YtmfbabmejbppjaaRegPut
set_option linter.unusedVariables false
set_option linter.unusedSimpArgs false
namespace Go.Proofs.Ytmfbabmejbppjaa
open Go.RowKit

structure RA where
  b0 : Nat
  frm : Int
  person : Int
  dest : Int
  cls : Int
  after : Int
  by_ : Int
  cm : Int
  pay : Int
  els : Int
  offs : Int
  peo : Int
  cla : Int
  crowd : Int
/-- the nine closures: what they ask -/
def fitJ (A : RA) : Nat → Int × Int
  | 0 => (A.frm, A.offs)
  | 1 => (A.dest, A.offs)
  | 2 => (A.person, A.peo)
  | 3 => (A.cls, A.cla)
  | 4 => (A.after, A.by_)
  | 5 => (A.by_, 2097152)
  | 6 => (A.cm, 64)
  | 7 => (A.pay, 1099511627777)
  | 8 => (A.els, 3)
  | _ => (0, 0)
def Fits11 (A : RA) (w : World) (g : Nat) : Prop :=
  ∃ fs : Nat → Nat × Nat, Box w g #[fitV (fs 0).1 (fs 0).2, fitV (fs 1).1 (fs 1).2, fitV (fs 2).1 (fs 2).2, fitV (fs 3).1 (fs 3).2, fitV (fs 4).1 (fs 4).2, fitV (fs 5).1 (fs 5).2, fitV (fs 6).1 (fs 6).2, fitV (fs 7).1 (fs 7).2, fitV (fs 8).1 (fs 8).2, .func (.func 33) #[] #[.pointer (some ⟨A.b0, 0, none⟩)], .func (.func 34) #[] #[.pointer (some ⟨A.b0, 0, none⟩), .pointer (some ⟨A.b0 + 1, 0, none⟩)]] ∧ ∀ j, j < 9 → FitAt w (fs j).1 (fs j).2 (fitJ A j).1 (fitJ A j).2
def RF (A : RA) (w : World) : Nat → Value → Prop
  | 0, x => x = .func (.func 31) #[] #[]
  | 1, x => x = .pointer (some ⟨A.b0, 0, none⟩)
  | 2, x => x = .int .i64 A.frm
  | 3, x => x = .int .i64 A.offs
  | 4, x => ∃ p q, x = fitV p q ∧ FitAt w p q (fitJ A 0).1 (fitJ A 0).2
  | 5, x => x = .func (.func 31) #[] #[]
  | 6, x => x = .pointer (some ⟨A.b0, 2, none⟩)
  | 7, x => x = .int .i64 A.dest
  | 8, x => x = .int .i64 A.offs
  | 9, x => ∃ p q, x = fitV p q ∧ FitAt w p q (fitJ A 1).1 (fitJ A 1).2
  | 10, x => x = .func (.func 31) #[] #[]
  | 11, x => x = .pointer (some ⟨A.b0, 1, none⟩)
  | 12, x => x = .int .i64 A.person
  | 13, x => x = .int .i64 A.peo
  | 14, x => ∃ p q, x = fitV p q ∧ FitAt w p q (fitJ A 2).1 (fitJ A 2).2
  | 15, x => x = .func (.func 31) #[] #[]
  | 16, x => x = .pointer (some ⟨A.b0, 3, none⟩)
  | 17, x => x = .int .i64 A.cls
  | 18, x => x = .int .i64 A.cla
  | 19, x => ∃ p q, x = fitV p q ∧ FitAt w p q (fitJ A 3).1 (fitJ A 3).2
  | 20, x => x = .func (.func 31) #[] #[]
  | 21, x => x = .pointer (some ⟨A.b0, 4, none⟩)
  | 22, x => x = .int .i64 A.after
  | 23, x => x = .pointer (some ⟨A.b0, 5, none⟩)
  | 24, x => x = .int .i64 A.by_
  | 25, x => ∃ p q, x = fitV p q ∧ FitAt w p q (fitJ A 4).1 (fitJ A 4).2
  | 26, x => x = .func (.func 31) #[] #[]
  | 27, x => x = .pointer (some ⟨A.b0, 5, none⟩)
  | 28, x => x = .int .i64 A.by_
  | 29, x => ∃ p q, x = fitV p q ∧ FitAt w p q (fitJ A 5).1 (fitJ A 5).2
  | 30, x => x = .func (.func 31) #[] #[]
  | 31, x => x = .pointer (some ⟨A.b0, 6, none⟩)
  | 32, x => x = .int .i64 A.crowd
  | 33, x => x = .int .i64 A.cm
  | 34, x => ∃ p q, x = fitV p q ∧ FitAt w p q (fitJ A 6).1 (fitJ A 6).2
  | 35, x => x = .func (.func 31) #[] #[]
  | 36, x => x = .pointer (some ⟨A.b0, 7, none⟩)
  | 37, x => x = .int .i64 A.pay
  | 38, x => ∃ p q, x = fitV p q ∧ FitAt w p q (fitJ A 7).1 (fitJ A 7).2
  | 39, x => x = .func (.func 31) #[] #[]
  | 40, x => x = .pointer (some ⟨A.b0, 10, none⟩)
  | 41, x => x = .int .i64 A.els
  | 42, x => ∃ p q, x = fitV p q ∧ FitAt w p q (fitJ A 8).1 (fitJ A 8).2
  | 43, x => x = .func (.func 33) #[] #[.pointer (some ⟨A.b0, 0, none⟩)]
  | 44, x => x = .func (.func 34) #[] #[.pointer (some ⟨A.b0, 0, none⟩), .pointer (some ⟨A.b0 + 1, 0, none⟩)]
  | 45, x => ∃ g, x = .slice (some ⟨g, 0, none⟩) 11 11 ∧ Fits11 A w g
  | 46, x => x = .int .i64 11
  | 47, x => x = .int .i64 0
  | _, _ => True
theorem RF.ext {A : RA} {w w' : World} (hb : Below w.heap.size w w') : ∀ (i : Nat) (x : Value), RF A w i x → RF A w' i x := by
  intro i x h
  match i, h with
  | 0, h => exact h
  | 1, h => exact h
  | 2, h => exact h
  | 3, h => exact h
  | 4, h => obtain ⟨p, q, e, hf⟩ := h; exact ⟨p, q, e, hf.ext hb⟩
  | 5, h => exact h
  | 6, h => exact h
  | 7, h => exact h
  | 8, h => exact h
  | 9, h => obtain ⟨p, q, e, hf⟩ := h; exact ⟨p, q, e, hf.ext hb⟩
  | 10, h => exact h
  | 11, h => exact h
  | 12, h => exact h
  | 13, h => exact h
  | 14, h => obtain ⟨p, q, e, hf⟩ := h; exact ⟨p, q, e, hf.ext hb⟩
  | 15, h => exact h
  | 16, h => exact h
  | 17, h => exact h
  | 18, h => exact h
  | 19, h => obtain ⟨p, q, e, hf⟩ := h; exact ⟨p, q, e, hf.ext hb⟩
  | 20, h => exact h
  | 21, h => exact h
  | 22, h => exact h
  | 23, h => exact h
  | 24, h => exact h
  | 25, h => obtain ⟨p, q, e, hf⟩ := h; exact ⟨p, q, e, hf.ext hb⟩
  | 26, h => exact h
  | 27, h => exact h
  | 28, h => exact h
  | 29, h => obtain ⟨p, q, e, hf⟩ := h; exact ⟨p, q, e, hf.ext hb⟩
  | 30, h => exact h
  | 31, h => exact h
  | 32, h => exact h
  | 33, h => exact h
  | 34, h => obtain ⟨p, q, e, hf⟩ := h; exact ⟨p, q, e, hf.ext hb⟩
  | 35, h => exact h
  | 36, h => exact h
  | 37, h => exact h
  | 38, h => obtain ⟨p, q, e, hf⟩ := h; exact ⟨p, q, e, hf.ext hb⟩
  | 39, h => exact h
  | 40, h => exact h
  | 41, h => exact h
  | 42, h => obtain ⟨p, q, e, hf⟩ := h; exact ⟨p, q, e, hf.ext hb⟩
  | 43, h => exact h
  | 44, h => exact h
  | 45, h => obtain ⟨g, e, fs, h1, h2⟩ := h; exact ⟨g, e, fs, h1.ext hb, fun j hj => (h2 j hj).ext hb⟩
  | 46, h => exact h
  | 47, h => exact h
  | _ + 48, h => exact trivial
def rbs (A : RA) (rs : Bool) (j : Nat) : Bool := if j < 9 then decide (0 ≤ (fitJ A j).1) && decide ((fitJ A j).1 < (fitJ A j).2) else if j = 9 then decide (A.frm ≠ A.dest) else rs
theorem wrap_dec {c : Int} (h1 : -9223372036854775808 ≤ c) (h2 : c ≤ 9223372036854775807) : (0 ≤ IntKind.i64.wrap (c - 1) ∧ IntKind.i64.wrap (c - 1) < 64) ↔ (1 ≤ c ∧ c ≤ 64) := by
  simp [IntKind.wrap, IntKind.bits, IntKind.signed]
  omega
theorem rbs_right {frm person dest cls after by_ crowd pay els offs peo cla cm : Int} {b0 : Nat} {against : List Int} {back : Bool} (hc : (0 ≤ cm ∧ cm < 64) ↔ (1 ≤ crowd ∧ crowd ≤ 64)) :
    (∀ j, j < 11 → rbs ⟨b0, frm, person, dest, cls, after, by_, cm, pay, els, offs, peo, cla, crowd⟩ (risesB offs (-1) against) j = true) ↔ rightB ⟨frm, person, dest, cls, after, by_, crowd, pay, against, back, els⟩ offs peo cla = true := by
  constructor
  · intro h
    have h0 := h 0 (by omega)
    have h1 := h 1 (by omega)
    have h2 := h 2 (by omega)
    have h3 := h 3 (by omega)
    have h4 := h 4 (by omega)
    have h5 := h 5 (by omega)
    have h6 := h 6 (by omega)
    have h7 := h 7 (by omega)
    have h8 := h 8 (by omega)
    have h9 := h 9 (by omega)
    have h10 := h 10 (by omega)
    simp [rbs, fitJ] at h0 h1 h2 h3 h4 h5 h6 h7 h8 h9 h10
    unfold rightB
    simp [h10, h9]
    omega
  · intro h j hj
    unfold rightB at h
    simp at h
    match j, hj with
    | 0, _ => simp [rbs, fitJ]; omega
    | 1, _ => simp [rbs, fitJ]; omega
    | 2, _ => simp [rbs, fitJ]; omega
    | 3, _ => simp [rbs, fitJ]; omega
    | 4, _ => simp [rbs, fitJ]; omega
    | 5, _ => simp [rbs, fitJ]; omega
    | 6, _ => simp [rbs, fitJ]; omega
    | 7, _ => simp [rbs, fitJ]; omega
    | 8, _ => simp [rbs, fitJ]; omega
    | 9, _ => simp [rbs]; omega
    | 10, _ => simp [rbs]; exact h.2
theorem rf_set {A : RA} {w w' : World} {xs : Nat → Value} {L : Nat → Bool} {i : Nat} {v : Value} (h : ∀ j, L j = true → RF A w j (xs j)) (hb : Below w.heap.size w w') (hv : RF A w' i v) :
    ∀ j, upd L i j = true → RF A w' j (updV xs i v j) := by
  intro j hj
  by_cases e : j = i
  · subst e
    rw [updV_self]
    exact hv
  · have hL : L j = true := by
      unfold upd at hj
      have : (j == i) = false := by simpa using e
      simpa [this] using hj
    rw [updV_ne e]
    exact RF.ext hb j _ (h j hL)
def RInv (A : RA) (W1 : World) (a0 : Act) (L : Nat → Bool) (a' : Act) (w' : World) : Prop :=
  ∃ xs, FrameOf a0 12 48 xs a' ∧ Below W1.heap.size W1 w' ∧ ∀ j, L j = true → RF A w' j (xs j)

set_option maxHeartbeats 40000000 in
set_option maxRecDepth 100000 in
theorem right_any (B : Nat) (w : World) (va : Value) (o : OrderD) (offs peo cla : Int) (hB : B ≤ w.heap.size) (hv : IsInts B w va o.against) (hok : okO o) :
    Calls Try.prog 17 #[orderV va o, .int .i64 offs, .int .i64 peo, .int .i64 cla] w fun e w' => e = .returned (.bool (rightB o offs peo cla)) ∧ Below w.heap.size w w' := by
  have hmf : ∀ (fn : Fn) (first cap : Array Value) (w : World), (Instr.makeFunc fn first cap).run Try.prog w = .ok (.func fn first cap) w := fun _ _ _ _ => rfl
  obtain ⟨bh, oh, ch, ⟨ah, e, hh1, hh2, hh4⟩, hh3, hh5, hh6⟩ := id hv
  subst e
  obtain ⟨frm, person, dest, cls, after, by_, crowd, pay, against, back, els⟩ := o
  simp only at hv hh1 hh3 hok
  obtain ⟨k1, k2, k3, k4, k5, k6, ⟨k7, k7'⟩, k8, k9⟩ := hok
  simp only at k7 k7'
  obtain ⟨b0, hb0⟩ : ∃ b0, w.heap.size = b0 := ⟨_, rfl⟩
  obtain ⟨W1, hW1⟩ : ∃ W, (w.alloc (.cells #[.int .i64 frm, .int .i64 person, .int .i64 dest, .int .i64 cls, .int .i64 after, .int .i64 by_, .int .i64 crowd, .int .i64 pay, .slice ah against.length ch, .bool back, .int .i64 els] 38)).alloc (.cells #[.int .i64 offs] 3) = W := ⟨_, rfl⟩
  have HB1 : Hid (Below w.heap.size w W1) := Lib.hid (by rw [← hW1]; exact (box_below' w _).alloc (by simp) _)
  have HX1 : Hid (Box W1 b0 #[.int .i64 frm, .int .i64 person, .int .i64 dest, .int .i64 cls, .int .i64 after, .int .i64 by_, .int .i64 crowd, .int .i64 pay, .slice ah against.length ch, .bool back, .int .i64 els]) := Lib.hid (by rw [← hW1, ← hb0]; exact (Box.new _ _ _).alloc _)
  have HY1 : Hid (Box W1 (b0 + 1) #[.int .i64 offs]) := Lib.hid (by
    rw [← hW1, ← hb0]
    have := Box.new (w.alloc (.cells #[.int .i64 frm, .int .i64 person, .int .i64 dest, .int .i64 cls, .int .i64 after, .int .i64 by_, .int .i64 crowd, .int .i64 pay, .slice ah against.length ch, .bool back, .int .i64 els] 38)) #[.int .i64 offs] 3
    rwa [World.size_alloc] at this)
  have HV1 := Lib.hid (hv.below HB1.out hB)
  have HW1 := Lib.hid hW1
  have HB0 := Lib.hid hb0
  clear hv hh5 hh6 hh4 hW1 k1 k2 k3 k4 k5 k6 k8 k9
  have hz1 := HY1.out.1
  have HKP : Hid (∀ W, Below W1.heap.size W1 W → W.cell? ⟨b0, 0, none⟩ = some (.int .i64 frm) ∧ W.cell? ⟨b0, 1, none⟩ = some (.int .i64 person) ∧ W.cell? ⟨b0, 2, none⟩ = some (.int .i64 dest) ∧ W.cell? ⟨b0, 3, none⟩ = some (.int .i64 cls) ∧
      W.cell? ⟨b0, 4, none⟩ = some (.int .i64 after) ∧ W.cell? ⟨b0, 5, none⟩ = some (.int .i64 by_) ∧ W.cell? ⟨b0, 6, none⟩ = some (.int .i64 crowd) ∧ W.cell? ⟨b0, 7, none⟩ = some (.int .i64 pay) ∧ W.cell? ⟨b0, 10, none⟩ = some (.int .i64 els) ∧ W.cell? ⟨b0 + 1, 0, none⟩ = some (.int .i64 offs)) :=
    Lib.hid fun W hb => by
      have hx := (HX1.out.below hb (by omega)).2
      have hy := (HY1.out.below hb (by omega)).2
      exact ⟨hx 0, hx 1, hx 2, hx 3, hx 4, hx 5, hx 6, hx 7, hx 10, hy 0⟩
  obtain ⟨cm, hcm⟩ : ∃ cm : Int, cm = IntKind.i64.wrap (crowd - 1) := ⟨_, rfl⟩
  have HCM := Lib.hid hcm
  clear hcm
  obtain ⟨A, hA⟩ : ∃ A : RA, A = ⟨b0, frm, person, dest, cls, after, by_, cm, pay, els, offs, peo, cla, crowd⟩ := ⟨_, rfl⟩
  unfold orderV orderC
  simp only
  go_enter Try.func17, Try.ntmps17
  rw [hb0]
  go_upto_region 2 with fail
  try rw [hb0]
  try rw [HW1.out]
  refine wp_region_inv (RInv A W1) (by kernel_rfl) (by kernel_rfl) ?_ ?_ ?_
  focus
    exact ⟨_, FrameOf.start _ _ _, (Below.refl _ _).drew, fun j hj => by cases hj⟩
  focus
    subst hA
    refine ⟨?_, ?_, ?_, ?_, ?_, ?_, ?_, ?_, ?_, ?_, ?_, ?_, ?_, ?_, ?_, ?_, ?_, ?_, ?_, ?_, ?_, ?_, ?_, ?_, ?_, ?_, ?_, ?_, ?_, ?_, ?_, ?_, ?_, ?_, ?_, ?_, ?_, ?_, ?_, ?_, ?_, ?_, ?_, ?_, ?_, ?_, ?_, ?_, trivial⟩
    all_goals
      intro L a' w' hi hd hI K hK
      obtain ⟨xs, hfr, hb, hF⟩ := hI
      rw [if_pos (by simp [Region.wanted])]
      unfold Oper.wp
      obtain ⟨ρ, hρ⟩ : ∃ ρ, a'.eval = ρ := ⟨_, rfl⟩
      have hev : ∀ k, k < 48 → ρ (.tmp (12 + k)) = xs k := fun k hk => (congrFun hρ (.tmp (12 + k))).symm.trans (hfr.ev hk rfl)
      have hlo := fun t (ht : t < 12) => (congrFun hρ (.tmp t)).symm.trans (hfr.lo ht)
      have hcst : ∀ v, ρ (.const v) = v := fun v => (congrFun hρ (.const v)).symm
      rw [hρ]
      clear hρ
      clear hb0 HX1 HY1 HV1 HW1 HB1
    focus
      have l2 : ρ (.tmp 2) = .int .i64 peo := hlo 2 (by decide)
      have l3 : ρ (.tmp 3) = .int .i64 cla := hlo 3 (by decide)
      have l4 : ρ (.tmp 4) = .pointer (some ⟨b0, 0, none⟩) := hlo 4 (by decide)
      have l5 : ρ (.tmp 5) = .pointer (some ⟨b0 + 1, 0, none⟩) := hlo 5 (by decide)
      have l9 : ρ (.tmp 9) = .func (.func 31) #[] #[] := hlo 9 (by decide)
      go_simp
      exact hK.out _ _ ⟨_, hfr.put (i := 0) (.func (.func 31) #[] #[]) (by omega) rfl (Nat.le_of_ble_eq_true rfl), hb, rf_set (i := 0) hF (Below.refl _ _) rfl⟩
    focus
      have l2 : ρ (.tmp 2) = .int .i64 peo := hlo 2 (by decide)
      have l3 : ρ (.tmp 3) = .int .i64 cla := hlo 3 (by decide)
      have l4 : ρ (.tmp 4) = .pointer (some ⟨b0, 0, none⟩) := hlo 4 (by decide)
      have l5 : ρ (.tmp 5) = .pointer (some ⟨b0 + 1, 0, none⟩) := hlo 5 (by decide)
      have l9 : ρ (.tmp 9) = .func (.func 31) #[] #[] := hlo 9 (by decide)
      go_simp
      exact hK.out _ _ ⟨_, hfr.put (i := 1) (.pointer (some ⟨b0, 0, none⟩)) (by omega) rfl (Nat.le_of_ble_eq_true rfl), hb, rf_set (i := 1) hF (Below.refl _ _) rfl⟩
    focus
      obtain ⟨d1, _⟩ := hd
      have v1 : ρ (.tmp 13) = .pointer (some ⟨b0, 0, none⟩) := (show ρ (.tmp 13) = _ from hev 1 (by decide)).trans (hF 1 d1)
      have l2 : ρ (.tmp 2) = .int .i64 peo := hlo 2 (by decide)
      have l3 : ρ (.tmp 3) = .int .i64 cla := hlo 3 (by decide)
      have l4 : ρ (.tmp 4) = .pointer (some ⟨b0, 0, none⟩) := hlo 4 (by decide)
      have l5 : ρ (.tmp 5) = .pointer (some ⟨b0 + 1, 0, none⟩) := hlo 5 (by decide)
      have l9 : ρ (.tmp 9) = .func (.func 31) #[] #[] := hlo 9 (by decide)
      obtain ⟨r0, r1, r2, r3, r4, r5, r6, r7, r10, q0⟩ := HKP.out _ hb
      go_simp
      exact hK.out _ _ ⟨_, hfr.put (i := 2) (.int .i64 frm) (by omega) rfl (Nat.le_of_ble_eq_true rfl), hb, rf_set (i := 2) hF (Below.refl _ _) rfl⟩
    focus
      have l2 : ρ (.tmp 2) = .int .i64 peo := hlo 2 (by decide)
      have l3 : ρ (.tmp 3) = .int .i64 cla := hlo 3 (by decide)
      have l4 : ρ (.tmp 4) = .pointer (some ⟨b0, 0, none⟩) := hlo 4 (by decide)
      have l5 : ρ (.tmp 5) = .pointer (some ⟨b0 + 1, 0, none⟩) := hlo 5 (by decide)
      have l9 : ρ (.tmp 9) = .func (.func 31) #[] #[] := hlo 9 (by decide)
      obtain ⟨r0, r1, r2, r3, r4, r5, r6, r7, r10, q0⟩ := HKP.out _ hb
      go_simp
      exact hK.out _ _ ⟨_, hfr.put (i := 3) (.int .i64 offs) (by omega) rfl (Nat.le_of_ble_eq_true rfl), hb, rf_set (i := 3) hF (Below.refl _ _) rfl⟩
    focus
      obtain ⟨d0, d2, d3, _⟩ := hd
      have v0 : ρ (.tmp 12) = .func (.func 31) #[] #[] := (show ρ (.tmp 12) = _ from hev 0 (by decide)).trans (hF 0 d0)
      have v2 : ρ (.tmp 14) = .int .i64 frm := (show ρ (.tmp 14) = _ from hev 2 (by decide)).trans (hF 2 d2)
      have v3 : ρ (.tmp 15) = .int .i64 offs := (show ρ (.tmp 15) = _ from hev 3 (by decide)).trans (hF 3 d3)
      have l2 : ρ (.tmp 2) = .int .i64 peo := hlo 2 (by decide)
      have l3 : ρ (.tmp 3) = .int .i64 cla := hlo 3 (by decide)
      have l4 : ρ (.tmp 4) = .pointer (some ⟨b0, 0, none⟩) := hlo 4 (by decide)
      have l5 : ρ (.tmp 5) = .pointer (some ⟨b0 + 1, 0, none⟩) := hlo 5 (by decide)
      have l9 : ρ (.tmp 9) = .func (.func 31) #[] #[] := hlo 9 (by decide)
      go_simp
      go_at_call 31
      refine (below_any frm offs w').mono ?_
      rintro e w5 ⟨p5, q5, rfl, hf5, hb5⟩
      exact hK.out _ _ ⟨_, hfr.put (i := 4) (fitV p5 q5) (by omega) rfl (Nat.le_of_ble_eq_true rfl), hb.trans (hb5.mono hb.size), rf_set (i := 4) hF hb5 ⟨p5, q5, rfl, hf5⟩⟩
    focus
      have l2 : ρ (.tmp 2) = .int .i64 peo := hlo 2 (by decide)
      have l3 : ρ (.tmp 3) = .int .i64 cla := hlo 3 (by decide)
      have l4 : ρ (.tmp 4) = .pointer (some ⟨b0, 0, none⟩) := hlo 4 (by decide)
      have l5 : ρ (.tmp 5) = .pointer (some ⟨b0 + 1, 0, none⟩) := hlo 5 (by decide)
      have l9 : ρ (.tmp 9) = .func (.func 31) #[] #[] := hlo 9 (by decide)
      go_simp
      exact hK.out _ _ ⟨_, hfr.put (i := 5) (.func (.func 31) #[] #[]) (by omega) rfl (Nat.le_of_ble_eq_true rfl), hb, rf_set (i := 5) hF (Below.refl _ _) rfl⟩
    focus
      have l2 : ρ (.tmp 2) = .int .i64 peo := hlo 2 (by decide)
      have l3 : ρ (.tmp 3) = .int .i64 cla := hlo 3 (by decide)
      have l4 : ρ (.tmp 4) = .pointer (some ⟨b0, 0, none⟩) := hlo 4 (by decide)
      have l5 : ρ (.tmp 5) = .pointer (some ⟨b0 + 1, 0, none⟩) := hlo 5 (by decide)
      have l9 : ρ (.tmp 9) = .func (.func 31) #[] #[] := hlo 9 (by decide)
      go_simp
      exact hK.out _ _ ⟨_, hfr.put (i := 6) (.pointer (some ⟨b0, 2, none⟩)) (by omega) rfl (Nat.le_of_ble_eq_true rfl), hb, rf_set (i := 6) hF (Below.refl _ _) rfl⟩
    focus
      obtain ⟨d6, _⟩ := hd
      have v6 : ρ (.tmp 18) = .pointer (some ⟨b0, 2, none⟩) := (show ρ (.tmp 18) = _ from hev 6 (by decide)).trans (hF 6 d6)
      have l2 : ρ (.tmp 2) = .int .i64 peo := hlo 2 (by decide)
      have l3 : ρ (.tmp 3) = .int .i64 cla := hlo 3 (by decide)
      have l4 : ρ (.tmp 4) = .pointer (some ⟨b0, 0, none⟩) := hlo 4 (by decide)
      have l5 : ρ (.tmp 5) = .pointer (some ⟨b0 + 1, 0, none⟩) := hlo 5 (by decide)
      have l9 : ρ (.tmp 9) = .func (.func 31) #[] #[] := hlo 9 (by decide)
      obtain ⟨r0, r1, r2, r3, r4, r5, r6, r7, r10, q0⟩ := HKP.out _ hb
      go_simp
      exact hK.out _ _ ⟨_, hfr.put (i := 7) (.int .i64 dest) (by omega) rfl (Nat.le_of_ble_eq_true rfl), hb, rf_set (i := 7) hF (Below.refl _ _) rfl⟩
    focus
      have l2 : ρ (.tmp 2) = .int .i64 peo := hlo 2 (by decide)
      have l3 : ρ (.tmp 3) = .int .i64 cla := hlo 3 (by decide)
      have l4 : ρ (.tmp 4) = .pointer (some ⟨b0, 0, none⟩) := hlo 4 (by decide)
      have l5 : ρ (.tmp 5) = .pointer (some ⟨b0 + 1, 0, none⟩) := hlo 5 (by decide)
      have l9 : ρ (.tmp 9) = .func (.func 31) #[] #[] := hlo 9 (by decide)
      obtain ⟨r0, r1, r2, r3, r4, r5, r6, r7, r10, q0⟩ := HKP.out _ hb
      go_simp
      exact hK.out _ _ ⟨_, hfr.put (i := 8) (.int .i64 offs) (by omega) rfl (Nat.le_of_ble_eq_true rfl), hb, rf_set (i := 8) hF (Below.refl _ _) rfl⟩
    focus
      obtain ⟨d5, d7, d8, d4, _⟩ := hd
      have v5 : ρ (.tmp 17) = .func (.func 31) #[] #[] := (show ρ (.tmp 17) = _ from hev 5 (by decide)).trans (hF 5 d5)
      have v7 : ρ (.tmp 19) = .int .i64 dest := (show ρ (.tmp 19) = _ from hev 7 (by decide)).trans (hF 7 d7)
      have v8 : ρ (.tmp 20) = .int .i64 offs := (show ρ (.tmp 20) = _ from hev 8 (by decide)).trans (hF 8 d8)
      have l2 : ρ (.tmp 2) = .int .i64 peo := hlo 2 (by decide)
      have l3 : ρ (.tmp 3) = .int .i64 cla := hlo 3 (by decide)
      have l4 : ρ (.tmp 4) = .pointer (some ⟨b0, 0, none⟩) := hlo 4 (by decide)
      have l5 : ρ (.tmp 5) = .pointer (some ⟨b0 + 1, 0, none⟩) := hlo 5 (by decide)
      have l9 : ρ (.tmp 9) = .func (.func 31) #[] #[] := hlo 9 (by decide)
      go_simp
      go_at_call 31
      refine (below_any dest offs w').mono ?_
      rintro e w5 ⟨p5, q5, rfl, hf5, hb5⟩
      exact hK.out _ _ ⟨_, hfr.put (i := 9) (fitV p5 q5) (by omega) rfl (Nat.le_of_ble_eq_true rfl), hb.trans (hb5.mono hb.size), rf_set (i := 9) hF hb5 ⟨p5, q5, rfl, hf5⟩⟩
    focus
      have l2 : ρ (.tmp 2) = .int .i64 peo := hlo 2 (by decide)
      have l3 : ρ (.tmp 3) = .int .i64 cla := hlo 3 (by decide)
      have l4 : ρ (.tmp 4) = .pointer (some ⟨b0, 0, none⟩) := hlo 4 (by decide)
      have l5 : ρ (.tmp 5) = .pointer (some ⟨b0 + 1, 0, none⟩) := hlo 5 (by decide)
      have l9 : ρ (.tmp 9) = .func (.func 31) #[] #[] := hlo 9 (by decide)
      go_simp
      exact hK.out _ _ ⟨_, hfr.put (i := 10) (.func (.func 31) #[] #[]) (by omega) rfl (Nat.le_of_ble_eq_true rfl), hb, rf_set (i := 10) hF (Below.refl _ _) rfl⟩
    focus
      have l2 : ρ (.tmp 2) = .int .i64 peo := hlo 2 (by decide)
      have l3 : ρ (.tmp 3) = .int .i64 cla := hlo 3 (by decide)
      have l4 : ρ (.tmp 4) = .pointer (some ⟨b0, 0, none⟩) := hlo 4 (by decide)
      have l5 : ρ (.tmp 5) = .pointer (some ⟨b0 + 1, 0, none⟩) := hlo 5 (by decide)
      have l9 : ρ (.tmp 9) = .func (.func 31) #[] #[] := hlo 9 (by decide)
      go_simp
      exact hK.out _ _ ⟨_, hfr.put (i := 11) (.pointer (some ⟨b0, 1, none⟩)) (by omega) rfl (Nat.le_of_ble_eq_true rfl), hb, rf_set (i := 11) hF (Below.refl _ _) rfl⟩
    focus
      obtain ⟨d11, _⟩ := hd
      have v11 : ρ (.tmp 23) = .pointer (some ⟨b0, 1, none⟩) := (show ρ (.tmp 23) = _ from hev 11 (by decide)).trans (hF 11 d11)
      have l2 : ρ (.tmp 2) = .int .i64 peo := hlo 2 (by decide)
      have l3 : ρ (.tmp 3) = .int .i64 cla := hlo 3 (by decide)
      have l4 : ρ (.tmp 4) = .pointer (some ⟨b0, 0, none⟩) := hlo 4 (by decide)
      have l5 : ρ (.tmp 5) = .pointer (some ⟨b0 + 1, 0, none⟩) := hlo 5 (by decide)
      have l9 : ρ (.tmp 9) = .func (.func 31) #[] #[] := hlo 9 (by decide)
      obtain ⟨r0, r1, r2, r3, r4, r5, r6, r7, r10, q0⟩ := HKP.out _ hb
      go_simp
      exact hK.out _ _ ⟨_, hfr.put (i := 12) (.int .i64 person) (by omega) rfl (Nat.le_of_ble_eq_true rfl), hb, rf_set (i := 12) hF (Below.refl _ _) rfl⟩
    focus
      have l2 : ρ (.tmp 2) = .int .i64 peo := hlo 2 (by decide)
      have l3 : ρ (.tmp 3) = .int .i64 cla := hlo 3 (by decide)
      have l4 : ρ (.tmp 4) = .pointer (some ⟨b0, 0, none⟩) := hlo 4 (by decide)
      have l5 : ρ (.tmp 5) = .pointer (some ⟨b0 + 1, 0, none⟩) := hlo 5 (by decide)
      have l9 : ρ (.tmp 9) = .func (.func 31) #[] #[] := hlo 9 (by decide)
      go_simp
      exact hK.out _ _ ⟨_, hfr.put (i := 13) (.int .i64 peo) (by omega) rfl (Nat.le_of_ble_eq_true rfl), hb, rf_set (i := 13) hF (Below.refl _ _) rfl⟩
    focus
      obtain ⟨d10, d12, d13, d9, _⟩ := hd
      have v10 : ρ (.tmp 22) = .func (.func 31) #[] #[] := (show ρ (.tmp 22) = _ from hev 10 (by decide)).trans (hF 10 d10)
      have v12 : ρ (.tmp 24) = .int .i64 person := (show ρ (.tmp 24) = _ from hev 12 (by decide)).trans (hF 12 d12)
      have v13 : ρ (.tmp 25) = .int .i64 peo := (show ρ (.tmp 25) = _ from hev 13 (by decide)).trans (hF 13 d13)
      have l2 : ρ (.tmp 2) = .int .i64 peo := hlo 2 (by decide)
      have l3 : ρ (.tmp 3) = .int .i64 cla := hlo 3 (by decide)
      have l4 : ρ (.tmp 4) = .pointer (some ⟨b0, 0, none⟩) := hlo 4 (by decide)
      have l5 : ρ (.tmp 5) = .pointer (some ⟨b0 + 1, 0, none⟩) := hlo 5 (by decide)
      have l9 : ρ (.tmp 9) = .func (.func 31) #[] #[] := hlo 9 (by decide)
      go_simp
      go_at_call 31
      refine (below_any person peo w').mono ?_
      rintro e w5 ⟨p5, q5, rfl, hf5, hb5⟩
      exact hK.out _ _ ⟨_, hfr.put (i := 14) (fitV p5 q5) (by omega) rfl (Nat.le_of_ble_eq_true rfl), hb.trans (hb5.mono hb.size), rf_set (i := 14) hF hb5 ⟨p5, q5, rfl, hf5⟩⟩
    focus
      have l2 : ρ (.tmp 2) = .int .i64 peo := hlo 2 (by decide)
      have l3 : ρ (.tmp 3) = .int .i64 cla := hlo 3 (by decide)
      have l4 : ρ (.tmp 4) = .pointer (some ⟨b0, 0, none⟩) := hlo 4 (by decide)
      have l5 : ρ (.tmp 5) = .pointer (some ⟨b0 + 1, 0, none⟩) := hlo 5 (by decide)
      have l9 : ρ (.tmp 9) = .func (.func 31) #[] #[] := hlo 9 (by decide)
      go_simp
      exact hK.out _ _ ⟨_, hfr.put (i := 15) (.func (.func 31) #[] #[]) (by omega) rfl (Nat.le_of_ble_eq_true rfl), hb, rf_set (i := 15) hF (Below.refl _ _) rfl⟩
    focus
      have l2 : ρ (.tmp 2) = .int .i64 peo := hlo 2 (by decide)
      have l3 : ρ (.tmp 3) = .int .i64 cla := hlo 3 (by decide)
      have l4 : ρ (.tmp 4) = .pointer (some ⟨b0, 0, none⟩) := hlo 4 (by decide)
      have l5 : ρ (.tmp 5) = .pointer (some ⟨b0 + 1, 0, none⟩) := hlo 5 (by decide)
      have l9 : ρ (.tmp 9) = .func (.func 31) #[] #[] := hlo 9 (by decide)
      go_simp
      exact hK.out _ _ ⟨_, hfr.put (i := 16) (.pointer (some ⟨b0, 3, none⟩)) (by omega) rfl (Nat.le_of_ble_eq_true rfl), hb, rf_set (i := 16) hF (Below.refl _ _) rfl⟩
    focus
      obtain ⟨d16, _⟩ := hd
      have v16 : ρ (.tmp 28) = .pointer (some ⟨b0, 3, none⟩) := (show ρ (.tmp 28) = _ from hev 16 (by decide)).trans (hF 16 d16)
      have l2 : ρ (.tmp 2) = .int .i64 peo := hlo 2 (by decide)
      have l3 : ρ (.tmp 3) = .int .i64 cla := hlo 3 (by decide)
      have l4 : ρ (.tmp 4) = .pointer (some ⟨b0, 0, none⟩) := hlo 4 (by decide)
      have l5 : ρ (.tmp 5) = .pointer (some ⟨b0 + 1, 0, none⟩) := hlo 5 (by decide)
      have l9 : ρ (.tmp 9) = .func (.func 31) #[] #[] := hlo 9 (by decide)
      obtain ⟨r0, r1, r2, r3, r4, r5, r6, r7, r10, q0⟩ := HKP.out _ hb
      go_simp
      exact hK.out _ _ ⟨_, hfr.put (i := 17) (.int .i64 cls) (by omega) rfl (Nat.le_of_ble_eq_true rfl), hb, rf_set (i := 17) hF (Below.refl _ _) rfl⟩
    focus
      have l2 : ρ (.tmp 2) = .int .i64 peo := hlo 2 (by decide)
      have l3 : ρ (.tmp 3) = .int .i64 cla := hlo 3 (by decide)
      have l4 : ρ (.tmp 4) = .pointer (some ⟨b0, 0, none⟩) := hlo 4 (by decide)
      have l5 : ρ (.tmp 5) = .pointer (some ⟨b0 + 1, 0, none⟩) := hlo 5 (by decide)
      have l9 : ρ (.tmp 9) = .func (.func 31) #[] #[] := hlo 9 (by decide)
      go_simp
      exact hK.out _ _ ⟨_, hfr.put (i := 18) (.int .i64 cla) (by omega) rfl (Nat.le_of_ble_eq_true rfl), hb, rf_set (i := 18) hF (Below.refl _ _) rfl⟩
    focus
      obtain ⟨d15, d17, d18, d14, _⟩ := hd
      have v15 : ρ (.tmp 27) = .func (.func 31) #[] #[] := (show ρ (.tmp 27) = _ from hev 15 (by decide)).trans (hF 15 d15)
      have v17 : ρ (.tmp 29) = .int .i64 cls := (show ρ (.tmp 29) = _ from hev 17 (by decide)).trans (hF 17 d17)
      have v18 : ρ (.tmp 30) = .int .i64 cla := (show ρ (.tmp 30) = _ from hev 18 (by decide)).trans (hF 18 d18)
      have l2 : ρ (.tmp 2) = .int .i64 peo := hlo 2 (by decide)
      have l3 : ρ (.tmp 3) = .int .i64 cla := hlo 3 (by decide)
      have l4 : ρ (.tmp 4) = .pointer (some ⟨b0, 0, none⟩) := hlo 4 (by decide)
      have l5 : ρ (.tmp 5) = .pointer (some ⟨b0 + 1, 0, none⟩) := hlo 5 (by decide)
      have l9 : ρ (.tmp 9) = .func (.func 31) #[] #[] := hlo 9 (by decide)
      go_simp
      go_at_call 31
      refine (below_any cls cla w').mono ?_
      rintro e w5 ⟨p5, q5, rfl, hf5, hb5⟩
      exact hK.out _ _ ⟨_, hfr.put (i := 19) (fitV p5 q5) (by omega) rfl (Nat.le_of_ble_eq_true rfl), hb.trans (hb5.mono hb.size), rf_set (i := 19) hF hb5 ⟨p5, q5, rfl, hf5⟩⟩
    focus
      have l2 : ρ (.tmp 2) = .int .i64 peo := hlo 2 (by decide)
      have l3 : ρ (.tmp 3) = .int .i64 cla := hlo 3 (by decide)
      have l4 : ρ (.tmp 4) = .pointer (some ⟨b0, 0, none⟩) := hlo 4 (by decide)
      have l5 : ρ (.tmp 5) = .pointer (some ⟨b0 + 1, 0, none⟩) := hlo 5 (by decide)
      have l9 : ρ (.tmp 9) = .func (.func 31) #[] #[] := hlo 9 (by decide)
      go_simp
      exact hK.out _ _ ⟨_, hfr.put (i := 20) (.func (.func 31) #[] #[]) (by omega) rfl (Nat.le_of_ble_eq_true rfl), hb, rf_set (i := 20) hF (Below.refl _ _) rfl⟩
    focus
      have l2 : ρ (.tmp 2) = .int .i64 peo := hlo 2 (by decide)
      have l3 : ρ (.tmp 3) = .int .i64 cla := hlo 3 (by decide)
      have l4 : ρ (.tmp 4) = .pointer (some ⟨b0, 0, none⟩) := hlo 4 (by decide)
      have l5 : ρ (.tmp 5) = .pointer (some ⟨b0 + 1, 0, none⟩) := hlo 5 (by decide)
      have l9 : ρ (.tmp 9) = .func (.func 31) #[] #[] := hlo 9 (by decide)
      go_simp
      exact hK.out _ _ ⟨_, hfr.put (i := 21) (.pointer (some ⟨b0, 4, none⟩)) (by omega) rfl (Nat.le_of_ble_eq_true rfl), hb, rf_set (i := 21) hF (Below.refl _ _) rfl⟩
    focus
      obtain ⟨d21, _⟩ := hd
      have v21 : ρ (.tmp 33) = .pointer (some ⟨b0, 4, none⟩) := (show ρ (.tmp 33) = _ from hev 21 (by decide)).trans (hF 21 d21)
      have l2 : ρ (.tmp 2) = .int .i64 peo := hlo 2 (by decide)
      have l3 : ρ (.tmp 3) = .int .i64 cla := hlo 3 (by decide)
      have l4 : ρ (.tmp 4) = .pointer (some ⟨b0, 0, none⟩) := hlo 4 (by decide)
      have l5 : ρ (.tmp 5) = .pointer (some ⟨b0 + 1, 0, none⟩) := hlo 5 (by decide)
      have l9 : ρ (.tmp 9) = .func (.func 31) #[] #[] := hlo 9 (by decide)
      obtain ⟨r0, r1, r2, r3, r4, r5, r6, r7, r10, q0⟩ := HKP.out _ hb
      go_simp
      exact hK.out _ _ ⟨_, hfr.put (i := 22) (.int .i64 after) (by omega) rfl (Nat.le_of_ble_eq_true rfl), hb, rf_set (i := 22) hF (Below.refl _ _) rfl⟩
    focus
      have l2 : ρ (.tmp 2) = .int .i64 peo := hlo 2 (by decide)
      have l3 : ρ (.tmp 3) = .int .i64 cla := hlo 3 (by decide)
      have l4 : ρ (.tmp 4) = .pointer (some ⟨b0, 0, none⟩) := hlo 4 (by decide)
      have l5 : ρ (.tmp 5) = .pointer (some ⟨b0 + 1, 0, none⟩) := hlo 5 (by decide)
      have l9 : ρ (.tmp 9) = .func (.func 31) #[] #[] := hlo 9 (by decide)
      go_simp
      exact hK.out _ _ ⟨_, hfr.put (i := 23) (.pointer (some ⟨b0, 5, none⟩)) (by omega) rfl (Nat.le_of_ble_eq_true rfl), hb, rf_set (i := 23) hF (Below.refl _ _) rfl⟩
    focus
      obtain ⟨d23, _⟩ := hd
      have v23 : ρ (.tmp 35) = .pointer (some ⟨b0, 5, none⟩) := (show ρ (.tmp 35) = _ from hev 23 (by decide)).trans (hF 23 d23)
      have l2 : ρ (.tmp 2) = .int .i64 peo := hlo 2 (by decide)
      have l3 : ρ (.tmp 3) = .int .i64 cla := hlo 3 (by decide)
      have l4 : ρ (.tmp 4) = .pointer (some ⟨b0, 0, none⟩) := hlo 4 (by decide)
      have l5 : ρ (.tmp 5) = .pointer (some ⟨b0 + 1, 0, none⟩) := hlo 5 (by decide)
      have l9 : ρ (.tmp 9) = .func (.func 31) #[] #[] := hlo 9 (by decide)
      obtain ⟨r0, r1, r2, r3, r4, r5, r6, r7, r10, q0⟩ := HKP.out _ hb
      go_simp
      exact hK.out _ _ ⟨_, hfr.put (i := 24) (.int .i64 by_) (by omega) rfl (Nat.le_of_ble_eq_true rfl), hb, rf_set (i := 24) hF (Below.refl _ _) rfl⟩
    focus
      obtain ⟨d20, d22, d24, d19, _⟩ := hd
      have v20 : ρ (.tmp 32) = .func (.func 31) #[] #[] := (show ρ (.tmp 32) = _ from hev 20 (by decide)).trans (hF 20 d20)
      have v22 : ρ (.tmp 34) = .int .i64 after := (show ρ (.tmp 34) = _ from hev 22 (by decide)).trans (hF 22 d22)
      have v24 : ρ (.tmp 36) = .int .i64 by_ := (show ρ (.tmp 36) = _ from hev 24 (by decide)).trans (hF 24 d24)
      have l2 : ρ (.tmp 2) = .int .i64 peo := hlo 2 (by decide)
      have l3 : ρ (.tmp 3) = .int .i64 cla := hlo 3 (by decide)
      have l4 : ρ (.tmp 4) = .pointer (some ⟨b0, 0, none⟩) := hlo 4 (by decide)
      have l5 : ρ (.tmp 5) = .pointer (some ⟨b0 + 1, 0, none⟩) := hlo 5 (by decide)
      have l9 : ρ (.tmp 9) = .func (.func 31) #[] #[] := hlo 9 (by decide)
      go_simp
      go_at_call 31
      refine (below_any after by_ w').mono ?_
      rintro e w5 ⟨p5, q5, rfl, hf5, hb5⟩
      exact hK.out _ _ ⟨_, hfr.put (i := 25) (fitV p5 q5) (by omega) rfl (Nat.le_of_ble_eq_true rfl), hb.trans (hb5.mono hb.size), rf_set (i := 25) hF hb5 ⟨p5, q5, rfl, hf5⟩⟩
    focus
      have l2 : ρ (.tmp 2) = .int .i64 peo := hlo 2 (by decide)
      have l3 : ρ (.tmp 3) = .int .i64 cla := hlo 3 (by decide)
      have l4 : ρ (.tmp 4) = .pointer (some ⟨b0, 0, none⟩) := hlo 4 (by decide)
      have l5 : ρ (.tmp 5) = .pointer (some ⟨b0 + 1, 0, none⟩) := hlo 5 (by decide)
      have l9 : ρ (.tmp 9) = .func (.func 31) #[] #[] := hlo 9 (by decide)
      go_simp
      exact hK.out _ _ ⟨_, hfr.put (i := 26) (.func (.func 31) #[] #[]) (by omega) rfl (Nat.le_of_ble_eq_true rfl), hb, rf_set (i := 26) hF (Below.refl _ _) rfl⟩
    focus
      have l2 : ρ (.tmp 2) = .int .i64 peo := hlo 2 (by decide)
      have l3 : ρ (.tmp 3) = .int .i64 cla := hlo 3 (by decide)
      have l4 : ρ (.tmp 4) = .pointer (some ⟨b0, 0, none⟩) := hlo 4 (by decide)
      have l5 : ρ (.tmp 5) = .pointer (some ⟨b0 + 1, 0, none⟩) := hlo 5 (by decide)
      have l9 : ρ (.tmp 9) = .func (.func 31) #[] #[] := hlo 9 (by decide)
      go_simp
      exact hK.out _ _ ⟨_, hfr.put (i := 27) (.pointer (some ⟨b0, 5, none⟩)) (by omega) rfl (Nat.le_of_ble_eq_true rfl), hb, rf_set (i := 27) hF (Below.refl _ _) rfl⟩
    focus
      obtain ⟨d27, _⟩ := hd
      have v27 : ρ (.tmp 39) = .pointer (some ⟨b0, 5, none⟩) := (show ρ (.tmp 39) = _ from hev 27 (by decide)).trans (hF 27 d27)
      have l2 : ρ (.tmp 2) = .int .i64 peo := hlo 2 (by decide)
      have l3 : ρ (.tmp 3) = .int .i64 cla := hlo 3 (by decide)
      have l4 : ρ (.tmp 4) = .pointer (some ⟨b0, 0, none⟩) := hlo 4 (by decide)
      have l5 : ρ (.tmp 5) = .pointer (some ⟨b0 + 1, 0, none⟩) := hlo 5 (by decide)
      have l9 : ρ (.tmp 9) = .func (.func 31) #[] #[] := hlo 9 (by decide)
      obtain ⟨r0, r1, r2, r3, r4, r5, r6, r7, r10, q0⟩ := HKP.out _ hb
      go_simp
      exact hK.out _ _ ⟨_, hfr.put (i := 28) (.int .i64 by_) (by omega) rfl (Nat.le_of_ble_eq_true rfl), hb, rf_set (i := 28) hF (Below.refl _ _) rfl⟩
    focus
      obtain ⟨d26, d28, d25, _⟩ := hd
      have v26 : ρ (.tmp 38) = .func (.func 31) #[] #[] := (show ρ (.tmp 38) = _ from hev 26 (by decide)).trans (hF 26 d26)
      have v28 : ρ (.tmp 40) = .int .i64 by_ := (show ρ (.tmp 40) = _ from hev 28 (by decide)).trans (hF 28 d28)
      have l2 : ρ (.tmp 2) = .int .i64 peo := hlo 2 (by decide)
      have l3 : ρ (.tmp 3) = .int .i64 cla := hlo 3 (by decide)
      have l4 : ρ (.tmp 4) = .pointer (some ⟨b0, 0, none⟩) := hlo 4 (by decide)
      have l5 : ρ (.tmp 5) = .pointer (some ⟨b0 + 1, 0, none⟩) := hlo 5 (by decide)
      have l9 : ρ (.tmp 9) = .func (.func 31) #[] #[] := hlo 9 (by decide)
      go_simp
      go_at_call 31
      refine (below_any by_ 2097152 w').mono ?_
      rintro e w5 ⟨p5, q5, rfl, hf5, hb5⟩
      exact hK.out _ _ ⟨_, hfr.put (i := 29) (fitV p5 q5) (by omega) rfl (Nat.le_of_ble_eq_true rfl), hb.trans (hb5.mono hb.size), rf_set (i := 29) hF hb5 ⟨p5, q5, rfl, hf5⟩⟩
    focus
      have l2 : ρ (.tmp 2) = .int .i64 peo := hlo 2 (by decide)
      have l3 : ρ (.tmp 3) = .int .i64 cla := hlo 3 (by decide)
      have l4 : ρ (.tmp 4) = .pointer (some ⟨b0, 0, none⟩) := hlo 4 (by decide)
      have l5 : ρ (.tmp 5) = .pointer (some ⟨b0 + 1, 0, none⟩) := hlo 5 (by decide)
      have l9 : ρ (.tmp 9) = .func (.func 31) #[] #[] := hlo 9 (by decide)
      go_simp
      exact hK.out _ _ ⟨_, hfr.put (i := 30) (.func (.func 31) #[] #[]) (by omega) rfl (Nat.le_of_ble_eq_true rfl), hb, rf_set (i := 30) hF (Below.refl _ _) rfl⟩
    focus
      have l2 : ρ (.tmp 2) = .int .i64 peo := hlo 2 (by decide)
      have l3 : ρ (.tmp 3) = .int .i64 cla := hlo 3 (by decide)
      have l4 : ρ (.tmp 4) = .pointer (some ⟨b0, 0, none⟩) := hlo 4 (by decide)
      have l5 : ρ (.tmp 5) = .pointer (some ⟨b0 + 1, 0, none⟩) := hlo 5 (by decide)
      have l9 : ρ (.tmp 9) = .func (.func 31) #[] #[] := hlo 9 (by decide)
      go_simp
      exact hK.out _ _ ⟨_, hfr.put (i := 31) (.pointer (some ⟨b0, 6, none⟩)) (by omega) rfl (Nat.le_of_ble_eq_true rfl), hb, rf_set (i := 31) hF (Below.refl _ _) rfl⟩
    focus
      obtain ⟨d31, _⟩ := hd
      have v31 : ρ (.tmp 43) = .pointer (some ⟨b0, 6, none⟩) := (show ρ (.tmp 43) = _ from hev 31 (by decide)).trans (hF 31 d31)
      have l2 : ρ (.tmp 2) = .int .i64 peo := hlo 2 (by decide)
      have l3 : ρ (.tmp 3) = .int .i64 cla := hlo 3 (by decide)
      have l4 : ρ (.tmp 4) = .pointer (some ⟨b0, 0, none⟩) := hlo 4 (by decide)
      have l5 : ρ (.tmp 5) = .pointer (some ⟨b0 + 1, 0, none⟩) := hlo 5 (by decide)
      have l9 : ρ (.tmp 9) = .func (.func 31) #[] #[] := hlo 9 (by decide)
      obtain ⟨r0, r1, r2, r3, r4, r5, r6, r7, r10, q0⟩ := HKP.out _ hb
      go_simp
      exact hK.out _ _ ⟨_, hfr.put (i := 32) (.int .i64 crowd) (by omega) rfl (Nat.le_of_ble_eq_true rfl), hb, rf_set (i := 32) hF (Below.refl _ _) rfl⟩
    focus
      obtain ⟨d32, _⟩ := hd
      have v32 : ρ (.tmp 44) = .int .i64 crowd := (show ρ (.tmp 44) = _ from hev 32 (by decide)).trans (hF 32 d32)
      have l2 : ρ (.tmp 2) = .int .i64 peo := hlo 2 (by decide)
      have l3 : ρ (.tmp 3) = .int .i64 cla := hlo 3 (by decide)
      have l4 : ρ (.tmp 4) = .pointer (some ⟨b0, 0, none⟩) := hlo 4 (by decide)
      have l5 : ρ (.tmp 5) = .pointer (some ⟨b0 + 1, 0, none⟩) := hlo 5 (by decide)
      have l9 : ρ (.tmp 9) = .func (.func 31) #[] #[] := hlo 9 (by decide)
      go_simp
      rw [← HCM.out]
      exact hK.out _ _ ⟨_, hfr.put (i := 33) (.int .i64 cm) (by omega) rfl (Nat.le_of_ble_eq_true rfl), hb, rf_set (i := 33) hF (Below.refl _ _) rfl⟩
    focus
      obtain ⟨d30, d33, d29, _⟩ := hd
      have v30 : ρ (.tmp 42) = .func (.func 31) #[] #[] := (show ρ (.tmp 42) = _ from hev 30 (by decide)).trans (hF 30 d30)
      have v33 : ρ (.tmp 45) = .int .i64 cm := (show ρ (.tmp 45) = _ from hev 33 (by decide)).trans (hF 33 d33)
      have l2 : ρ (.tmp 2) = .int .i64 peo := hlo 2 (by decide)
      have l3 : ρ (.tmp 3) = .int .i64 cla := hlo 3 (by decide)
      have l4 : ρ (.tmp 4) = .pointer (some ⟨b0, 0, none⟩) := hlo 4 (by decide)
      have l5 : ρ (.tmp 5) = .pointer (some ⟨b0 + 1, 0, none⟩) := hlo 5 (by decide)
      have l9 : ρ (.tmp 9) = .func (.func 31) #[] #[] := hlo 9 (by decide)
      go_simp
      go_at_call 31
      refine (below_any cm 64 w').mono ?_
      rintro e w5 ⟨p5, q5, rfl, hf5, hb5⟩
      exact hK.out _ _ ⟨_, hfr.put (i := 34) (fitV p5 q5) (by omega) rfl (Nat.le_of_ble_eq_true rfl), hb.trans (hb5.mono hb.size), rf_set (i := 34) hF hb5 ⟨p5, q5, rfl, hf5⟩⟩
    focus
      have l2 : ρ (.tmp 2) = .int .i64 peo := hlo 2 (by decide)
      have l3 : ρ (.tmp 3) = .int .i64 cla := hlo 3 (by decide)
      have l4 : ρ (.tmp 4) = .pointer (some ⟨b0, 0, none⟩) := hlo 4 (by decide)
      have l5 : ρ (.tmp 5) = .pointer (some ⟨b0 + 1, 0, none⟩) := hlo 5 (by decide)
      have l9 : ρ (.tmp 9) = .func (.func 31) #[] #[] := hlo 9 (by decide)
      go_simp
      exact hK.out _ _ ⟨_, hfr.put (i := 35) (.func (.func 31) #[] #[]) (by omega) rfl (Nat.le_of_ble_eq_true rfl), hb, rf_set (i := 35) hF (Below.refl _ _) rfl⟩
    focus
      have l2 : ρ (.tmp 2) = .int .i64 peo := hlo 2 (by decide)
      have l3 : ρ (.tmp 3) = .int .i64 cla := hlo 3 (by decide)
      have l4 : ρ (.tmp 4) = .pointer (some ⟨b0, 0, none⟩) := hlo 4 (by decide)
      have l5 : ρ (.tmp 5) = .pointer (some ⟨b0 + 1, 0, none⟩) := hlo 5 (by decide)
      have l9 : ρ (.tmp 9) = .func (.func 31) #[] #[] := hlo 9 (by decide)
      go_simp
      exact hK.out _ _ ⟨_, hfr.put (i := 36) (.pointer (some ⟨b0, 7, none⟩)) (by omega) rfl (Nat.le_of_ble_eq_true rfl), hb, rf_set (i := 36) hF (Below.refl _ _) rfl⟩
    focus
      obtain ⟨d36, _⟩ := hd
      have v36 : ρ (.tmp 48) = .pointer (some ⟨b0, 7, none⟩) := (show ρ (.tmp 48) = _ from hev 36 (by decide)).trans (hF 36 d36)
      have l2 : ρ (.tmp 2) = .int .i64 peo := hlo 2 (by decide)
      have l3 : ρ (.tmp 3) = .int .i64 cla := hlo 3 (by decide)
      have l4 : ρ (.tmp 4) = .pointer (some ⟨b0, 0, none⟩) := hlo 4 (by decide)
      have l5 : ρ (.tmp 5) = .pointer (some ⟨b0 + 1, 0, none⟩) := hlo 5 (by decide)
      have l9 : ρ (.tmp 9) = .func (.func 31) #[] #[] := hlo 9 (by decide)
      obtain ⟨r0, r1, r2, r3, r4, r5, r6, r7, r10, q0⟩ := HKP.out _ hb
      go_simp
      exact hK.out _ _ ⟨_, hfr.put (i := 37) (.int .i64 pay) (by omega) rfl (Nat.le_of_ble_eq_true rfl), hb, rf_set (i := 37) hF (Below.refl _ _) rfl⟩
    focus
      obtain ⟨d35, d37, d34, _⟩ := hd
      have v35 : ρ (.tmp 47) = .func (.func 31) #[] #[] := (show ρ (.tmp 47) = _ from hev 35 (by decide)).trans (hF 35 d35)
      have v37 : ρ (.tmp 49) = .int .i64 pay := (show ρ (.tmp 49) = _ from hev 37 (by decide)).trans (hF 37 d37)
      have l2 : ρ (.tmp 2) = .int .i64 peo := hlo 2 (by decide)
      have l3 : ρ (.tmp 3) = .int .i64 cla := hlo 3 (by decide)
      have l4 : ρ (.tmp 4) = .pointer (some ⟨b0, 0, none⟩) := hlo 4 (by decide)
      have l5 : ρ (.tmp 5) = .pointer (some ⟨b0 + 1, 0, none⟩) := hlo 5 (by decide)
      have l9 : ρ (.tmp 9) = .func (.func 31) #[] #[] := hlo 9 (by decide)
      go_simp
      go_at_call 31
      refine (below_any pay 1099511627777 w').mono ?_
      rintro e w5 ⟨p5, q5, rfl, hf5, hb5⟩
      exact hK.out _ _ ⟨_, hfr.put (i := 38) (fitV p5 q5) (by omega) rfl (Nat.le_of_ble_eq_true rfl), hb.trans (hb5.mono hb.size), rf_set (i := 38) hF hb5 ⟨p5, q5, rfl, hf5⟩⟩
    focus
      have l2 : ρ (.tmp 2) = .int .i64 peo := hlo 2 (by decide)
      have l3 : ρ (.tmp 3) = .int .i64 cla := hlo 3 (by decide)
      have l4 : ρ (.tmp 4) = .pointer (some ⟨b0, 0, none⟩) := hlo 4 (by decide)
      have l5 : ρ (.tmp 5) = .pointer (some ⟨b0 + 1, 0, none⟩) := hlo 5 (by decide)
      have l9 : ρ (.tmp 9) = .func (.func 31) #[] #[] := hlo 9 (by decide)
      go_simp
      exact hK.out _ _ ⟨_, hfr.put (i := 39) (.func (.func 31) #[] #[]) (by omega) rfl (Nat.le_of_ble_eq_true rfl), hb, rf_set (i := 39) hF (Below.refl _ _) rfl⟩
    focus
      have l2 : ρ (.tmp 2) = .int .i64 peo := hlo 2 (by decide)
      have l3 : ρ (.tmp 3) = .int .i64 cla := hlo 3 (by decide)
      have l4 : ρ (.tmp 4) = .pointer (some ⟨b0, 0, none⟩) := hlo 4 (by decide)
      have l5 : ρ (.tmp 5) = .pointer (some ⟨b0 + 1, 0, none⟩) := hlo 5 (by decide)
      have l9 : ρ (.tmp 9) = .func (.func 31) #[] #[] := hlo 9 (by decide)
      go_simp
      exact hK.out _ _ ⟨_, hfr.put (i := 40) (.pointer (some ⟨b0, 10, none⟩)) (by omega) rfl (Nat.le_of_ble_eq_true rfl), hb, rf_set (i := 40) hF (Below.refl _ _) rfl⟩
    focus
      obtain ⟨d40, _⟩ := hd
      have v40 : ρ (.tmp 52) = .pointer (some ⟨b0, 10, none⟩) := (show ρ (.tmp 52) = _ from hev 40 (by decide)).trans (hF 40 d40)
      have l2 : ρ (.tmp 2) = .int .i64 peo := hlo 2 (by decide)
      have l3 : ρ (.tmp 3) = .int .i64 cla := hlo 3 (by decide)
      have l4 : ρ (.tmp 4) = .pointer (some ⟨b0, 0, none⟩) := hlo 4 (by decide)
      have l5 : ρ (.tmp 5) = .pointer (some ⟨b0 + 1, 0, none⟩) := hlo 5 (by decide)
      have l9 : ρ (.tmp 9) = .func (.func 31) #[] #[] := hlo 9 (by decide)
      obtain ⟨r0, r1, r2, r3, r4, r5, r6, r7, r10, q0⟩ := HKP.out _ hb
      go_simp
      exact hK.out _ _ ⟨_, hfr.put (i := 41) (.int .i64 els) (by omega) rfl (Nat.le_of_ble_eq_true rfl), hb, rf_set (i := 41) hF (Below.refl _ _) rfl⟩
    focus
      obtain ⟨d39, d41, d38, _⟩ := hd
      have v39 : ρ (.tmp 51) = .func (.func 31) #[] #[] := (show ρ (.tmp 51) = _ from hev 39 (by decide)).trans (hF 39 d39)
      have v41 : ρ (.tmp 53) = .int .i64 els := (show ρ (.tmp 53) = _ from hev 41 (by decide)).trans (hF 41 d41)
      have l2 : ρ (.tmp 2) = .int .i64 peo := hlo 2 (by decide)
      have l3 : ρ (.tmp 3) = .int .i64 cla := hlo 3 (by decide)
      have l4 : ρ (.tmp 4) = .pointer (some ⟨b0, 0, none⟩) := hlo 4 (by decide)
      have l5 : ρ (.tmp 5) = .pointer (some ⟨b0 + 1, 0, none⟩) := hlo 5 (by decide)
      have l9 : ρ (.tmp 9) = .func (.func 31) #[] #[] := hlo 9 (by decide)
      go_simp
      go_at_call 31
      refine (below_any els 3 w').mono ?_
      rintro e w5 ⟨p5, q5, rfl, hf5, hb5⟩
      exact hK.out _ _ ⟨_, hfr.put (i := 42) (fitV p5 q5) (by omega) rfl (Nat.le_of_ble_eq_true rfl), hb.trans (hb5.mono hb.size), rf_set (i := 42) hF hb5 ⟨p5, q5, rfl, hf5⟩⟩
    focus
      have l2 : ρ (.tmp 2) = .int .i64 peo := hlo 2 (by decide)
      have l3 : ρ (.tmp 3) = .int .i64 cla := hlo 3 (by decide)
      have l4 : ρ (.tmp 4) = .pointer (some ⟨b0, 0, none⟩) := hlo 4 (by decide)
      have l5 : ρ (.tmp 5) = .pointer (some ⟨b0 + 1, 0, none⟩) := hlo 5 (by decide)
      have l9 : ρ (.tmp 9) = .func (.func 31) #[] #[] := hlo 9 (by decide)
      go_simp
      exact hK.out _ _ ⟨_, hfr.put (i := 43) (.func (.func 33) #[] #[.pointer (some ⟨b0, 0, none⟩)]) (by omega) rfl (Nat.le_of_ble_eq_true rfl), hb, rf_set (i := 43) hF (Below.refl _ _) rfl⟩
    focus
      have l2 : ρ (.tmp 2) = .int .i64 peo := hlo 2 (by decide)
      have l3 : ρ (.tmp 3) = .int .i64 cla := hlo 3 (by decide)
      have l4 : ρ (.tmp 4) = .pointer (some ⟨b0, 0, none⟩) := hlo 4 (by decide)
      have l5 : ρ (.tmp 5) = .pointer (some ⟨b0 + 1, 0, none⟩) := hlo 5 (by decide)
      have l9 : ρ (.tmp 9) = .func (.func 31) #[] #[] := hlo 9 (by decide)
      go_simp
      exact hK.out _ _ ⟨_, hfr.put (i := 44) (.func (.func 34) #[] #[.pointer (some ⟨b0, 0, none⟩), .pointer (some ⟨b0 + 1, 0, none⟩)]) (by omega) rfl (Nat.le_of_ble_eq_true rfl), hb, rf_set (i := 44) hF (Below.refl _ _) rfl⟩
    focus
      obtain ⟨d4, d9, d14, d19, d25, d29, d34, d38, d42, d43, d44, _⟩ := hd
      obtain ⟨p4, q4, e4, f4⟩ : ∃ p q, xs 4 = fitV p q ∧ FitAt w' p q _ _ := hF 4 d4
      have v4 := (show ρ (.tmp 16) = _ from hev 4 (by decide)).trans e4
      obtain ⟨p9, q9, e9, f9⟩ : ∃ p q, xs 9 = fitV p q ∧ FitAt w' p q _ _ := hF 9 d9
      have v9 := (show ρ (.tmp 21) = _ from hev 9 (by decide)).trans e9
      obtain ⟨p14, q14, e14, f14⟩ : ∃ p q, xs 14 = fitV p q ∧ FitAt w' p q _ _ := hF 14 d14
      have v14 := (show ρ (.tmp 26) = _ from hev 14 (by decide)).trans e14
      obtain ⟨p19, q19, e19, f19⟩ : ∃ p q, xs 19 = fitV p q ∧ FitAt w' p q _ _ := hF 19 d19
      have v19 := (show ρ (.tmp 31) = _ from hev 19 (by decide)).trans e19
      obtain ⟨p25, q25, e25, f25⟩ : ∃ p q, xs 25 = fitV p q ∧ FitAt w' p q _ _ := hF 25 d25
      have v25 := (show ρ (.tmp 37) = _ from hev 25 (by decide)).trans e25
      obtain ⟨p29, q29, e29, f29⟩ : ∃ p q, xs 29 = fitV p q ∧ FitAt w' p q _ _ := hF 29 d29
      have v29 := (show ρ (.tmp 41) = _ from hev 29 (by decide)).trans e29
      obtain ⟨p34, q34, e34, f34⟩ : ∃ p q, xs 34 = fitV p q ∧ FitAt w' p q _ _ := hF 34 d34
      have v34 := (show ρ (.tmp 46) = _ from hev 34 (by decide)).trans e34
      obtain ⟨p38, q38, e38, f38⟩ : ∃ p q, xs 38 = fitV p q ∧ FitAt w' p q _ _ := hF 38 d38
      have v38 := (show ρ (.tmp 50) = _ from hev 38 (by decide)).trans e38
      obtain ⟨p42, q42, e42, f42⟩ : ∃ p q, xs 42 = fitV p q ∧ FitAt w' p q _ _ := hF 42 d42
      have v42 := (show ρ (.tmp 54) = _ from hev 42 (by decide)).trans e42
      have v43 : ρ (.tmp 55) = .func (.func 33) #[] #[.pointer (some ⟨b0, 0, none⟩)] := (show ρ (.tmp 55) = _ from hev 43 (by decide)).trans (hF 43 d43)
      have v44 : ρ (.tmp 56) = .func (.func 34) #[] #[.pointer (some ⟨b0, 0, none⟩), .pointer (some ⟨b0 + 1, 0, none⟩)] := (show ρ (.tmp 56) = _ from hev 44 (by decide)).trans (hF 44 d44)
      have l2 : ρ (.tmp 2) = .int .i64 peo := hlo 2 (by decide)
      have l3 : ρ (.tmp 3) = .int .i64 cla := hlo 3 (by decide)
      have l4 : ρ (.tmp 4) = .pointer (some ⟨b0, 0, none⟩) := hlo 4 (by decide)
      have l5 : ρ (.tmp 5) = .pointer (some ⟨b0 + 1, 0, none⟩) := hlo 5 (by decide)
      have l9 : ρ (.tmp 9) = .func (.func 31) #[] #[] := hlo 9 (by decide)
      simp only [fitV] at v4 v9 v14 v19 v25 v29 v34 v38 v42
      go_simp
      have hall : ∀ j, j < 9 → FitAt (w'.alloc (.cells #[fitV p4 q4, fitV p9 q9, fitV p14 q14, fitV p19 q19, fitV p25 q25, fitV p29 q29, fitV p34 q34, fitV p38 q38, fitV p42 q42, .func (.func 33) #[] #[.pointer (some ⟨b0, 0, none⟩)], .func (.func 34) #[] #[.pointer (some ⟨b0, 0, none⟩), .pointer (some ⟨b0 + 1, 0, none⟩)]] 27)) ((fun j => if j = 0 then (p4, q4) else if j = 1 then (p9, q9) else if j = 2 then (p14, q14) else if j = 3 then (p19, q19) else if j = 4 then (p25, q25) else if j = 5 then (p29, q29) else if j = 6 then (p34, q34) else if j = 7 then (p38, q38) else (p42, q42) : Nat → Nat × Nat) j).1 ((fun j => if j = 0 then (p4, q4) else if j = 1 then (p9, q9) else if j = 2 then (p14, q14) else if j = 3 then (p19, q19) else if j = 4 then (p25, q25) else if j = 5 then (p29, q29) else if j = 6 then (p34, q34) else if j = 7 then (p38, q38) else (p42, q42) : Nat → Nat × Nat) j).2 (fitJ ⟨b0, frm, person, dest, cls, after, by_, cm, pay, els, offs, peo, cla, crowd⟩ j).1 (fitJ ⟨b0, frm, person, dest, cls, after, by_, cm, pay, els, offs, peo, cla, crowd⟩ j).2 := by
        intro j hj
        match j, hj with
        | 0, _ => exact f4.ext (box_below' _ _)
        | 1, _ => exact f9.ext (box_below' _ _)
        | 2, _ => exact f14.ext (box_below' _ _)
        | 3, _ => exact f19.ext (box_below' _ _)
        | 4, _ => exact f25.ext (box_below' _ _)
        | 5, _ => exact f29.ext (box_below' _ _)
        | 6, _ => exact f34.ext (box_below' _ _)
        | 7, _ => exact f38.ext (box_below' _ _)
        | 8, _ => exact f42.ext (box_below' _ _)
      exact hK.out _ _ ⟨_, hfr.put (i := 45) (.slice (some ⟨w'.heap.size, 0, none⟩) 11 11) (by omega) rfl (Nat.le_of_ble_eq_true rfl), hb.alloc hb.size _, rf_set (i := 45) hF (box_below' _ _) ⟨w'.heap.size, rfl, (fun j => if j = 0 then (p4, q4) else if j = 1 then (p9, q9) else if j = 2 then (p14, q14) else if j = 3 then (p19, q19) else if j = 4 then (p25, q25) else if j = 5 then (p29, q29) else if j = 6 then (p34, q34) else if j = 7 then (p38, q38) else (p42, q42)), Box.new _ _ _, hall⟩⟩
    focus
      obtain ⟨d45, _⟩ := hd
      obtain ⟨g, e45, _⟩ : ∃ g, xs 45 = .slice (some ⟨g, 0, none⟩) 11 11 ∧ _ := hF 45 d45
      have v45 := (show ρ (.tmp 57) = _ from hev 45 (by decide)).trans e45
      have l2 : ρ (.tmp 2) = .int .i64 peo := hlo 2 (by decide)
      have l3 : ρ (.tmp 3) = .int .i64 cla := hlo 3 (by decide)
      have l4 : ρ (.tmp 4) = .pointer (some ⟨b0, 0, none⟩) := hlo 4 (by decide)
      have l5 : ρ (.tmp 5) = .pointer (some ⟨b0 + 1, 0, none⟩) := hlo 5 (by decide)
      have l9 : ρ (.tmp 9) = .func (.func 31) #[] #[] := hlo 9 (by decide)
      go_simp
      exact hK.out _ _ ⟨_, hfr.put (i := 46) (.int .i64 11) (by omega) rfl (Nat.le_of_ble_eq_true rfl), hb, rf_set (i := 46) hF (Below.refl _ _) rfl⟩
    focus
      have l2 : ρ (.tmp 2) = .int .i64 peo := hlo 2 (by decide)
      have l3 : ρ (.tmp 3) = .int .i64 cla := hlo 3 (by decide)
      have l4 : ρ (.tmp 4) = .pointer (some ⟨b0, 0, none⟩) := hlo 4 (by decide)
      have l5 : ρ (.tmp 5) = .pointer (some ⟨b0 + 1, 0, none⟩) := hlo 5 (by decide)
      have l9 : ρ (.tmp 9) = .func (.func 31) #[] #[] := hlo 9 (by decide)
      go_simp
      exact hK.out _ _ ⟨_, hfr.put (i := 47) (.int .i64 0) (by omega) rfl (Nat.le_of_ble_eq_true rfl), hb, rf_set (i := 47) hF (Below.refl _ _) rfl⟩
  focus
    intro L a' w' hall hI
    subst hA
    obtain ⟨xs, hfr, hb, hF⟩ := hI
    obtain ⟨g, e45, hfits⟩ : ∃ g, xs 45 = .slice (some ⟨g, 0, none⟩) 11 11 ∧ Fits11 _ w' g := hF 45 (hall 45 (by decide))
    have e46 : xs 46 = .int .i64 11 := hF 46 (hall 46 (by decide))
    have e47 : xs 47 = .int .i64 0 := hF 47 (hall 47 (by decide))
    have hact : a' = ⟨#[.agg #[.int .i64 frm, .int .i64 person, .int .i64 dest, .int .i64 cls, .int .i64 after, .int .i64 by_, .int .i64 crowd, .int .i64 pay, .slice ah against.length ch, .bool back, .int .i64 els], .int .i64 offs, .int .i64 peo, .int .i64 cla, .pointer (some ⟨b0, 0, none⟩), .pointer (some ⟨b0 + 1, 0, none⟩), undef, undef, .bool false, .func (.func 31) #[] #[], undef, undef, xs 0, xs 1, xs 2, xs 3, xs 4, xs 5, xs 6, xs 7, xs 8, xs 9, xs 10, xs 11, xs 12, xs 13, xs 14, xs 15, xs 16, xs 17, xs 18, xs 19, xs 20, xs 21, xs 22, xs 23, xs 24, xs 25, xs 26, xs 27, xs 28, xs 29, xs 30, xs 31, xs 32, xs 33, xs 34, xs 35, xs 36, xs 37, xs 38, xs 39, xs 40, xs 41, xs 42, xs 43, xs 44, xs 45, xs 46, xs 47, undef, undef, undef, undef, undef, undef, undef], []⟩ := by
      refine act_ext hfr.defers hfr.size ?_
      intro t ht
      have ht' : t < 67 := ht
      match t, ht' with
      | 0, _ => exact hfr.out 0 (by omega)
      | 1, _ => exact hfr.out 1 (by omega)
      | 2, _ => exact hfr.out 2 (by omega)
      | 3, _ => exact hfr.out 3 (by omega)
      | 4, _ => exact hfr.out 4 (by omega)
      | 5, _ => exact hfr.out 5 (by omega)
      | 6, _ => exact hfr.out 6 (by omega)
      | 7, _ => exact hfr.out 7 (by omega)
      | 8, _ => exact hfr.out 8 (by omega)
      | 9, _ => exact hfr.out 9 (by omega)
      | 10, _ => exact hfr.out 10 (by omega)
      | 11, _ => exact hfr.out 11 (by omega)
      | 12, _ => exact hfr.slot 0 (by omega)
      | 13, _ => exact hfr.slot 1 (by omega)
      | 14, _ => exact hfr.slot 2 (by omega)
      | 15, _ => exact hfr.slot 3 (by omega)
      | 16, _ => exact hfr.slot 4 (by omega)
      | 17, _ => exact hfr.slot 5 (by omega)
      | 18, _ => exact hfr.slot 6 (by omega)
      | 19, _ => exact hfr.slot 7 (by omega)
      | 20, _ => exact hfr.slot 8 (by omega)
      | 21, _ => exact hfr.slot 9 (by omega)
      | 22, _ => exact hfr.slot 10 (by omega)
      | 23, _ => exact hfr.slot 11 (by omega)
      | 24, _ => exact hfr.slot 12 (by omega)
      | 25, _ => exact hfr.slot 13 (by omega)
      | 26, _ => exact hfr.slot 14 (by omega)
      | 27, _ => exact hfr.slot 15 (by omega)
      | 28, _ => exact hfr.slot 16 (by omega)
      | 29, _ => exact hfr.slot 17 (by omega)
      | 30, _ => exact hfr.slot 18 (by omega)
      | 31, _ => exact hfr.slot 19 (by omega)
      | 32, _ => exact hfr.slot 20 (by omega)
      | 33, _ => exact hfr.slot 21 (by omega)
      | 34, _ => exact hfr.slot 22 (by omega)
      | 35, _ => exact hfr.slot 23 (by omega)
      | 36, _ => exact hfr.slot 24 (by omega)
      | 37, _ => exact hfr.slot 25 (by omega)
      | 38, _ => exact hfr.slot 26 (by omega)
      | 39, _ => exact hfr.slot 27 (by omega)
      | 40, _ => exact hfr.slot 28 (by omega)
      | 41, _ => exact hfr.slot 29 (by omega)
      | 42, _ => exact hfr.slot 30 (by omega)
      | 43, _ => exact hfr.slot 31 (by omega)
      | 44, _ => exact hfr.slot 32 (by omega)
      | 45, _ => exact hfr.slot 33 (by omega)
      | 46, _ => exact hfr.slot 34 (by omega)
      | 47, _ => exact hfr.slot 35 (by omega)
      | 48, _ => exact hfr.slot 36 (by omega)
      | 49, _ => exact hfr.slot 37 (by omega)
      | 50, _ => exact hfr.slot 38 (by omega)
      | 51, _ => exact hfr.slot 39 (by omega)
      | 52, _ => exact hfr.slot 40 (by omega)
      | 53, _ => exact hfr.slot 41 (by omega)
      | 54, _ => exact hfr.slot 42 (by omega)
      | 55, _ => exact hfr.slot 43 (by omega)
      | 56, _ => exact hfr.slot 44 (by omega)
      | 57, _ => exact hfr.slot 45 (by omega)
      | 58, _ => exact hfr.slot 46 (by omega)
      | 59, _ => exact hfr.slot 47 (by omega)
      | 60, _ => exact hfr.out 60 (by omega)
      | 61, _ => exact hfr.out 61 (by omega)
      | 62, _ => exact hfr.out 62 (by omega)
      | 63, _ => exact hfr.out 63 (by omega)
      | 64, _ => exact hfr.out 64 (by omega)
      | 65, _ => exact hfr.out 65 (by omega)
      | 66, _ => exact hfr.out 66 (by omega)
      | t + 67, h => exact absurd h (by omega)

    rw [e45, e46, e47] at hact
    subst hact
    have HBW := Lib.hid hb
    have HFT := Lib.hid hfits
    clear hF hall hb hfits hfr e45 e46 e47
    have HWR : Hid ((∀ j, j < 11 → rbs ⟨b0, frm, person, dest, cls, after, by_, cm, pay, els, offs, peo, cla, crowd⟩ (risesB offs (-1) against) j = true) ↔ rightB ⟨frm, person, dest, cls, after, by_, crowd, pay, against, back, els⟩ offs peo cla = true) := Lib.hid (rbs_right (by rw [HCM.out]; exact wrap_dec k7 k7'))
    have HBE : Hid (Below w.heap.size w w') := Lib.hid (HB1.out.trans (HBW.out.mono HB1.out.size))
    have HBE2 : Hid (Below b0 w w') := Lib.hid (by rw [← HB0.out]; exact HBE.out)
    have HVE := Lib.hid (HV1.out.below HBW.out (by have := HB1.out.size; omega))
    have HXE := Lib.hid (HX1.out.below HBW.out (by omega))
    have HYE := Lib.hid (HY1.out.below HBW.out (by omega))
    obtain ⟨fs, hg, hfa⟩ := HFT.out
    have HG := Lib.hid hg
    have HFA := Lib.hid hfa
    clear hg hfa
    go_wp2
    go_loop [59] (fun iv => ∃ k : Nat, k ≤ 11 ∧ iv = .int .i64 k ∧ ∀ j, j < k → rbs ⟨b0, frm, person, dest, cls, after, by_, cm, pay, els, offs, peo, cla, crowd⟩ (risesB offs (-1) against) j = true) (fun iv => 11 - (intOf iv).toNat)
    case atStart => exact ⟨0, by omega, rfl, fun j hj => by omega⟩
    case round =>
      obtain ⟨k, hk, rfl, hall⟩ := hrel
      have HA := Lib.hid hall
      clear hall
      obtain ⟨_, gr⟩ := HG.out
      by_cases hlt : k < 11
      · have hkk : k = 0 ∨ k = 1 ∨ k = 2 ∨ k = 3 ∨ k = 4 ∨ k = 5 ∨ k = 6 ∨ k = 7 ∨ k = 8 ∨ k = 9 ∨ k = 10 := by omega
        clear hk hlt
        rcases hkk with rfl | rfl | rfl | rfl | rfl | rfl | rfl | rfl | rfl | rfl | rfl
        · have c0 := gr 0
          simp [fitV] at c0
          clear gr
          obtain ⟨bb, hbb⟩ : ∃ bb, rbs ⟨b0, frm, person, dest, cls, after, by_, cm, pay, els, offs, peo, cla, crowd⟩ (risesB offs (-1) against) 0 = bb := ⟨_, rfl⟩
          have HBB := Lib.hid hbb
          clear hbb
          have HC : Hid (Calls Try.prog 32 #[.pointer (some ⟨(fs 0).1, 0, none⟩), .pointer (some ⟨(fs 0).2, 0, none⟩)] w' fun e w'' => e = .returned (.bool bb) ∧ w'' = w') := Lib.hid ((fit_any (fs 0).1 (fs 0).2 _ _ w' (HFA.out 0 (by omega))).mono (by
            rintro e w5 ⟨rfl, rfl⟩
            exact ⟨by rw [← HBB.out]; rfl, rfl⟩))
          go_wp2_with fail
          refine HC.out.mono ?_
          rintro e w5 ⟨rfl, hw⟩
          rw [hw]
          clear hw
          cases bb with
          | true =>
            go_wp2
            go_round
            case rel =>
              refine ⟨1, by omega, by go_num, fun q hq => ?_⟩
              by_cases hqj : q < 0
              · exact HA.out q hqj
              · obtain rfl : q = 0 := by omega
                exact HBB.out
            case measure => simp [intOf]
          | false =>
            have HF : Hid (rightB ⟨frm, person, dest, cls, after, by_, crowd, pay, against, back, els⟩ offs peo cla = false) := Lib.hid (Bool.eq_false_iff.2 (fun h => by
              have h2 := HWR.out.2 h 0 (by omega)
              rw [HBB.out] at h2
              cases h2))
            go_wp2
            go_ret
            exact ⟨ret_bool' HF.out, HBE2.out⟩
        · have c0 := gr 1
          simp [fitV] at c0
          clear gr
          obtain ⟨bb, hbb⟩ : ∃ bb, rbs ⟨b0, frm, person, dest, cls, after, by_, cm, pay, els, offs, peo, cla, crowd⟩ (risesB offs (-1) against) 1 = bb := ⟨_, rfl⟩
          have HBB := Lib.hid hbb
          clear hbb
          have HC : Hid (Calls Try.prog 32 #[.pointer (some ⟨(fs 1).1, 0, none⟩), .pointer (some ⟨(fs 1).2, 0, none⟩)] w' fun e w'' => e = .returned (.bool bb) ∧ w'' = w') := Lib.hid ((fit_any (fs 1).1 (fs 1).2 _ _ w' (HFA.out 1 (by omega))).mono (by
            rintro e w5 ⟨rfl, rfl⟩
            exact ⟨by rw [← HBB.out]; rfl, rfl⟩))
          go_wp2_with fail
          refine HC.out.mono ?_
          rintro e w5 ⟨rfl, hw⟩
          rw [hw]
          clear hw
          cases bb with
          | true =>
            go_wp2
            go_round
            case rel =>
              refine ⟨2, by omega, by go_num, fun q hq => ?_⟩
              by_cases hqj : q < 1
              · exact HA.out q hqj
              · obtain rfl : q = 1 := by omega
                exact HBB.out
            case measure => simp [intOf]
          | false =>
            have HF : Hid (rightB ⟨frm, person, dest, cls, after, by_, crowd, pay, against, back, els⟩ offs peo cla = false) := Lib.hid (Bool.eq_false_iff.2 (fun h => by
              have h2 := HWR.out.2 h 1 (by omega)
              rw [HBB.out] at h2
              cases h2))
            go_wp2
            go_ret
            exact ⟨ret_bool' HF.out, HBE2.out⟩
        · have c0 := gr 2
          simp [fitV] at c0
          clear gr
          obtain ⟨bb, hbb⟩ : ∃ bb, rbs ⟨b0, frm, person, dest, cls, after, by_, cm, pay, els, offs, peo, cla, crowd⟩ (risesB offs (-1) against) 2 = bb := ⟨_, rfl⟩
          have HBB := Lib.hid hbb
          clear hbb
          have HC : Hid (Calls Try.prog 32 #[.pointer (some ⟨(fs 2).1, 0, none⟩), .pointer (some ⟨(fs 2).2, 0, none⟩)] w' fun e w'' => e = .returned (.bool bb) ∧ w'' = w') := Lib.hid ((fit_any (fs 2).1 (fs 2).2 _ _ w' (HFA.out 2 (by omega))).mono (by
            rintro e w5 ⟨rfl, rfl⟩
            exact ⟨by rw [← HBB.out]; rfl, rfl⟩))
          go_wp2_with fail
          refine HC.out.mono ?_
          rintro e w5 ⟨rfl, hw⟩
          rw [hw]
          clear hw
          cases bb with
          | true =>
            go_wp2
            go_round
            case rel =>
              refine ⟨3, by omega, by go_num, fun q hq => ?_⟩
              by_cases hqj : q < 2
              · exact HA.out q hqj
              · obtain rfl : q = 2 := by omega
                exact HBB.out
            case measure => simp [intOf]
          | false =>
            have HF : Hid (rightB ⟨frm, person, dest, cls, after, by_, crowd, pay, against, back, els⟩ offs peo cla = false) := Lib.hid (Bool.eq_false_iff.2 (fun h => by
              have h2 := HWR.out.2 h 2 (by omega)
              rw [HBB.out] at h2
              cases h2))
            go_wp2
            go_ret
            exact ⟨ret_bool' HF.out, HBE2.out⟩
        · have c0 := gr 3
          simp [fitV] at c0
          clear gr
          obtain ⟨bb, hbb⟩ : ∃ bb, rbs ⟨b0, frm, person, dest, cls, after, by_, cm, pay, els, offs, peo, cla, crowd⟩ (risesB offs (-1) against) 3 = bb := ⟨_, rfl⟩
          have HBB := Lib.hid hbb
          clear hbb
          have HC : Hid (Calls Try.prog 32 #[.pointer (some ⟨(fs 3).1, 0, none⟩), .pointer (some ⟨(fs 3).2, 0, none⟩)] w' fun e w'' => e = .returned (.bool bb) ∧ w'' = w') := Lib.hid ((fit_any (fs 3).1 (fs 3).2 _ _ w' (HFA.out 3 (by omega))).mono (by
            rintro e w5 ⟨rfl, rfl⟩
            exact ⟨by rw [← HBB.out]; rfl, rfl⟩))
          go_wp2_with fail
          refine HC.out.mono ?_
          rintro e w5 ⟨rfl, hw⟩
          rw [hw]
          clear hw
          cases bb with
          | true =>
            go_wp2
            go_round
            case rel =>
              refine ⟨4, by omega, by go_num, fun q hq => ?_⟩
              by_cases hqj : q < 3
              · exact HA.out q hqj
              · obtain rfl : q = 3 := by omega
                exact HBB.out
            case measure => simp [intOf]
          | false =>
            have HF : Hid (rightB ⟨frm, person, dest, cls, after, by_, crowd, pay, against, back, els⟩ offs peo cla = false) := Lib.hid (Bool.eq_false_iff.2 (fun h => by
              have h2 := HWR.out.2 h 3 (by omega)
              rw [HBB.out] at h2
              cases h2))
            go_wp2
            go_ret
            exact ⟨ret_bool' HF.out, HBE2.out⟩
        · have c0 := gr 4
          simp [fitV] at c0
          clear gr
          obtain ⟨bb, hbb⟩ : ∃ bb, rbs ⟨b0, frm, person, dest, cls, after, by_, cm, pay, els, offs, peo, cla, crowd⟩ (risesB offs (-1) against) 4 = bb := ⟨_, rfl⟩
          have HBB := Lib.hid hbb
          clear hbb
          have HC : Hid (Calls Try.prog 32 #[.pointer (some ⟨(fs 4).1, 0, none⟩), .pointer (some ⟨(fs 4).2, 0, none⟩)] w' fun e w'' => e = .returned (.bool bb) ∧ w'' = w') := Lib.hid ((fit_any (fs 4).1 (fs 4).2 _ _ w' (HFA.out 4 (by omega))).mono (by
            rintro e w5 ⟨rfl, rfl⟩
            exact ⟨by rw [← HBB.out]; rfl, rfl⟩))
          go_wp2_with fail
          refine HC.out.mono ?_
          rintro e w5 ⟨rfl, hw⟩
          rw [hw]
          clear hw
          cases bb with
          | true =>
            go_wp2
            go_round
            case rel =>
              refine ⟨5, by omega, by go_num, fun q hq => ?_⟩
              by_cases hqj : q < 4
              · exact HA.out q hqj
              · obtain rfl : q = 4 := by omega
                exact HBB.out
            case measure => simp [intOf]
          | false =>
            have HF : Hid (rightB ⟨frm, person, dest, cls, after, by_, crowd, pay, against, back, els⟩ offs peo cla = false) := Lib.hid (Bool.eq_false_iff.2 (fun h => by
              have h2 := HWR.out.2 h 4 (by omega)
              rw [HBB.out] at h2
              cases h2))
            go_wp2
            go_ret
            exact ⟨ret_bool' HF.out, HBE2.out⟩
        · have c0 := gr 5
          simp [fitV] at c0
          clear gr
          obtain ⟨bb, hbb⟩ : ∃ bb, rbs ⟨b0, frm, person, dest, cls, after, by_, cm, pay, els, offs, peo, cla, crowd⟩ (risesB offs (-1) against) 5 = bb := ⟨_, rfl⟩
          have HBB := Lib.hid hbb
          clear hbb
          have HC : Hid (Calls Try.prog 32 #[.pointer (some ⟨(fs 5).1, 0, none⟩), .pointer (some ⟨(fs 5).2, 0, none⟩)] w' fun e w'' => e = .returned (.bool bb) ∧ w'' = w') := Lib.hid ((fit_any (fs 5).1 (fs 5).2 _ _ w' (HFA.out 5 (by omega))).mono (by
            rintro e w5 ⟨rfl, rfl⟩
            exact ⟨by rw [← HBB.out]; rfl, rfl⟩))
          go_wp2_with fail
          refine HC.out.mono ?_
          rintro e w5 ⟨rfl, hw⟩
          rw [hw]
          clear hw
          cases bb with
          | true =>
            go_wp2
            go_round
            case rel =>
              refine ⟨6, by omega, by go_num, fun q hq => ?_⟩
              by_cases hqj : q < 5
              · exact HA.out q hqj
              · obtain rfl : q = 5 := by omega
                exact HBB.out
            case measure => simp [intOf]
          | false =>
            have HF : Hid (rightB ⟨frm, person, dest, cls, after, by_, crowd, pay, against, back, els⟩ offs peo cla = false) := Lib.hid (Bool.eq_false_iff.2 (fun h => by
              have h2 := HWR.out.2 h 5 (by omega)
              rw [HBB.out] at h2
              cases h2))
            go_wp2
            go_ret
            exact ⟨ret_bool' HF.out, HBE2.out⟩
        · have c0 := gr 6
          simp [fitV] at c0
          clear gr
          obtain ⟨bb, hbb⟩ : ∃ bb, rbs ⟨b0, frm, person, dest, cls, after, by_, cm, pay, els, offs, peo, cla, crowd⟩ (risesB offs (-1) against) 6 = bb := ⟨_, rfl⟩
          have HBB := Lib.hid hbb
          clear hbb
          have HC : Hid (Calls Try.prog 32 #[.pointer (some ⟨(fs 6).1, 0, none⟩), .pointer (some ⟨(fs 6).2, 0, none⟩)] w' fun e w'' => e = .returned (.bool bb) ∧ w'' = w') := Lib.hid ((fit_any (fs 6).1 (fs 6).2 _ _ w' (HFA.out 6 (by omega))).mono (by
            rintro e w5 ⟨rfl, rfl⟩
            exact ⟨by rw [← HBB.out]; rfl, rfl⟩))
          go_wp2_with fail
          refine HC.out.mono ?_
          rintro e w5 ⟨rfl, hw⟩
          rw [hw]
          clear hw
          cases bb with
          | true =>
            go_wp2
            go_round
            case rel =>
              refine ⟨7, by omega, by go_num, fun q hq => ?_⟩
              by_cases hqj : q < 6
              · exact HA.out q hqj
              · obtain rfl : q = 6 := by omega
                exact HBB.out
            case measure => simp [intOf]
          | false =>
            have HF : Hid (rightB ⟨frm, person, dest, cls, after, by_, crowd, pay, against, back, els⟩ offs peo cla = false) := Lib.hid (Bool.eq_false_iff.2 (fun h => by
              have h2 := HWR.out.2 h 6 (by omega)
              rw [HBB.out] at h2
              cases h2))
            go_wp2
            go_ret
            exact ⟨ret_bool' HF.out, HBE2.out⟩
        · have c0 := gr 7
          simp [fitV] at c0
          clear gr
          obtain ⟨bb, hbb⟩ : ∃ bb, rbs ⟨b0, frm, person, dest, cls, after, by_, cm, pay, els, offs, peo, cla, crowd⟩ (risesB offs (-1) against) 7 = bb := ⟨_, rfl⟩
          have HBB := Lib.hid hbb
          clear hbb
          have HC : Hid (Calls Try.prog 32 #[.pointer (some ⟨(fs 7).1, 0, none⟩), .pointer (some ⟨(fs 7).2, 0, none⟩)] w' fun e w'' => e = .returned (.bool bb) ∧ w'' = w') := Lib.hid ((fit_any (fs 7).1 (fs 7).2 _ _ w' (HFA.out 7 (by omega))).mono (by
            rintro e w5 ⟨rfl, rfl⟩
            exact ⟨by rw [← HBB.out]; rfl, rfl⟩))
          go_wp2_with fail
          refine HC.out.mono ?_
          rintro e w5 ⟨rfl, hw⟩
          rw [hw]
          clear hw
          cases bb with
          | true =>
            go_wp2
            go_round
            case rel =>
              refine ⟨8, by omega, by go_num, fun q hq => ?_⟩
              by_cases hqj : q < 7
              · exact HA.out q hqj
              · obtain rfl : q = 7 := by omega
                exact HBB.out
            case measure => simp [intOf]
          | false =>
            have HF : Hid (rightB ⟨frm, person, dest, cls, after, by_, crowd, pay, against, back, els⟩ offs peo cla = false) := Lib.hid (Bool.eq_false_iff.2 (fun h => by
              have h2 := HWR.out.2 h 7 (by omega)
              rw [HBB.out] at h2
              cases h2))
            go_wp2
            go_ret
            exact ⟨ret_bool' HF.out, HBE2.out⟩
        · have c0 := gr 8
          simp [fitV] at c0
          clear gr
          obtain ⟨bb, hbb⟩ : ∃ bb, rbs ⟨b0, frm, person, dest, cls, after, by_, cm, pay, els, offs, peo, cla, crowd⟩ (risesB offs (-1) against) 8 = bb := ⟨_, rfl⟩
          have HBB := Lib.hid hbb
          clear hbb
          have HC : Hid (Calls Try.prog 32 #[.pointer (some ⟨(fs 8).1, 0, none⟩), .pointer (some ⟨(fs 8).2, 0, none⟩)] w' fun e w'' => e = .returned (.bool bb) ∧ w'' = w') := Lib.hid ((fit_any (fs 8).1 (fs 8).2 _ _ w' (HFA.out 8 (by omega))).mono (by
            rintro e w5 ⟨rfl, rfl⟩
            exact ⟨by rw [← HBB.out]; rfl, rfl⟩))
          go_wp2_with fail
          refine HC.out.mono ?_
          rintro e w5 ⟨rfl, hw⟩
          rw [hw]
          clear hw
          cases bb with
          | true =>
            go_wp2
            go_round
            case rel =>
              refine ⟨9, by omega, by go_num, fun q hq => ?_⟩
              by_cases hqj : q < 8
              · exact HA.out q hqj
              · obtain rfl : q = 8 := by omega
                exact HBB.out
            case measure => simp [intOf]
          | false =>
            have HF : Hid (rightB ⟨frm, person, dest, cls, after, by_, crowd, pay, against, back, els⟩ offs peo cla = false) := Lib.hid (Bool.eq_false_iff.2 (fun h => by
              have h2 := HWR.out.2 h 8 (by omega)
              rw [HBB.out] at h2
              cases h2))
            go_wp2
            go_ret
            exact ⟨ret_bool' HF.out, HBE2.out⟩
        · have c0 := gr 9
          simp [fitV] at c0
          clear gr
          obtain ⟨bb, hbb⟩ : ∃ bb, rbs ⟨b0, frm, person, dest, cls, after, by_, cm, pay, els, offs, peo, cla, crowd⟩ (risesB offs (-1) against) 9 = bb := ⟨_, rfl⟩
          have HBB := Lib.hid hbb
          clear hbb
          have HC : Hid (Calls Try.prog 33 #[.pointer (some ⟨b0, 0, none⟩)] w' fun e w'' => e = .returned (.bool bb) ∧ w'' = w') := Lib.hid ((differ_any b0 (.slice ah against.length ch) ⟨frm, person, dest, cls, after, by_, crowd, pay, against, back, els⟩ w' HXE.out).mono (by
            rintro e w5 ⟨rfl, rfl⟩
            exact ⟨by rw [← HBB.out]; rfl, rfl⟩))
          go_wp2_with fail
          refine HC.out.mono ?_
          rintro e w5 ⟨rfl, hw⟩
          rw [hw]
          clear hw
          cases bb with
          | true =>
            go_wp2
            go_round
            case rel =>
              refine ⟨10, by omega, by go_num, fun q hq => ?_⟩
              by_cases hqj : q < 9
              · exact HA.out q hqj
              · obtain rfl : q = 9 := by omega
                exact HBB.out
            case measure => simp [intOf]
          | false =>
            have HF : Hid (rightB ⟨frm, person, dest, cls, after, by_, crowd, pay, against, back, els⟩ offs peo cla = false) := Lib.hid (Bool.eq_false_iff.2 (fun h => by
              have h2 := HWR.out.2 h 9 (by omega)
              rw [HBB.out] at h2
              cases h2))
            go_wp2
            go_ret
            exact ⟨ret_bool' HF.out, HBE2.out⟩
        · have c0 := gr 10
          simp [fitV] at c0
          clear gr
          obtain ⟨bb, hbb⟩ : ∃ bb, rbs ⟨b0, frm, person, dest, cls, after, by_, cm, pay, els, offs, peo, cla, crowd⟩ (risesB offs (-1) against) 10 = bb := ⟨_, rfl⟩
          have HBB := Lib.hid hbb
          clear hbb
          have HC : Hid (Calls Try.prog 34 #[.pointer (some ⟨b0, 0, none⟩), .pointer (some ⟨b0 + 1, 0, none⟩)] w' fun e w'' => e = .returned (.bool bb) ∧ w'' = w') := Lib.hid ((rises_any w.heap.size b0 (b0 + 1) (.slice ah against.length ch) ⟨frm, person, dest, cls, after, by_, crowd, pay, against, back, els⟩ offs w' HXE.out HYE.out (HVE.out.mono hB)).mono (by
            rintro e w5 ⟨rfl, rfl⟩
            exact ⟨by rw [← HBB.out]; rfl, rfl⟩))
          go_wp2_with fail
          refine HC.out.mono ?_
          rintro e w5 ⟨rfl, hw⟩
          rw [hw]
          clear hw
          cases bb with
          | true =>
            go_wp2
            go_round
            case rel =>
              refine ⟨11, by omega, by go_num, fun q hq => ?_⟩
              by_cases hqj : q < 10
              · exact HA.out q hqj
              · obtain rfl : q = 10 := by omega
                exact HBB.out
            case measure => simp [intOf]
          | false =>
            have HF : Hid (rightB ⟨frm, person, dest, cls, after, by_, crowd, pay, against, back, els⟩ offs peo cla = false) := Lib.hid (Bool.eq_false_iff.2 (fun h => by
              have h2 := HWR.out.2 h 10 (by omega)
              rw [HBB.out] at h2
              cases h2))
            go_wp2
            go_ret
            exact ⟨ret_bool' HF.out, HBE2.out⟩
      · obtain rfl : k = 11 := by omega
        have HT : Hid (rightB ⟨frm, person, dest, cls, after, by_, crowd, pay, against, back, els⟩ offs peo cla = true) := Lib.hid (HWR.out.1 HA.out)
        clear gr
        go_wp2
        go_ret
        exact ⟨ret_bool' HT.out, HBE2.out⟩
end Go.Proofs.Ytmfbabmejbppjaa
