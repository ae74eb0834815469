/-
  Layer 17: the walks of the parser's who and when (printed by tools/geny7.py).
-/
import Derived.Test.YtfnmidddgjlipaaDoorY6
import Derived.StillTailTactics
set_option linter.unusedVariables false
set_option linter.unusedSimpArgs false
namespace Go.Proofs.YtfnmidddgjlipaaDoor
open Go.RowKit

theorem below_drewL {B : Nat} {w w' : World} (h : Below B w w') : Below B w w'.drew := h.drew
theorem CellsN.drewL {w : World} {b : Nat} {c : Array Value} (h : CellsN w b c) : CellsN w.drew b c := h
/-- what a part of the parser that writes the order leaves -/
def PartPost (S B : Nat) (w : World) (stop : Int) (va : Value) (res : PR WishD) (e : Ending) (w' : World) : Prop :=
  w.grownBy w' (some S) ∧ match res with
    | .ok (x, r) => e = .returned (.tuple #[]) ∧ Par S B w' stop r va x
    | .error r => e = wrongE stop r
theorem wn_none {s : Str} {l : List Tok} (h : pTake s l = none) : pWN s l = .error l := by unfold pWN pBind pWant; rw [h]
theorem wn_some {s : Str} {l r : List Tok} (h : pTake s l = some r) : pWN s l = pName r := by unfold pWN pBind pWant; rw [h]
theorem wm_none {s : Str} {m : Int} {l : List Tok} (h : pTake s l = none) : pWM s m l = .error l := by unfold pWM pBind pWant; rw [h]
theorem wm_some {s : Str} {m : Int} {l r : List Tok} (h : pTake s l = some r) : pWM s m l = pNum m r := by unfold pWM pBind pWant; rw [h]
def whoW : Nat → Str
  | 0 => wLetter
  | 1 => wFrom
  | 2 => wTo
  | _ => wClass
def setW (k : Nat) (x : WishD) (s : Str) : WishD := match k with
  | 0 => { x with name := s }
  | 1 => { x with frm := s }
  | 2 => ⟨x.name, x.frm, s, x.cls, x.after, x.by_, x.crowd, x.pay, x.against, x.back, x.els⟩
  | _ => { x with cls := s }
def whoF : Nat → Nat → WishD → List Tok → PR WishD
  | 0, _, x, l => .ok (x, l)
  | f + 1, k, x, l => match pWN (whoW k) l with
    | .error e => .error e
    | .ok (s, r) => whoF f (k + 1) (setW k x s) r
theorem whoF_succ (f k : Nat) (x : WishD) (l : List Tok) : whoF (f + 1) k x l = match pWN (whoW k) l with
    | .error e => .error e
    | .ok (s, r) => whoF f (k + 1) (setW k x s) r := rfl
def pWho (x : WishD) (l : List Tok) : PR WishD := whoF 4 0 x l
theorem Par.setS {S B k : Nat} {w : World} {stop : Int} {l : List Tok} {va : Value} {x : WishD} (h : Par S B w stop l va x) (hB : B ≤ S) (hk : k < 4) (s : Str) : Par S B (w.setCell ⟨S, 2 + k, none⟩ (strV s)) stop l va (setW k x s) := by
  obtain ⟨lv, h1, h2⟩ := h
  refine ⟨lv, ?_, h2.below ((Below.refl B w).setCell (p := ⟨S, 2 + k, none⟩) hB _) (Nat.le_refl _)⟩
  have h3 := h1.set (2 + k) (strV s)
  match k, hk with
  | 0, _ => simpa [parC, setW] using h3
  | 1, _ => simpa [parC, setW] using h3
  | 2, _ => simpa [parC, setW] using h3
  | 3, _ => simpa [parC, setW] using h3
def whenW : Nat → Str
  | 0 => wAfter
  | 1 => wBy
  | _ => wCrowd
def whenM : Nat → Int
  | 0 => clockM
  | 1 => clockM
  | _ => crowdM
def setN (k : Nat) (x : WishD) (s : Int) : WishD := match k with
  | 0 => { x with after := s }
  | 1 => { x with by_ := s }
  | _ => { x with crowd := s }
def whenF : Nat → Nat → WishD → List Tok → PR WishD
  | 0, _, x, l => .ok (x, l)
  | f + 1, k, x, l => match pWM (whenW k) (whenM k) l with
    | .error e => .error e
    | .ok (s, r) => whenF f (k + 1) (setN k x s) r
theorem whenF_succ (f k : Nat) (x : WishD) (l : List Tok) : whenF (f + 1) k x l = match pWM (whenW k) (whenM k) l with
    | .error e => .error e
    | .ok (s, r) => whenF f (k + 1) (setN k x s) r := rfl
def pWhen (x : WishD) (l : List Tok) : PR WishD := whenF 3 0 x l
theorem Par.setI {S B k : Nat} {w : World} {stop : Int} {l : List Tok} {va : Value} {x : WishD} (h : Par S B w stop l va x) (hB : B ≤ S) (hk : k < 3) (s : Int) : Par S B (w.setCell ⟨S, 6 + k, none⟩ (.int .i64 s)) stop l va (setN k x s) := by
  obtain ⟨lv, h1, h2⟩ := h
  refine ⟨lv, ?_, h2.below ((Below.refl B w).setCell (p := ⟨S, 6 + k, none⟩) hB _) (Nat.le_refl _)⟩
  have h3 := h1.set (6 + k) (.int .i64 s)
  match k, hk with
  | 0, _ => simpa [parC, setN] using h3
  | 1, _ => simpa [parC, setN] using h3
  | 2, _ => simpa [parC, setN] using h3
theorem Par.drew {S B : Nat} {w : World} {stop : Int} {l : List Tok} {va : Value} {x : WishD} (h : Par S B w stop l va x) (hB : B ≤ S) : Par S B w.drew stop l va x := h.below ((Below.refl _ w).drew) hB
theorem Par.cells {S B : Nat} {w : World} {stop : Int} {l : List Tok} {va : Value} {x : WishD} (h : Par S B w stop l va x) (k : Nat) (hk : k < 13) : (w.cell? ⟨S, k, none⟩).isSome = true ∧ w.frozen? ⟨S, k, none⟩ = false := by
  obtain ⟨lv, h1, h2⟩ := h
  refine ⟨?_, h1.free k⟩
  rw [h1.cell k, Array.getElem?_eq_getElem (show k < (parC lv stop va x).size from hk)]
  rfl

set_option maxHeartbeats 8000000 in
set_option maxRecDepth 100000 in
theorem who_any (S B : Nat) (w : World) (stop : Int) (l : List Tok) (va : Value) (x : WishD) (hS : Par S B w stop l va x) (hB : B ≤ S) :
    Calls Tryd.prog 38 #[.pointer (some ⟨S, 0, none⟩)] w (PartPost S B w stop va (pWho x l)) := by
  have HS := Lib.hid hS
  have hlt := hS.lt
  obtain ⟨bL, hbL⟩ : ∃ b, w.heap.size = b := ⟨_, rfl⟩
  obtain ⟨WL, hWL⟩ : ∃ W, (w.alloc (.cells #[strV wLetter, .pointer (some ⟨S, 2, none⟩), strV wFrom, .pointer (some ⟨S, 3, none⟩), strV wTo, .pointer (some ⟨S, 4, none⟩), strV wClass, .pointer (some ⟨S, 5, none⟩)] 95)).drew = W := ⟨_, rfl⟩
  have HBL : Hid (Below w.heap.size w WL) := Lib.hid (by rw [← hWL]; exact below_drewL (box_below' w _))
  have HCL : Hid (CellsN WL bL #[strV wLetter, .pointer (some ⟨S, 2, none⟩), strV wFrom, .pointer (some ⟨S, 3, none⟩), strV wTo, .pointer (some ⟨S, 4, none⟩), strV wClass, .pointer (some ⟨S, 5, none⟩)]) := Lib.hid (by rw [← hWL, ← hbL]; exact (CellsN.new _ _ _).drewL)
  have HSL := Lib.hid (hS.below HBL.out hB)
  have HEL := Lib.hid hbL
  have HWL := Lib.hid hWL
  clear hS hWL
  go_enter Tryd.func38, Tryd.ntmps38
  go_upto_region 0 with fail
  obtain ⟨V, hV⟩ : ∃ V : List (Option Value), V = [some (.pointer (some ⟨S, 0, none⟩)), some (.pointer (some ⟨S, 0, none⟩)), some (.pointer (some ⟨S, 2, none⟩)), some (.pointer (some ⟨S, 2, none⟩)), some (.agg #[strV wLetter, .pointer (some ⟨S, 2, none⟩)]), some (.pointer (some ⟨S, 0, none⟩)), some (.pointer (some ⟨S, 0, none⟩)), some (.pointer (some ⟨S, 2, none⟩)), some (.pointer (some ⟨S, 3, none⟩)), some (.agg #[strV wFrom, .pointer (some ⟨S, 3, none⟩)]), some (.pointer (some ⟨S, 0, none⟩)), some (.pointer (some ⟨S, 0, none⟩)), some (.pointer (some ⟨S, 2, none⟩)), some (.pointer (some ⟨S, 4, none⟩)), some (.agg #[strV wTo, .pointer (some ⟨S, 4, none⟩)]), some (.pointer (some ⟨S, 0, none⟩)), some (.pointer (some ⟨S, 0, none⟩)), some (.pointer (some ⟨S, 2, none⟩)), some (.pointer (some ⟨S, 5, none⟩)), some (.agg #[strV wClass, .pointer (some ⟨S, 5, none⟩)]), some (.slice (some ⟨bL, 0, none⟩) 4 4), some (.int .i64 4), some (.int .i64 0)] := ⟨_, rfl⟩
  have HVV := Lib.hid hV
  clear hV
  refine wp_region_V [some 4, some 5, some 6, some 7, some 8, some 9, some 10, some 11, some 12, some 13, some 14, some 15, some 16, some 17, some 18, some 19, some 20, some 21, some 22, some 23, some 24, some 25, some 26] (fun L w' xs => ValsAt V L xs ∧ ((L 20 = false ∧ w' = w.drew) ∨ (L 20 = true ∧ w' = WL))) (by kernel_rfl) (by kernel_rfl) (by rfl) (by rfl) (by rfl) ?_ ?_ ?_
  focus
    exact fun xs => ⟨ValsAt.none _ _, Or.inl ⟨rfl, rfl⟩⟩
  focus
    refine ⟨?_, ?_, ?_, ?_, ?_, ?_, ?_, ?_, ?_, ?_, ?_, ?_, ?_, ?_, ?_, ?_, ?_, ?_, ?_, ?_, ?_, ?_, ?_, trivial⟩
    all_goals
      intro L a' w' xs hi hd hf hJ K hK
      obtain ⟨hv, hw⟩ := hJ
      have HF := Lib.hid hf
      have HVA := Lib.hid hv
      have HLI := Lib.hid hi
      clear hf hv hi
    focus
      clear hd
      obtain ⟨ρ, hρ⟩ : ∃ ρ, a'.eval = ρ := ⟨_, rfl⟩
      have hcst : ∀ v, ρ (.const v) = v := fun v => (congrFun hρ (.const v)).symm
      have l0 : ρ (.tmp 0) = .pointer (some ⟨S, 0, none⟩) := (congrFun hρ (.tmp 0)).symm.trans (HF.out.lo 0 rfl)
      rw [if_pos (by simp [Region.wanted])]
      unfold Oper.wp
      rw [hρ]
      clear hρ
      have HW := Lib.hid hw
      clear hw
      go_simp
      exact hK.out _ _ ⟨HVA.out.set (i := 0) (by rw [HVV.out]; rfl), by simp only [upd_ne (L := L) (show (20 : Nat) ≠ 0 by decide)]; exact HW.out⟩
    focus
      obtain ⟨d0, _⟩ := hd
      obtain ⟨ρ, hρ⟩ : ∃ ρ, a'.eval = ρ := ⟨_, rfl⟩
      have hcst : ∀ v, ρ (.const v) = v := fun v => (congrFun hρ (.const v)).symm
      have v0 : ρ (.tmp 4) = .pointer (some ⟨S, 0, none⟩) := (congrFun hρ (.tmp 4)).symm.trans ((HF.out.ev 0 rfl d0).trans (HVA.out 0 _ (by rw [HVV.out]; rfl) d0))
      rw [if_pos (by simp [Region.wanted])]
      unfold Oper.wp
      rw [hρ]
      clear hρ
      have HW := Lib.hid hw
      clear hw
      go_simp
      exact hK.out _ _ ⟨HVA.out.set (i := 1) (by rw [HVV.out]; rfl), by simp only [upd_ne (L := L) (show (20 : Nat) ≠ 1 by decide)]; exact HW.out⟩
    focus
      obtain ⟨d1, _⟩ := hd
      obtain ⟨ρ, hρ⟩ : ∃ ρ, a'.eval = ρ := ⟨_, rfl⟩
      have hcst : ∀ v, ρ (.const v) = v := fun v => (congrFun hρ (.const v)).symm
      have v1 : ρ (.tmp 5) = .pointer (some ⟨S, 0, none⟩) := (congrFun hρ (.tmp 5)).symm.trans ((HF.out.ev 1 rfl d1).trans (HVA.out 1 _ (by rw [HVV.out]; rfl) d1))
      rw [if_pos (by simp [Region.wanted])]
      unfold Oper.wp
      rw [hρ]
      clear hρ
      have HW := Lib.hid hw
      clear hw
      go_simp
      exact hK.out _ _ ⟨HVA.out.set (i := 2) (by rw [HVV.out]; rfl), by simp only [upd_ne (L := L) (show (20 : Nat) ≠ 2 by decide)]; exact HW.out⟩
    focus
      obtain ⟨d2, _⟩ := hd
      obtain ⟨ρ, hρ⟩ : ∃ ρ, a'.eval = ρ := ⟨_, rfl⟩
      have hcst : ∀ v, ρ (.const v) = v := fun v => (congrFun hρ (.const v)).symm
      have v2 : ρ (.tmp 6) = .pointer (some ⟨S, 2, none⟩) := (congrFun hρ (.tmp 6)).symm.trans ((HF.out.ev 2 rfl d2).trans (HVA.out 2 _ (by rw [HVV.out]; rfl) d2))
      rw [if_pos (by simp [Region.wanted])]
      unfold Oper.wp
      rw [hρ]
      clear hρ
      have HW := Lib.hid hw
      clear hw
      go_simp
      exact hK.out _ _ ⟨HVA.out.set (i := 3) (by rw [HVV.out]; rfl), by simp only [upd_ne (L := L) (show (20 : Nat) ≠ 3 by decide)]; exact HW.out⟩
    focus
      obtain ⟨d3, _⟩ := hd
      obtain ⟨ρ, hρ⟩ : ∃ ρ, a'.eval = ρ := ⟨_, rfl⟩
      have hcst : ∀ v, ρ (.const v) = v := fun v => (congrFun hρ (.const v)).symm
      have v3 : ρ (.tmp 7) = .pointer (some ⟨S, 2, none⟩) := (congrFun hρ (.tmp 7)).symm.trans ((HF.out.ev 3 rfl d3).trans (HVA.out 3 _ (by rw [HVV.out]; rfl) d3))
      rw [if_pos (by simp [Region.wanted])]
      unfold Oper.wp
      rw [hρ]
      clear hρ
      have HW := Lib.hid hw
      clear hw
      go_simp
      exact hK.out _ _ ⟨HVA.out.set (i := 4) (by rw [HVV.out]; rfl), by simp only [upd_ne (L := L) (show (20 : Nat) ≠ 4 by decide)]; exact HW.out⟩
    focus
      clear hd
      obtain ⟨ρ, hρ⟩ : ∃ ρ, a'.eval = ρ := ⟨_, rfl⟩
      have hcst : ∀ v, ρ (.const v) = v := fun v => (congrFun hρ (.const v)).symm
      have l0 : ρ (.tmp 0) = .pointer (some ⟨S, 0, none⟩) := (congrFun hρ (.tmp 0)).symm.trans (HF.out.lo 0 rfl)
      rw [if_pos (by simp [Region.wanted])]
      unfold Oper.wp
      rw [hρ]
      clear hρ
      have HW := Lib.hid hw
      clear hw
      go_simp
      exact hK.out _ _ ⟨HVA.out.set (i := 5) (by rw [HVV.out]; rfl), by simp only [upd_ne (L := L) (show (20 : Nat) ≠ 5 by decide)]; exact HW.out⟩
    focus
      obtain ⟨d5, _⟩ := hd
      obtain ⟨ρ, hρ⟩ : ∃ ρ, a'.eval = ρ := ⟨_, rfl⟩
      have hcst : ∀ v, ρ (.const v) = v := fun v => (congrFun hρ (.const v)).symm
      have v5 : ρ (.tmp 9) = .pointer (some ⟨S, 0, none⟩) := (congrFun hρ (.tmp 9)).symm.trans ((HF.out.ev 5 rfl d5).trans (HVA.out 5 _ (by rw [HVV.out]; rfl) d5))
      rw [if_pos (by simp [Region.wanted])]
      unfold Oper.wp
      rw [hρ]
      clear hρ
      have HW := Lib.hid hw
      clear hw
      go_simp
      exact hK.out _ _ ⟨HVA.out.set (i := 6) (by rw [HVV.out]; rfl), by simp only [upd_ne (L := L) (show (20 : Nat) ≠ 6 by decide)]; exact HW.out⟩
    focus
      obtain ⟨d6, _⟩ := hd
      obtain ⟨ρ, hρ⟩ : ∃ ρ, a'.eval = ρ := ⟨_, rfl⟩
      have hcst : ∀ v, ρ (.const v) = v := fun v => (congrFun hρ (.const v)).symm
      have v6 : ρ (.tmp 10) = .pointer (some ⟨S, 0, none⟩) := (congrFun hρ (.tmp 10)).symm.trans ((HF.out.ev 6 rfl d6).trans (HVA.out 6 _ (by rw [HVV.out]; rfl) d6))
      rw [if_pos (by simp [Region.wanted])]
      unfold Oper.wp
      rw [hρ]
      clear hρ
      have HW := Lib.hid hw
      clear hw
      go_simp
      exact hK.out _ _ ⟨HVA.out.set (i := 7) (by rw [HVV.out]; rfl), by simp only [upd_ne (L := L) (show (20 : Nat) ≠ 7 by decide)]; exact HW.out⟩
    focus
      obtain ⟨d7, _⟩ := hd
      obtain ⟨ρ, hρ⟩ : ∃ ρ, a'.eval = ρ := ⟨_, rfl⟩
      have hcst : ∀ v, ρ (.const v) = v := fun v => (congrFun hρ (.const v)).symm
      have v7 : ρ (.tmp 11) = .pointer (some ⟨S, 2, none⟩) := (congrFun hρ (.tmp 11)).symm.trans ((HF.out.ev 7 rfl d7).trans (HVA.out 7 _ (by rw [HVV.out]; rfl) d7))
      rw [if_pos (by simp [Region.wanted])]
      unfold Oper.wp
      rw [hρ]
      clear hρ
      have HW := Lib.hid hw
      clear hw
      go_simp
      exact hK.out _ _ ⟨HVA.out.set (i := 8) (by rw [HVV.out]; rfl), by simp only [upd_ne (L := L) (show (20 : Nat) ≠ 8 by decide)]; exact HW.out⟩
    focus
      obtain ⟨d8, _⟩ := hd
      obtain ⟨ρ, hρ⟩ : ∃ ρ, a'.eval = ρ := ⟨_, rfl⟩
      have hcst : ∀ v, ρ (.const v) = v := fun v => (congrFun hρ (.const v)).symm
      have v8 : ρ (.tmp 12) = .pointer (some ⟨S, 3, none⟩) := (congrFun hρ (.tmp 12)).symm.trans ((HF.out.ev 8 rfl d8).trans (HVA.out 8 _ (by rw [HVV.out]; rfl) d8))
      rw [if_pos (by simp [Region.wanted])]
      unfold Oper.wp
      rw [hρ]
      clear hρ
      have HW := Lib.hid hw
      clear hw
      go_simp
      exact hK.out _ _ ⟨HVA.out.set (i := 9) (by rw [HVV.out]; rfl), by simp only [upd_ne (L := L) (show (20 : Nat) ≠ 9 by decide)]; exact HW.out⟩
    focus
      clear hd
      obtain ⟨ρ, hρ⟩ : ∃ ρ, a'.eval = ρ := ⟨_, rfl⟩
      have hcst : ∀ v, ρ (.const v) = v := fun v => (congrFun hρ (.const v)).symm
      have l0 : ρ (.tmp 0) = .pointer (some ⟨S, 0, none⟩) := (congrFun hρ (.tmp 0)).symm.trans (HF.out.lo 0 rfl)
      rw [if_pos (by simp [Region.wanted])]
      unfold Oper.wp
      rw [hρ]
      clear hρ
      have HW := Lib.hid hw
      clear hw
      go_simp
      exact hK.out _ _ ⟨HVA.out.set (i := 10) (by rw [HVV.out]; rfl), by simp only [upd_ne (L := L) (show (20 : Nat) ≠ 10 by decide)]; exact HW.out⟩
    focus
      obtain ⟨d10, _⟩ := hd
      obtain ⟨ρ, hρ⟩ : ∃ ρ, a'.eval = ρ := ⟨_, rfl⟩
      have hcst : ∀ v, ρ (.const v) = v := fun v => (congrFun hρ (.const v)).symm
      have v10 : ρ (.tmp 14) = .pointer (some ⟨S, 0, none⟩) := (congrFun hρ (.tmp 14)).symm.trans ((HF.out.ev 10 rfl d10).trans (HVA.out 10 _ (by rw [HVV.out]; rfl) d10))
      rw [if_pos (by simp [Region.wanted])]
      unfold Oper.wp
      rw [hρ]
      clear hρ
      have HW := Lib.hid hw
      clear hw
      go_simp
      exact hK.out _ _ ⟨HVA.out.set (i := 11) (by rw [HVV.out]; rfl), by simp only [upd_ne (L := L) (show (20 : Nat) ≠ 11 by decide)]; exact HW.out⟩
    focus
      obtain ⟨d11, _⟩ := hd
      obtain ⟨ρ, hρ⟩ : ∃ ρ, a'.eval = ρ := ⟨_, rfl⟩
      have hcst : ∀ v, ρ (.const v) = v := fun v => (congrFun hρ (.const v)).symm
      have v11 : ρ (.tmp 15) = .pointer (some ⟨S, 0, none⟩) := (congrFun hρ (.tmp 15)).symm.trans ((HF.out.ev 11 rfl d11).trans (HVA.out 11 _ (by rw [HVV.out]; rfl) d11))
      rw [if_pos (by simp [Region.wanted])]
      unfold Oper.wp
      rw [hρ]
      clear hρ
      have HW := Lib.hid hw
      clear hw
      go_simp
      exact hK.out _ _ ⟨HVA.out.set (i := 12) (by rw [HVV.out]; rfl), by simp only [upd_ne (L := L) (show (20 : Nat) ≠ 12 by decide)]; exact HW.out⟩
    focus
      obtain ⟨d12, _⟩ := hd
      obtain ⟨ρ, hρ⟩ : ∃ ρ, a'.eval = ρ := ⟨_, rfl⟩
      have hcst : ∀ v, ρ (.const v) = v := fun v => (congrFun hρ (.const v)).symm
      have v12 : ρ (.tmp 16) = .pointer (some ⟨S, 2, none⟩) := (congrFun hρ (.tmp 16)).symm.trans ((HF.out.ev 12 rfl d12).trans (HVA.out 12 _ (by rw [HVV.out]; rfl) d12))
      rw [if_pos (by simp [Region.wanted])]
      unfold Oper.wp
      rw [hρ]
      clear hρ
      have HW := Lib.hid hw
      clear hw
      go_simp
      exact hK.out _ _ ⟨HVA.out.set (i := 13) (by rw [HVV.out]; rfl), by simp only [upd_ne (L := L) (show (20 : Nat) ≠ 13 by decide)]; exact HW.out⟩
    focus
      obtain ⟨d13, _⟩ := hd
      obtain ⟨ρ, hρ⟩ : ∃ ρ, a'.eval = ρ := ⟨_, rfl⟩
      have hcst : ∀ v, ρ (.const v) = v := fun v => (congrFun hρ (.const v)).symm
      have v13 : ρ (.tmp 17) = .pointer (some ⟨S, 4, none⟩) := (congrFun hρ (.tmp 17)).symm.trans ((HF.out.ev 13 rfl d13).trans (HVA.out 13 _ (by rw [HVV.out]; rfl) d13))
      rw [if_pos (by simp [Region.wanted])]
      unfold Oper.wp
      rw [hρ]
      clear hρ
      have HW := Lib.hid hw
      clear hw
      go_simp
      exact hK.out _ _ ⟨HVA.out.set (i := 14) (by rw [HVV.out]; rfl), by simp only [upd_ne (L := L) (show (20 : Nat) ≠ 14 by decide)]; exact HW.out⟩
    focus
      clear hd
      obtain ⟨ρ, hρ⟩ : ∃ ρ, a'.eval = ρ := ⟨_, rfl⟩
      have hcst : ∀ v, ρ (.const v) = v := fun v => (congrFun hρ (.const v)).symm
      have l0 : ρ (.tmp 0) = .pointer (some ⟨S, 0, none⟩) := (congrFun hρ (.tmp 0)).symm.trans (HF.out.lo 0 rfl)
      rw [if_pos (by simp [Region.wanted])]
      unfold Oper.wp
      rw [hρ]
      clear hρ
      have HW := Lib.hid hw
      clear hw
      go_simp
      exact hK.out _ _ ⟨HVA.out.set (i := 15) (by rw [HVV.out]; rfl), by simp only [upd_ne (L := L) (show (20 : Nat) ≠ 15 by decide)]; exact HW.out⟩
    focus
      obtain ⟨d15, _⟩ := hd
      obtain ⟨ρ, hρ⟩ : ∃ ρ, a'.eval = ρ := ⟨_, rfl⟩
      have hcst : ∀ v, ρ (.const v) = v := fun v => (congrFun hρ (.const v)).symm
      have v15 : ρ (.tmp 19) = .pointer (some ⟨S, 0, none⟩) := (congrFun hρ (.tmp 19)).symm.trans ((HF.out.ev 15 rfl d15).trans (HVA.out 15 _ (by rw [HVV.out]; rfl) d15))
      rw [if_pos (by simp [Region.wanted])]
      unfold Oper.wp
      rw [hρ]
      clear hρ
      have HW := Lib.hid hw
      clear hw
      go_simp
      exact hK.out _ _ ⟨HVA.out.set (i := 16) (by rw [HVV.out]; rfl), by simp only [upd_ne (L := L) (show (20 : Nat) ≠ 16 by decide)]; exact HW.out⟩
    focus
      obtain ⟨d16, _⟩ := hd
      obtain ⟨ρ, hρ⟩ : ∃ ρ, a'.eval = ρ := ⟨_, rfl⟩
      have hcst : ∀ v, ρ (.const v) = v := fun v => (congrFun hρ (.const v)).symm
      have v16 : ρ (.tmp 20) = .pointer (some ⟨S, 0, none⟩) := (congrFun hρ (.tmp 20)).symm.trans ((HF.out.ev 16 rfl d16).trans (HVA.out 16 _ (by rw [HVV.out]; rfl) d16))
      rw [if_pos (by simp [Region.wanted])]
      unfold Oper.wp
      rw [hρ]
      clear hρ
      have HW := Lib.hid hw
      clear hw
      go_simp
      exact hK.out _ _ ⟨HVA.out.set (i := 17) (by rw [HVV.out]; rfl), by simp only [upd_ne (L := L) (show (20 : Nat) ≠ 17 by decide)]; exact HW.out⟩
    focus
      obtain ⟨d17, _⟩ := hd
      obtain ⟨ρ, hρ⟩ : ∃ ρ, a'.eval = ρ := ⟨_, rfl⟩
      have hcst : ∀ v, ρ (.const v) = v := fun v => (congrFun hρ (.const v)).symm
      have v17 : ρ (.tmp 21) = .pointer (some ⟨S, 2, none⟩) := (congrFun hρ (.tmp 21)).symm.trans ((HF.out.ev 17 rfl d17).trans (HVA.out 17 _ (by rw [HVV.out]; rfl) d17))
      rw [if_pos (by simp [Region.wanted])]
      unfold Oper.wp
      rw [hρ]
      clear hρ
      have HW := Lib.hid hw
      clear hw
      go_simp
      exact hK.out _ _ ⟨HVA.out.set (i := 18) (by rw [HVV.out]; rfl), by simp only [upd_ne (L := L) (show (20 : Nat) ≠ 18 by decide)]; exact HW.out⟩
    focus
      obtain ⟨d18, _⟩ := hd
      obtain ⟨ρ, hρ⟩ : ∃ ρ, a'.eval = ρ := ⟨_, rfl⟩
      have hcst : ∀ v, ρ (.const v) = v := fun v => (congrFun hρ (.const v)).symm
      have v18 : ρ (.tmp 22) = .pointer (some ⟨S, 5, none⟩) := (congrFun hρ (.tmp 22)).symm.trans ((HF.out.ev 18 rfl d18).trans (HVA.out 18 _ (by rw [HVV.out]; rfl) d18))
      rw [if_pos (by simp [Region.wanted])]
      unfold Oper.wp
      rw [hρ]
      clear hρ
      have HW := Lib.hid hw
      clear hw
      go_simp
      exact hK.out _ _ ⟨HVA.out.set (i := 19) (by rw [HVV.out]; rfl), by simp only [upd_ne (L := L) (show (20 : Nat) ≠ 19 by decide)]; exact HW.out⟩
    focus
      obtain ⟨d4, d9, d14, d19, _⟩ := hd
      obtain ⟨ρ, hρ⟩ : ∃ ρ, a'.eval = ρ := ⟨_, rfl⟩
      have hcst : ∀ v, ρ (.const v) = v := fun v => (congrFun hρ (.const v)).symm
      have v4 : ρ (.tmp 8) = .agg #[strV wLetter, .pointer (some ⟨S, 2, none⟩)] := (congrFun hρ (.tmp 8)).symm.trans ((HF.out.ev 4 rfl d4).trans (HVA.out 4 _ (by rw [HVV.out]; rfl) d4))
      have v9 : ρ (.tmp 13) = .agg #[strV wFrom, .pointer (some ⟨S, 3, none⟩)] := (congrFun hρ (.tmp 13)).symm.trans ((HF.out.ev 9 rfl d9).trans (HVA.out 9 _ (by rw [HVV.out]; rfl) d9))
      have v14 : ρ (.tmp 18) = .agg #[strV wTo, .pointer (some ⟨S, 4, none⟩)] := (congrFun hρ (.tmp 18)).symm.trans ((HF.out.ev 14 rfl d14).trans (HVA.out 14 _ (by rw [HVV.out]; rfl) d14))
      have v19 : ρ (.tmp 23) = .agg #[strV wClass, .pointer (some ⟨S, 5, none⟩)] := (congrFun hρ (.tmp 23)).symm.trans ((HF.out.ev 19 rfl d19).trans (HVA.out 19 _ (by rw [HVV.out]; rfl) d19))
      rw [if_pos (by simp [Region.wanted])]
      unfold Oper.wp
      rw [hρ]
      clear hρ
      rcases hw with ⟨h20, hw⟩ | ⟨h20, _⟩
      rotate_left
      focus
        rw [HLI.out] at h20
        cases h20
      subst hw
      have hbL' := HEL.out
      go_simp
      first | rw [hbL'] | skip
      rw [HWL.out]
      exact hK.out _ _ ⟨HVA.out.set (i := 20) (by rw [HVV.out]; rfl), .inr ⟨upd_self _ _, rfl⟩⟩
    focus
      obtain ⟨d20, _⟩ := hd
      obtain ⟨ρ, hρ⟩ : ∃ ρ, a'.eval = ρ := ⟨_, rfl⟩
      have hcst : ∀ v, ρ (.const v) = v := fun v => (congrFun hρ (.const v)).symm
      have v20 : ρ (.tmp 24) = .slice (some ⟨bL, 0, none⟩) 4 4 := (congrFun hρ (.tmp 24)).symm.trans ((HF.out.ev 20 rfl d20).trans (HVA.out 20 _ (by rw [HVV.out]; rfl) d20))
      rw [if_pos (by simp [Region.wanted])]
      unfold Oper.wp
      rw [hρ]
      clear hρ
      have HW := Lib.hid hw
      clear hw
      go_simp
      exact hK.out _ _ ⟨HVA.out.set (i := 21) (by rw [HVV.out]; rfl), by simp only [upd_ne (L := L) (show (20 : Nat) ≠ 21 by decide)]; exact HW.out⟩
    focus
      clear hd
      obtain ⟨ρ, hρ⟩ : ∃ ρ, a'.eval = ρ := ⟨_, rfl⟩
      have hcst : ∀ v, ρ (.const v) = v := fun v => (congrFun hρ (.const v)).symm
      rw [if_pos (by simp [Region.wanted])]
      unfold Oper.wp
      rw [hρ]
      clear hρ
      have HW := Lib.hid hw
      clear hw
      go_simp
      exact hK.out _ _ ⟨HVA.out.set (i := 22) (by rw [HVV.out]; rfl), by simp only [upd_ne (L := L) (show (20 : Nat) ≠ 22 by decide)]; exact HW.out⟩
  focus
    intro L w' xs hL hJ
    obtain ⟨hv, hw⟩ := hJ
    have e0 : xs 0 = .pointer (some ⟨S, 0, none⟩) := hv 0 _ (by rw [HVV.out]; rfl) (hL 0 (by decide))
    have e1 : xs 1 = .pointer (some ⟨S, 0, none⟩) := hv 1 _ (by rw [HVV.out]; rfl) (hL 1 (by decide))
    have e2 : xs 2 = .pointer (some ⟨S, 2, none⟩) := hv 2 _ (by rw [HVV.out]; rfl) (hL 2 (by decide))
    have e3 : xs 3 = .pointer (some ⟨S, 2, none⟩) := hv 3 _ (by rw [HVV.out]; rfl) (hL 3 (by decide))
    have e4 : xs 4 = .agg #[strV wLetter, .pointer (some ⟨S, 2, none⟩)] := hv 4 _ (by rw [HVV.out]; rfl) (hL 4 (by decide))
    have e5 : xs 5 = .pointer (some ⟨S, 0, none⟩) := hv 5 _ (by rw [HVV.out]; rfl) (hL 5 (by decide))
    have e6 : xs 6 = .pointer (some ⟨S, 0, none⟩) := hv 6 _ (by rw [HVV.out]; rfl) (hL 6 (by decide))
    have e7 : xs 7 = .pointer (some ⟨S, 2, none⟩) := hv 7 _ (by rw [HVV.out]; rfl) (hL 7 (by decide))
    have e8 : xs 8 = .pointer (some ⟨S, 3, none⟩) := hv 8 _ (by rw [HVV.out]; rfl) (hL 8 (by decide))
    have e9 : xs 9 = .agg #[strV wFrom, .pointer (some ⟨S, 3, none⟩)] := hv 9 _ (by rw [HVV.out]; rfl) (hL 9 (by decide))
    have e10 : xs 10 = .pointer (some ⟨S, 0, none⟩) := hv 10 _ (by rw [HVV.out]; rfl) (hL 10 (by decide))
    have e11 : xs 11 = .pointer (some ⟨S, 0, none⟩) := hv 11 _ (by rw [HVV.out]; rfl) (hL 11 (by decide))
    have e12 : xs 12 = .pointer (some ⟨S, 2, none⟩) := hv 12 _ (by rw [HVV.out]; rfl) (hL 12 (by decide))
    have e13 : xs 13 = .pointer (some ⟨S, 4, none⟩) := hv 13 _ (by rw [HVV.out]; rfl) (hL 13 (by decide))
    have e14 : xs 14 = .agg #[strV wTo, .pointer (some ⟨S, 4, none⟩)] := hv 14 _ (by rw [HVV.out]; rfl) (hL 14 (by decide))
    have e15 : xs 15 = .pointer (some ⟨S, 0, none⟩) := hv 15 _ (by rw [HVV.out]; rfl) (hL 15 (by decide))
    have e16 : xs 16 = .pointer (some ⟨S, 0, none⟩) := hv 16 _ (by rw [HVV.out]; rfl) (hL 16 (by decide))
    have e17 : xs 17 = .pointer (some ⟨S, 2, none⟩) := hv 17 _ (by rw [HVV.out]; rfl) (hL 17 (by decide))
    have e18 : xs 18 = .pointer (some ⟨S, 5, none⟩) := hv 18 _ (by rw [HVV.out]; rfl) (hL 18 (by decide))
    have e19 : xs 19 = .agg #[strV wClass, .pointer (some ⟨S, 5, none⟩)] := hv 19 _ (by rw [HVV.out]; rfl) (hL 19 (by decide))
    have e20 : xs 20 = .slice (some ⟨bL, 0, none⟩) 4 4 := hv 20 _ (by rw [HVV.out]; rfl) (hL 20 (by decide))
    have e21 : xs 21 = .int .i64 4 := hv 21 _ (by rw [HVV.out]; rfl) (hL 21 (by decide))
    have e22 : xs 22 = .int .i64 0 := hv 22 _ (by rw [HVV.out]; rfl) (hL 22 (by decide))
    simp only [putGo, Act.put, List.setIfInBounds_toArray, List.set_cons_zero, List.set_cons_succ, e0, e1, e2, e3, e4, e5, e6, e7, e8, e9, e10, e11, e12, e13, e14, e15, e16, e17, e18, e19, e20, e21, e22]
    clear hv e0 e1 e2 e3 e4 e5 e6 e7 e8 e9 e10 e11 e12 e13 e14 e15 e16 e17 e18 e19 e20 e21 e22
    rcases hw with ⟨h20, _⟩ | ⟨_, hw⟩
    · rw [hL 20 (by decide)] at h20; cases h20
    rw [hw]
    clear hw hL
    go_wp2_with fail
    go_loopw [26] (fun kv wr => ∃ (k : Nat) (x' : WishD) (l' : List Tok), k ≤ 4 ∧ kv = .int .i64 k ∧ Par S B wr stop l' va x' ∧ whoF 4 0 x l = whoF (4 - k) k x' l' ∧ CellsN wr bL #[strV wLetter, .pointer (some ⟨S, 2, none⟩), strV wFrom, .pointer (some ⟨S, 3, none⟩), strV wTo, .pointer (some ⟨S, 4, none⟩), strV wClass, .pointer (some ⟨S, 5, none⟩)] ∧ w.grownBy wr (some S)) (fun kv _ => 4 - (intOf kv).toNat)
    case atStart => exact ⟨0, x, l, by omega, rfl, HSL.out, rfl, HCL.out, grown_ext HBL.out⟩
    case round =>
      obtain ⟨k, x', l', hk, rfl, hp, he, hc, hg⟩ := hrel
      have HP := Lib.hid hp
      have HE := Lib.hid he
      have HC := Lib.hid hc
      have HG := Lib.hid hg
      clear hp he hc hg
      by_cases hk4 : k < 4
      focus
        rcases (show k = 0 ∨ k = 1 ∨ k = 2 ∨ k = 3 by omega) with rfl | rfl | rfl | rfl
        focus
          have c0 := HC.out.cell 0
          have c1 := HC.out.cell 1
          simp at c0 c1
          go_upto_region 3 with fail
          obtain ⟨b3, hb3⟩ : ∃ b, wr.heap.size = b := ⟨_, rfl⟩
          obtain ⟨W1, hW1⟩ : ∃ W, wr.alloc (.cells #[strV wLetter, .pointer (some ⟨S, 2, none⟩)] 95) = W := ⟨_, rfl⟩
          have HB1 : Hid (Below wr.heap.size wr W1) := Lib.hid (by rw [← hW1]; exact box_below' wr _)
          have HC1 : Hid (CellsN W1 b3 #[strV wLetter, .pointer (some ⟨S, 2, none⟩)]) := Lib.hid (by rw [← hW1, ← hb3]; exact CellsN.new _ _ _)
          have HP1 := Lib.hid (HP.out.below HB1.out hB)
          have hb3S : b3 ≠ S := by have := HP.out.lt; omega
          have hbLS : bL ≠ S := by have := HEL.out; omega
          rw [hW1]
          try rw [hb3]
          have m0 := HC1.out.cell 0
          simp at m0
          clear hb3 hW1 c0 c1
          go_wp2_with fail
          clear m0
          refine (want_any S B W1 stop l' va x' wLetter HP1.out hB).mono ?_
          rintro e w2 ⟨hg2, h⟩
          have HG2 : Hid (w.grownBy w2 (some S)) := Lib.hid ((HG.out.trans' (grown_ext HB1.out)).trans' hg2)
          have HC2 := Lib.hid (HC1.out.grown hg2 (fun e => hb3S (Option.some.inj e)))
          have HL2 := Lib.hid ((HC.out.ext HB1.out).grown hg2 (fun e => hbLS (Option.some.inj e)))
          clear hg2
          cases hk : pTake wLetter l' with
          | none =>
            rw [hk] at h
            simp only at h
            subst h
            have HEE : Hid (whoF 4 0 x l = .error l') := Lib.hid (by rw [HE.out]; show whoF (3 + 1) 0 x' l' = _; rw [whoF_succ, show pWN (whoW 0) l' = _ from wn_none hk])
            clear hk
            go_wp2
            exact ⟨rfl, HG2.out, by unfold pWho; rw [HEE.out]⟩
          | some r =>
            rw [hk] at h
            simp only at h
            obtain ⟨rfl, hp2⟩ := h
            have HP2 := Lib.hid hp2
            have HEE : Hid (whoF 4 0 x l = match pName r with
              | .error e => .error e
              | .ok (s, r) => whoF 3 (0 + 1) (setW 0 x' s) r) := Lib.hid (by rw [HE.out]; show whoF (3 + 1) 0 x' l' = _; rw [whoF_succ, show pWN (whoW 0) l' = _ from wn_some hk]; try rfl)
            clear hk hp2
            have m1 := HC2.out.cell 1
            simp at m1
            go_upto_region 4 with fail
            cases hn : pName r with
            | error r' =>
              have HNE := Lib.hid hn
              rw [hn] at HEE
              simp only at HEE
              clear hn
              obtain ⟨V, hV⟩ : ∃ V : List (Option Value), V = [some (.pointer (some ⟨b3, 1, none⟩)), some (.pointer (some ⟨S, 2, none⟩)), some (.pointer (some ⟨S, 0, none⟩)), none, some (.pointer (some ⟨S, 2, none⟩)), none] := ⟨_, rfl⟩
              have HVV := Lib.hid hV
              clear hV
              refine wp_region_V [some 34, some 35, some 36, some 37, some 38, none] (fun L w' xs => ValsAt V L xs ∧ (L 3 = false ∧ w' = w2.drew)) (by kernel_rfl) (by kernel_rfl) (by rfl) (by rfl) (by rfl) ?_ ?_ ?_
              focus
                exact fun xs => ⟨ValsAt.none _ _, rfl, rfl⟩
              focus
                refine ⟨?_, ?_, ?_, ?_, ?_, ?_, trivial⟩
                all_goals
                  intro L a' w' xs hi hd hf hJ K hK
                  obtain ⟨hv, hl, hw⟩ := hJ
                  have HF := Lib.hid hf
                  have HVA := Lib.hid hv
                  have HLI := Lib.hid hi
                  clear hf hv hi
                focus
                  clear hd
                  obtain ⟨ρ, hρ⟩ : ∃ ρ, a'.eval = ρ := ⟨_, rfl⟩
                  have hcst : ∀ v, ρ (.const v) = v := fun v => (congrFun hρ (.const v)).symm
                  have l3 : ρ (.tmp 3) = .pointer (some ⟨b3, 0, none⟩) := (congrFun hρ (.tmp 3)).symm.trans (HF.out.lo 3 rfl)
                  rw [if_pos (by simp [Region.wanted])]
                  unfold Oper.wp
                  rw [hρ]
                  clear hρ
                  subst hw
                  go_simp
                  exact hK.out _ _ ⟨HVA.out.set (i := 0) (by rw [HVV.out]; rfl), (upd_ne (L := L) (show (3 : Nat) ≠ 0 by decide)).trans hl, rfl⟩
                focus
                  obtain ⟨d0, _⟩ := hd
                  obtain ⟨ρ, hρ⟩ : ∃ ρ, a'.eval = ρ := ⟨_, rfl⟩
                  have hcst : ∀ v, ρ (.const v) = v := fun v => (congrFun hρ (.const v)).symm
                  have v0 : ρ (.tmp 34) = .pointer (some ⟨b3, 1, none⟩) := (congrFun hρ (.tmp 34)).symm.trans ((HF.out.ev 0 rfl d0).trans (HVA.out 0 _ (by rw [HVV.out]; rfl) d0))
                  rw [if_pos (by simp [Region.wanted])]
                  unfold Oper.wp
                  rw [hρ]
                  clear hρ
                  subst hw
                  have m1 := (HC2.out.drewL).cell 1
                  simp at m1
                  go_simp
                  exact hK.out _ _ ⟨HVA.out.set (i := 1) (by rw [HVV.out]; rfl), (upd_ne (L := L) (show (3 : Nat) ≠ 1 by decide)).trans hl, rfl⟩
                focus
                  clear hd
                  obtain ⟨ρ, hρ⟩ : ∃ ρ, a'.eval = ρ := ⟨_, rfl⟩
                  have hcst : ∀ v, ρ (.const v) = v := fun v => (congrFun hρ (.const v)).symm
                  have l0 : ρ (.tmp 0) = .pointer (some ⟨S, 0, none⟩) := (congrFun hρ (.tmp 0)).symm.trans (HF.out.lo 0 rfl)
                  rw [if_pos (by simp [Region.wanted])]
                  unfold Oper.wp
                  rw [hρ]
                  clear hρ
                  subst hw
                  go_simp
                  exact hK.out _ _ ⟨HVA.out.set (i := 2) (by rw [HVV.out]; rfl), (upd_ne (L := L) (show (3 : Nat) ≠ 2 by decide)).trans hl, rfl⟩
                focus
                  obtain ⟨d2, _⟩ := hd
                  obtain ⟨ρ, hρ⟩ : ∃ ρ, a'.eval = ρ := ⟨_, rfl⟩
                  have hcst : ∀ v, ρ (.const v) = v := fun v => (congrFun hρ (.const v)).symm
                  have hfun : ∀ k, ρ (.func k) = .func (.func k) #[] #[] := fun k => (congrFun hρ (.func k)).symm
                  have v2 : ρ (.tmp 36) = .pointer (some ⟨S, 0, none⟩) := (congrFun hρ (.tmp 36)).symm.trans ((HF.out.ev 2 rfl d2).trans (HVA.out 2 _ (by rw [HVV.out]; rfl) d2))
                  rw [if_pos (by simp [Region.wanted])]
                  unfold Oper.wp
                  rw [hρ]
                  clear hρ
                  subst hw
                  go_simp
                  go_at_call 57
                  refine (name_any' S B w2.drew stop r va x' (HP2.out.drew hB) hB).mono ?_
                  rintro e w5 ⟨hg5, h5⟩
                  rw [HNE.out] at h5
                  simp only at h5
                  subst h5
                  have HG5 := Lib.hid (HG2.out.trans' ((grown_ext (Below.refl _ w2).drew).trans' hg5))
                  clear hg5
                  go_simp
                  exact ⟨HF.out.defers, HG5.out, by unfold pWho; rw [HEE.out]⟩
                focus
                  obtain ⟨d1, d0, _, d2, d3, _⟩ := hd
                  obtain ⟨ρ, hρ⟩ : ∃ ρ, a'.eval = ρ := ⟨_, rfl⟩
                  have hcst : ∀ v, ρ (.const v) = v := fun v => (congrFun hρ (.const v)).symm
                  have v1 : ρ (.tmp 35) = .pointer (some ⟨S, 2, none⟩) := (congrFun hρ (.tmp 35)).symm.trans ((HF.out.ev 1 rfl d1).trans (HVA.out 1 _ (by rw [HVV.out]; rfl) d1))
                  rw [if_pos (by simp [Region.wanted])]
                  unfold Oper.wp
                  rw [hρ]
                  clear hρ
                  rw [hl] at d3
                  cases d3
                focus
                  obtain ⟨d4, d3, _, d0, d1, d2, _, _⟩ := hd
                  obtain ⟨ρ, hρ⟩ : ∃ ρ, a'.eval = ρ := ⟨_, rfl⟩
                  have hcst : ∀ v, ρ (.const v) = v := fun v => (congrFun hρ (.const v)).symm
                  have v4 : ρ (.tmp 38) = .pointer (some ⟨S, 2, none⟩) := (congrFun hρ (.tmp 38)).symm.trans ((HF.out.ev 4 rfl d4).trans (HVA.out 4 _ (by rw [HVV.out]; rfl) d4))
                  have v3 : ρ (.tmp 37) = xs 3 := (congrFun hρ (.tmp 37)).symm.trans (HF.out.ev 3 rfl d3)
                  rw [if_pos (by simp [Region.wanted])]
                  unfold Oper.wp
                  rw [hρ]
                  clear hρ
                  rw [hl] at d3
                  cases d3
              focus
                intro L w' xs hL hJ
                obtain ⟨hv, hl, hw⟩ := hJ
                have e0 : xs 0 = .pointer (some ⟨b3, 1, none⟩) := hv 0 _ (by rw [HVV.out]; rfl) (hL 0 (by decide))
                have e1 : xs 1 = .pointer (some ⟨S, 2, none⟩) := hv 1 _ (by rw [HVV.out]; rfl) (hL 1 (by decide))
                have e2 : xs 2 = .pointer (some ⟨S, 0, none⟩) := hv 2 _ (by rw [HVV.out]; rfl) (hL 2 (by decide))
                have e4 : xs 4 = .pointer (some ⟨S, 2, none⟩) := hv 4 _ (by rw [HVV.out]; rfl) (hL 4 (by decide))
                simp only [putGo, Act.put, List.setIfInBounds_toArray, List.set_cons_zero, List.set_cons_succ, e0, e1, e2, e4]
                clear hv e0 e1 e2 e4
                rw [hL 3 (by decide)] at hl
                cases hl
            | ok v =>
              obtain ⟨s, r'⟩ := v
              have HNE := Lib.hid hn
              rw [hn] at HEE
              simp only at HEE
              clear hn
              obtain ⟨V, hV⟩ : ∃ V : List (Option Value), V = [some (.pointer (some ⟨b3, 1, none⟩)), some (.pointer (some ⟨S, 2, none⟩)), some (.pointer (some ⟨S, 0, none⟩)), some (strV s), some (.pointer (some ⟨S, 2, none⟩)), none] := ⟨_, rfl⟩
              have HVV := Lib.hid hV
              clear hV
              refine wp_region_V [some 34, some 35, some 36, some 37, some 38, none] (fun L w' xs => ValsAt V L xs ∧ ((L 3 = false ∧ L 5 = false ∧ w' = w2.drew) ∨ (L 3 = true ∧ L 5 = false ∧ w2.drew.grownBy w' (some S) ∧ Par S B w' stop r' va x') ∨ (L 5 = true ∧ L 1 = true ∧ L 3 = true ∧ ∃ w5, (w2.drew.grownBy w5 (some S) ∧ Par S B w5 stop r' va x') ∧ w' = w5.setCell ⟨S, 2, none⟩ (strV s)))) (by kernel_rfl) (by kernel_rfl) (by rfl) (by rfl) (by rfl) ?_ ?_ ?_
              focus
                exact fun xs => ⟨ValsAt.none _ _, Or.inl ⟨rfl, rfl, rfl⟩⟩
              focus
                refine ⟨?_, ?_, ?_, ?_, ?_, ?_, trivial⟩
                all_goals
                  intro L a' w' xs hi hd hf hJ K hK
                  obtain ⟨hv, hw⟩ := hJ
                  have HF := Lib.hid hf
                  have HVA := Lib.hid hv
                  have HLI := Lib.hid hi
                  clear hf hv hi
                focus
                  clear hd
                  obtain ⟨ρ, hρ⟩ : ∃ ρ, a'.eval = ρ := ⟨_, rfl⟩
                  have hcst : ∀ v, ρ (.const v) = v := fun v => (congrFun hρ (.const v)).symm
                  have l3 : ρ (.tmp 3) = .pointer (some ⟨b3, 0, none⟩) := (congrFun hρ (.tmp 3)).symm.trans (HF.out.lo 3 rfl)
                  rw [if_pos (by simp [Region.wanted])]
                  unfold Oper.wp
                  rw [hρ]
                  clear hρ
                  have HW := Lib.hid hw
                  clear hw
                  go_simp
                  exact hK.out _ _ ⟨HVA.out.set (i := 0) (by rw [HVV.out]; rfl), by simp only [upd_ne (L := L) (show (1 : Nat) ≠ 0 by decide), upd_ne (L := L) (show (3 : Nat) ≠ 0 by decide), upd_ne (L := L) (show (5 : Nat) ≠ 0 by decide)]; exact HW.out⟩
                focus
                  obtain ⟨d0, _⟩ := hd
                  obtain ⟨ρ, hρ⟩ : ∃ ρ, a'.eval = ρ := ⟨_, rfl⟩
                  have hcst : ∀ v, ρ (.const v) = v := fun v => (congrFun hρ (.const v)).symm
                  have v0 : ρ (.tmp 34) = .pointer (some ⟨b3, 1, none⟩) := (congrFun hρ (.tmp 34)).symm.trans ((HF.out.ev 0 rfl d0).trans (HVA.out 0 _ (by rw [HVV.out]; rfl) d0))
                  rw [if_pos (by simp [Region.wanted])]
                  unfold Oper.wp
                  rw [hρ]
                  clear hρ
                  rcases hw with ⟨hc, hs, hw⟩ | ⟨hc, hs, hg, hp⟩ | ⟨hs, g1, g3, w5, ⟨hg, hp⟩, hw⟩
                  focus
                    subst hw
                    have m1 := (HC2.out.drewL).cell 1
                    simp at m1
                    go_simp
                    exact hK.out _ _ ⟨HVA.out.set (i := 1) (by rw [HVV.out]; rfl), .inl ⟨((upd_ne (L := L) (show (3 : Nat) ≠ 1 by decide)).trans hc), ((upd_ne (L := L) (show (5 : Nat) ≠ 1 by decide)).trans hs), rfl⟩⟩
                  focus
                    have m1 := ((HC2.out.drewL).grown hg (fun e => hb3S (Option.some.inj e))).cell 1
                    simp at m1
                    have HGG := Lib.hid hg
                    have HPP := Lib.hid hp
                    clear hg hp
                    go_simp
                    exact hK.out _ _ ⟨HVA.out.set (i := 1) (by rw [HVV.out]; rfl), .inr (.inl ⟨((upd_ne (L := L) (show (3 : Nat) ≠ 1 by decide)).trans hc), ((upd_ne (L := L) (show (5 : Nat) ≠ 1 by decide)).trans hs), HGG.out, HPP.out⟩)⟩
                  focus
                    rw [HLI.out] at g1
                    cases g1
                focus
                  clear hd
                  obtain ⟨ρ, hρ⟩ : ∃ ρ, a'.eval = ρ := ⟨_, rfl⟩
                  have hcst : ∀ v, ρ (.const v) = v := fun v => (congrFun hρ (.const v)).symm
                  have l0 : ρ (.tmp 0) = .pointer (some ⟨S, 0, none⟩) := (congrFun hρ (.tmp 0)).symm.trans (HF.out.lo 0 rfl)
                  rw [if_pos (by simp [Region.wanted])]
                  unfold Oper.wp
                  rw [hρ]
                  clear hρ
                  have HW := Lib.hid hw
                  clear hw
                  go_simp
                  exact hK.out _ _ ⟨HVA.out.set (i := 2) (by rw [HVV.out]; rfl), by simp only [upd_ne (L := L) (show (1 : Nat) ≠ 2 by decide), upd_ne (L := L) (show (3 : Nat) ≠ 2 by decide), upd_ne (L := L) (show (5 : Nat) ≠ 2 by decide)]; exact HW.out⟩
                focus
                  obtain ⟨d2, _⟩ := hd
                  obtain ⟨ρ, hρ⟩ : ∃ ρ, a'.eval = ρ := ⟨_, rfl⟩
                  have hcst : ∀ v, ρ (.const v) = v := fun v => (congrFun hρ (.const v)).symm
                  have hfun : ∀ k, ρ (.func k) = .func (.func k) #[] #[] := fun k => (congrFun hρ (.func k)).symm
                  have v2 : ρ (.tmp 36) = .pointer (some ⟨S, 0, none⟩) := (congrFun hρ (.tmp 36)).symm.trans ((HF.out.ev 2 rfl d2).trans (HVA.out 2 _ (by rw [HVV.out]; rfl) d2))
                  rw [if_pos (by simp [Region.wanted])]
                  unfold Oper.wp
                  rw [hρ]
                  clear hρ
                  rcases hw with ⟨hc, hs, hw⟩ | ⟨hc, hs, hg, hp⟩ | ⟨hs, g1, g3, w5, ⟨hg, hp⟩, hw⟩
                  rotate_left
                  focus
                    rw [HLI.out] at hc
                    cases hc
                  focus
                    rw [HLI.out] at g3
                    cases g3
                  subst hw
                  go_simp
                  go_at_call 57
                  refine (name_any' S B w2.drew stop r va x' (HP2.out.drew hB) hB).mono ?_
                  rintro e w5 ⟨hg5, h5⟩
                  rw [HNE.out] at h5
                  simp only at h5
                  obtain ⟨rfl, hp5⟩ := h5
                  exact hK.out _ _ ⟨HVA.out.set (i := 3) (by rw [HVV.out]; rfl), .inr (.inl ⟨upd_self _ _, ((upd_ne (L := L) (show (5 : Nat) ≠ 3 by decide)).trans hs), hg5, hp5⟩)⟩
                focus
                  obtain ⟨d1, d0, _, d2, d3, _⟩ := hd
                  obtain ⟨ρ, hρ⟩ : ∃ ρ, a'.eval = ρ := ⟨_, rfl⟩
                  have hcst : ∀ v, ρ (.const v) = v := fun v => (congrFun hρ (.const v)).symm
                  have v1 : ρ (.tmp 35) = .pointer (some ⟨S, 2, none⟩) := (congrFun hρ (.tmp 35)).symm.trans ((HF.out.ev 1 rfl d1).trans (HVA.out 1 _ (by rw [HVV.out]; rfl) d1))
                  rw [if_pos (by simp [Region.wanted])]
                  unfold Oper.wp
                  rw [hρ]
                  clear hρ
                  have HW := Lib.hid hw
                  clear hw
                  go_simp
                  exact hK.out _ _ ⟨HVA.out.set (i := 4) (by rw [HVV.out]; rfl), by simp only [upd_ne (L := L) (show (1 : Nat) ≠ 4 by decide), upd_ne (L := L) (show (3 : Nat) ≠ 4 by decide), upd_ne (L := L) (show (5 : Nat) ≠ 4 by decide)]; exact HW.out⟩
                focus
                  obtain ⟨d4, d3, _, d0, d1, d2, _, _⟩ := hd
                  obtain ⟨ρ, hρ⟩ : ∃ ρ, a'.eval = ρ := ⟨_, rfl⟩
                  have hcst : ∀ v, ρ (.const v) = v := fun v => (congrFun hρ (.const v)).symm
                  have v4 : ρ (.tmp 38) = .pointer (some ⟨S, 2, none⟩) := (congrFun hρ (.tmp 38)).symm.trans ((HF.out.ev 4 rfl d4).trans (HVA.out 4 _ (by rw [HVV.out]; rfl) d4))
                  have v3 : ρ (.tmp 37) = strV s := (congrFun hρ (.tmp 37)).symm.trans ((HF.out.ev 3 rfl d3).trans (HVA.out 3 _ (by rw [HVV.out]; rfl) d3))
                  rw [if_pos (by simp [Region.wanted])]
                  unfold Oper.wp
                  rw [hρ]
                  clear hρ
                  rcases hw with ⟨hc, hs, hw⟩ | ⟨hc, hs, hg, hp⟩ | ⟨hs, g1, g3, w5, ⟨hg, hp⟩, hw⟩
                  focus
                    rw [hc] at d3
                    cases d3
                  rotate_left
                  focus
                    rw [HLI.out] at hs
                    cases hs
                  have HGG := Lib.hid hg
                  have HPP := Lib.hid hp
                  obtain ⟨hcs, hfs⟩ := hp.cells 2 (by decide)
                  obtain ⟨vc, hvc⟩ := Option.isSome_iff_exists.1 hcs
                  clear hg hp hcs
                  go_simp
                  exact hK.out _ _ ⟨HVA.out.free (i := 5) (by rw [HVV.out]; rfl) undef, .inr (.inr ⟨upd_self _ _, ((upd_ne (L := L) (show (1 : Nat) ≠ 5 by decide)).trans d1), ((upd_ne (L := L) (show (3 : Nat) ≠ 5 by decide)).trans d3), w', ⟨HGG.out, HPP.out⟩, rfl⟩)⟩
              focus
                intro L w' xs hL hJ
                obtain ⟨hv, hw⟩ := hJ
                have e0 : xs 0 = .pointer (some ⟨b3, 1, none⟩) := hv 0 _ (by rw [HVV.out]; rfl) (hL 0 (by decide))
                have e1 : xs 1 = .pointer (some ⟨S, 2, none⟩) := hv 1 _ (by rw [HVV.out]; rfl) (hL 1 (by decide))
                have e2 : xs 2 = .pointer (some ⟨S, 0, none⟩) := hv 2 _ (by rw [HVV.out]; rfl) (hL 2 (by decide))
                have e3 : xs 3 = strV s := hv 3 _ (by rw [HVV.out]; rfl) (hL 3 (by decide))
                have e4 : xs 4 = .pointer (some ⟨S, 2, none⟩) := hv 4 _ (by rw [HVV.out]; rfl) (hL 4 (by decide))
                simp only [putGo, Act.put, List.setIfInBounds_toArray, List.set_cons_zero, List.set_cons_succ, e0, e1, e2, e3, e4]
                clear hv e0 e1 e2 e3 e4
                rcases hw with ⟨hc, _⟩ | ⟨_, hs, _⟩ | ⟨_, _, _, w5, ⟨hg, hp⟩, hw⟩
                · rw [hL 3 (by decide)] at hc; cases hc
                · rw [hL 5 (by decide)] at hs; cases hs
                rw [hw]
                have HP6 := Lib.hid (hp.setS hB (show 0 < 4 by decide) s)
                have HG6 := Lib.hid (((HG2.out.trans' (grown_ext (Below.refl _ w2).drew)).trans' hg).trans' (grown_setCell w5 ⟨S, 2, none⟩ (strV s)))
                have HL6 := Lib.hid (((HL2.out.drewL).grown hg (fun e => hbLS (Option.some.inj e))).grown (grown_setCell w5 ⟨S, 2, none⟩ (strV s)) (fun e => hbLS (Option.some.inj e)))
                clear hw hg hp hL
                go_wp2_with fail
                go_roundw
                case rel => exact ⟨1, _, _, by omega, by go_num, HP6.out, HEE.out, HL6.out, HG6.out⟩
                case measure => simp [intOf]
        focus
          have c2 := HC.out.cell 2
          have c3 := HC.out.cell 3
          simp at c2 c3
          go_upto_region 3 with fail
          obtain ⟨b3, hb3⟩ : ∃ b, wr.heap.size = b := ⟨_, rfl⟩
          obtain ⟨W1, hW1⟩ : ∃ W, wr.alloc (.cells #[strV wFrom, .pointer (some ⟨S, 3, none⟩)] 95) = W := ⟨_, rfl⟩
          have HB1 : Hid (Below wr.heap.size wr W1) := Lib.hid (by rw [← hW1]; exact box_below' wr _)
          have HC1 : Hid (CellsN W1 b3 #[strV wFrom, .pointer (some ⟨S, 3, none⟩)]) := Lib.hid (by rw [← hW1, ← hb3]; exact CellsN.new _ _ _)
          have HP1 := Lib.hid (HP.out.below HB1.out hB)
          have hb3S : b3 ≠ S := by have := HP.out.lt; omega
          have hbLS : bL ≠ S := by have := HEL.out; omega
          rw [hW1]
          try rw [hb3]
          have m0 := HC1.out.cell 0
          simp at m0
          clear hb3 hW1 c2 c3
          go_wp2_with fail
          clear m0
          refine (want_any S B W1 stop l' va x' wFrom HP1.out hB).mono ?_
          rintro e w2 ⟨hg2, h⟩
          have HG2 : Hid (w.grownBy w2 (some S)) := Lib.hid ((HG.out.trans' (grown_ext HB1.out)).trans' hg2)
          have HC2 := Lib.hid (HC1.out.grown hg2 (fun e => hb3S (Option.some.inj e)))
          have HL2 := Lib.hid ((HC.out.ext HB1.out).grown hg2 (fun e => hbLS (Option.some.inj e)))
          clear hg2
          cases hk : pTake wFrom l' with
          | none =>
            rw [hk] at h
            simp only at h
            subst h
            have HEE : Hid (whoF 4 0 x l = .error l') := Lib.hid (by rw [HE.out]; show whoF (2 + 1) 1 x' l' = _; rw [whoF_succ, show pWN (whoW 1) l' = _ from wn_none hk])
            clear hk
            go_wp2
            exact ⟨rfl, HG2.out, by unfold pWho; rw [HEE.out]⟩
          | some r =>
            rw [hk] at h
            simp only at h
            obtain ⟨rfl, hp2⟩ := h
            have HP2 := Lib.hid hp2
            have HEE : Hid (whoF 4 0 x l = match pName r with
              | .error e => .error e
              | .ok (s, r) => whoF 2 (1 + 1) (setW 1 x' s) r) := Lib.hid (by rw [HE.out]; show whoF (2 + 1) 1 x' l' = _; rw [whoF_succ, show pWN (whoW 1) l' = _ from wn_some hk]; try rfl)
            clear hk hp2
            have m1 := HC2.out.cell 1
            simp at m1
            go_upto_region 4 with fail
            cases hn : pName r with
            | error r' =>
              have HNE := Lib.hid hn
              rw [hn] at HEE
              simp only at HEE
              clear hn
              obtain ⟨V, hV⟩ : ∃ V : List (Option Value), V = [some (.pointer (some ⟨b3, 1, none⟩)), some (.pointer (some ⟨S, 3, none⟩)), some (.pointer (some ⟨S, 0, none⟩)), none, some (.pointer (some ⟨S, 3, none⟩)), none] := ⟨_, rfl⟩
              have HVV := Lib.hid hV
              clear hV
              refine wp_region_V [some 34, some 35, some 36, some 37, some 38, none] (fun L w' xs => ValsAt V L xs ∧ (L 3 = false ∧ w' = w2.drew)) (by kernel_rfl) (by kernel_rfl) (by rfl) (by rfl) (by rfl) ?_ ?_ ?_
              focus
                exact fun xs => ⟨ValsAt.none _ _, rfl, rfl⟩
              focus
                refine ⟨?_, ?_, ?_, ?_, ?_, ?_, trivial⟩
                all_goals
                  intro L a' w' xs hi hd hf hJ K hK
                  obtain ⟨hv, hl, hw⟩ := hJ
                  have HF := Lib.hid hf
                  have HVA := Lib.hid hv
                  have HLI := Lib.hid hi
                  clear hf hv hi
                focus
                  clear hd
                  obtain ⟨ρ, hρ⟩ : ∃ ρ, a'.eval = ρ := ⟨_, rfl⟩
                  have hcst : ∀ v, ρ (.const v) = v := fun v => (congrFun hρ (.const v)).symm
                  have l3 : ρ (.tmp 3) = .pointer (some ⟨b3, 0, none⟩) := (congrFun hρ (.tmp 3)).symm.trans (HF.out.lo 3 rfl)
                  rw [if_pos (by simp [Region.wanted])]
                  unfold Oper.wp
                  rw [hρ]
                  clear hρ
                  subst hw
                  go_simp
                  exact hK.out _ _ ⟨HVA.out.set (i := 0) (by rw [HVV.out]; rfl), (upd_ne (L := L) (show (3 : Nat) ≠ 0 by decide)).trans hl, rfl⟩
                focus
                  obtain ⟨d0, _⟩ := hd
                  obtain ⟨ρ, hρ⟩ : ∃ ρ, a'.eval = ρ := ⟨_, rfl⟩
                  have hcst : ∀ v, ρ (.const v) = v := fun v => (congrFun hρ (.const v)).symm
                  have v0 : ρ (.tmp 34) = .pointer (some ⟨b3, 1, none⟩) := (congrFun hρ (.tmp 34)).symm.trans ((HF.out.ev 0 rfl d0).trans (HVA.out 0 _ (by rw [HVV.out]; rfl) d0))
                  rw [if_pos (by simp [Region.wanted])]
                  unfold Oper.wp
                  rw [hρ]
                  clear hρ
                  subst hw
                  have m1 := (HC2.out.drewL).cell 1
                  simp at m1
                  go_simp
                  exact hK.out _ _ ⟨HVA.out.set (i := 1) (by rw [HVV.out]; rfl), (upd_ne (L := L) (show (3 : Nat) ≠ 1 by decide)).trans hl, rfl⟩
                focus
                  clear hd
                  obtain ⟨ρ, hρ⟩ : ∃ ρ, a'.eval = ρ := ⟨_, rfl⟩
                  have hcst : ∀ v, ρ (.const v) = v := fun v => (congrFun hρ (.const v)).symm
                  have l0 : ρ (.tmp 0) = .pointer (some ⟨S, 0, none⟩) := (congrFun hρ (.tmp 0)).symm.trans (HF.out.lo 0 rfl)
                  rw [if_pos (by simp [Region.wanted])]
                  unfold Oper.wp
                  rw [hρ]
                  clear hρ
                  subst hw
                  go_simp
                  exact hK.out _ _ ⟨HVA.out.set (i := 2) (by rw [HVV.out]; rfl), (upd_ne (L := L) (show (3 : Nat) ≠ 2 by decide)).trans hl, rfl⟩
                focus
                  obtain ⟨d2, _⟩ := hd
                  obtain ⟨ρ, hρ⟩ : ∃ ρ, a'.eval = ρ := ⟨_, rfl⟩
                  have hcst : ∀ v, ρ (.const v) = v := fun v => (congrFun hρ (.const v)).symm
                  have hfun : ∀ k, ρ (.func k) = .func (.func k) #[] #[] := fun k => (congrFun hρ (.func k)).symm
                  have v2 : ρ (.tmp 36) = .pointer (some ⟨S, 0, none⟩) := (congrFun hρ (.tmp 36)).symm.trans ((HF.out.ev 2 rfl d2).trans (HVA.out 2 _ (by rw [HVV.out]; rfl) d2))
                  rw [if_pos (by simp [Region.wanted])]
                  unfold Oper.wp
                  rw [hρ]
                  clear hρ
                  subst hw
                  go_simp
                  go_at_call 57
                  refine (name_any' S B w2.drew stop r va x' (HP2.out.drew hB) hB).mono ?_
                  rintro e w5 ⟨hg5, h5⟩
                  rw [HNE.out] at h5
                  simp only at h5
                  subst h5
                  have HG5 := Lib.hid (HG2.out.trans' ((grown_ext (Below.refl _ w2).drew).trans' hg5))
                  clear hg5
                  go_simp
                  exact ⟨HF.out.defers, HG5.out, by unfold pWho; rw [HEE.out]⟩
                focus
                  obtain ⟨d1, d0, _, d2, d3, _⟩ := hd
                  obtain ⟨ρ, hρ⟩ : ∃ ρ, a'.eval = ρ := ⟨_, rfl⟩
                  have hcst : ∀ v, ρ (.const v) = v := fun v => (congrFun hρ (.const v)).symm
                  have v1 : ρ (.tmp 35) = .pointer (some ⟨S, 3, none⟩) := (congrFun hρ (.tmp 35)).symm.trans ((HF.out.ev 1 rfl d1).trans (HVA.out 1 _ (by rw [HVV.out]; rfl) d1))
                  rw [if_pos (by simp [Region.wanted])]
                  unfold Oper.wp
                  rw [hρ]
                  clear hρ
                  rw [hl] at d3
                  cases d3
                focus
                  obtain ⟨d4, d3, _, d0, d1, d2, _, _⟩ := hd
                  obtain ⟨ρ, hρ⟩ : ∃ ρ, a'.eval = ρ := ⟨_, rfl⟩
                  have hcst : ∀ v, ρ (.const v) = v := fun v => (congrFun hρ (.const v)).symm
                  have v4 : ρ (.tmp 38) = .pointer (some ⟨S, 3, none⟩) := (congrFun hρ (.tmp 38)).symm.trans ((HF.out.ev 4 rfl d4).trans (HVA.out 4 _ (by rw [HVV.out]; rfl) d4))
                  have v3 : ρ (.tmp 37) = xs 3 := (congrFun hρ (.tmp 37)).symm.trans (HF.out.ev 3 rfl d3)
                  rw [if_pos (by simp [Region.wanted])]
                  unfold Oper.wp
                  rw [hρ]
                  clear hρ
                  rw [hl] at d3
                  cases d3
              focus
                intro L w' xs hL hJ
                obtain ⟨hv, hl, hw⟩ := hJ
                have e0 : xs 0 = .pointer (some ⟨b3, 1, none⟩) := hv 0 _ (by rw [HVV.out]; rfl) (hL 0 (by decide))
                have e1 : xs 1 = .pointer (some ⟨S, 3, none⟩) := hv 1 _ (by rw [HVV.out]; rfl) (hL 1 (by decide))
                have e2 : xs 2 = .pointer (some ⟨S, 0, none⟩) := hv 2 _ (by rw [HVV.out]; rfl) (hL 2 (by decide))
                have e4 : xs 4 = .pointer (some ⟨S, 3, none⟩) := hv 4 _ (by rw [HVV.out]; rfl) (hL 4 (by decide))
                simp only [putGo, Act.put, List.setIfInBounds_toArray, List.set_cons_zero, List.set_cons_succ, e0, e1, e2, e4]
                clear hv e0 e1 e2 e4
                rw [hL 3 (by decide)] at hl
                cases hl
            | ok v =>
              obtain ⟨s, r'⟩ := v
              have HNE := Lib.hid hn
              rw [hn] at HEE
              simp only at HEE
              clear hn
              obtain ⟨V, hV⟩ : ∃ V : List (Option Value), V = [some (.pointer (some ⟨b3, 1, none⟩)), some (.pointer (some ⟨S, 3, none⟩)), some (.pointer (some ⟨S, 0, none⟩)), some (strV s), some (.pointer (some ⟨S, 3, none⟩)), none] := ⟨_, rfl⟩
              have HVV := Lib.hid hV
              clear hV
              refine wp_region_V [some 34, some 35, some 36, some 37, some 38, none] (fun L w' xs => ValsAt V L xs ∧ ((L 3 = false ∧ L 5 = false ∧ w' = w2.drew) ∨ (L 3 = true ∧ L 5 = false ∧ w2.drew.grownBy w' (some S) ∧ Par S B w' stop r' va x') ∨ (L 5 = true ∧ L 1 = true ∧ L 3 = true ∧ ∃ w5, (w2.drew.grownBy w5 (some S) ∧ Par S B w5 stop r' va x') ∧ w' = w5.setCell ⟨S, 3, none⟩ (strV s)))) (by kernel_rfl) (by kernel_rfl) (by rfl) (by rfl) (by rfl) ?_ ?_ ?_
              focus
                exact fun xs => ⟨ValsAt.none _ _, Or.inl ⟨rfl, rfl, rfl⟩⟩
              focus
                refine ⟨?_, ?_, ?_, ?_, ?_, ?_, trivial⟩
                all_goals
                  intro L a' w' xs hi hd hf hJ K hK
                  obtain ⟨hv, hw⟩ := hJ
                  have HF := Lib.hid hf
                  have HVA := Lib.hid hv
                  have HLI := Lib.hid hi
                  clear hf hv hi
                focus
                  clear hd
                  obtain ⟨ρ, hρ⟩ : ∃ ρ, a'.eval = ρ := ⟨_, rfl⟩
                  have hcst : ∀ v, ρ (.const v) = v := fun v => (congrFun hρ (.const v)).symm
                  have l3 : ρ (.tmp 3) = .pointer (some ⟨b3, 0, none⟩) := (congrFun hρ (.tmp 3)).symm.trans (HF.out.lo 3 rfl)
                  rw [if_pos (by simp [Region.wanted])]
                  unfold Oper.wp
                  rw [hρ]
                  clear hρ
                  have HW := Lib.hid hw
                  clear hw
                  go_simp
                  exact hK.out _ _ ⟨HVA.out.set (i := 0) (by rw [HVV.out]; rfl), by simp only [upd_ne (L := L) (show (1 : Nat) ≠ 0 by decide), upd_ne (L := L) (show (3 : Nat) ≠ 0 by decide), upd_ne (L := L) (show (5 : Nat) ≠ 0 by decide)]; exact HW.out⟩
                focus
                  obtain ⟨d0, _⟩ := hd
                  obtain ⟨ρ, hρ⟩ : ∃ ρ, a'.eval = ρ := ⟨_, rfl⟩
                  have hcst : ∀ v, ρ (.const v) = v := fun v => (congrFun hρ (.const v)).symm
                  have v0 : ρ (.tmp 34) = .pointer (some ⟨b3, 1, none⟩) := (congrFun hρ (.tmp 34)).symm.trans ((HF.out.ev 0 rfl d0).trans (HVA.out 0 _ (by rw [HVV.out]; rfl) d0))
                  rw [if_pos (by simp [Region.wanted])]
                  unfold Oper.wp
                  rw [hρ]
                  clear hρ
                  rcases hw with ⟨hc, hs, hw⟩ | ⟨hc, hs, hg, hp⟩ | ⟨hs, g1, g3, w5, ⟨hg, hp⟩, hw⟩
                  focus
                    subst hw
                    have m1 := (HC2.out.drewL).cell 1
                    simp at m1
                    go_simp
                    exact hK.out _ _ ⟨HVA.out.set (i := 1) (by rw [HVV.out]; rfl), .inl ⟨((upd_ne (L := L) (show (3 : Nat) ≠ 1 by decide)).trans hc), ((upd_ne (L := L) (show (5 : Nat) ≠ 1 by decide)).trans hs), rfl⟩⟩
                  focus
                    have m1 := ((HC2.out.drewL).grown hg (fun e => hb3S (Option.some.inj e))).cell 1
                    simp at m1
                    have HGG := Lib.hid hg
                    have HPP := Lib.hid hp
                    clear hg hp
                    go_simp
                    exact hK.out _ _ ⟨HVA.out.set (i := 1) (by rw [HVV.out]; rfl), .inr (.inl ⟨((upd_ne (L := L) (show (3 : Nat) ≠ 1 by decide)).trans hc), ((upd_ne (L := L) (show (5 : Nat) ≠ 1 by decide)).trans hs), HGG.out, HPP.out⟩)⟩
                  focus
                    rw [HLI.out] at g1
                    cases g1
                focus
                  clear hd
                  obtain ⟨ρ, hρ⟩ : ∃ ρ, a'.eval = ρ := ⟨_, rfl⟩
                  have hcst : ∀ v, ρ (.const v) = v := fun v => (congrFun hρ (.const v)).symm
                  have l0 : ρ (.tmp 0) = .pointer (some ⟨S, 0, none⟩) := (congrFun hρ (.tmp 0)).symm.trans (HF.out.lo 0 rfl)
                  rw [if_pos (by simp [Region.wanted])]
                  unfold Oper.wp
                  rw [hρ]
                  clear hρ
                  have HW := Lib.hid hw
                  clear hw
                  go_simp
                  exact hK.out _ _ ⟨HVA.out.set (i := 2) (by rw [HVV.out]; rfl), by simp only [upd_ne (L := L) (show (1 : Nat) ≠ 2 by decide), upd_ne (L := L) (show (3 : Nat) ≠ 2 by decide), upd_ne (L := L) (show (5 : Nat) ≠ 2 by decide)]; exact HW.out⟩
                focus
                  obtain ⟨d2, _⟩ := hd
                  obtain ⟨ρ, hρ⟩ : ∃ ρ, a'.eval = ρ := ⟨_, rfl⟩
                  have hcst : ∀ v, ρ (.const v) = v := fun v => (congrFun hρ (.const v)).symm
                  have hfun : ∀ k, ρ (.func k) = .func (.func k) #[] #[] := fun k => (congrFun hρ (.func k)).symm
                  have v2 : ρ (.tmp 36) = .pointer (some ⟨S, 0, none⟩) := (congrFun hρ (.tmp 36)).symm.trans ((HF.out.ev 2 rfl d2).trans (HVA.out 2 _ (by rw [HVV.out]; rfl) d2))
                  rw [if_pos (by simp [Region.wanted])]
                  unfold Oper.wp
                  rw [hρ]
                  clear hρ
                  rcases hw with ⟨hc, hs, hw⟩ | ⟨hc, hs, hg, hp⟩ | ⟨hs, g1, g3, w5, ⟨hg, hp⟩, hw⟩
                  rotate_left
                  focus
                    rw [HLI.out] at hc
                    cases hc
                  focus
                    rw [HLI.out] at g3
                    cases g3
                  subst hw
                  go_simp
                  go_at_call 57
                  refine (name_any' S B w2.drew stop r va x' (HP2.out.drew hB) hB).mono ?_
                  rintro e w5 ⟨hg5, h5⟩
                  rw [HNE.out] at h5
                  simp only at h5
                  obtain ⟨rfl, hp5⟩ := h5
                  exact hK.out _ _ ⟨HVA.out.set (i := 3) (by rw [HVV.out]; rfl), .inr (.inl ⟨upd_self _ _, ((upd_ne (L := L) (show (5 : Nat) ≠ 3 by decide)).trans hs), hg5, hp5⟩)⟩
                focus
                  obtain ⟨d1, d0, _, d2, d3, _⟩ := hd
                  obtain ⟨ρ, hρ⟩ : ∃ ρ, a'.eval = ρ := ⟨_, rfl⟩
                  have hcst : ∀ v, ρ (.const v) = v := fun v => (congrFun hρ (.const v)).symm
                  have v1 : ρ (.tmp 35) = .pointer (some ⟨S, 3, none⟩) := (congrFun hρ (.tmp 35)).symm.trans ((HF.out.ev 1 rfl d1).trans (HVA.out 1 _ (by rw [HVV.out]; rfl) d1))
                  rw [if_pos (by simp [Region.wanted])]
                  unfold Oper.wp
                  rw [hρ]
                  clear hρ
                  have HW := Lib.hid hw
                  clear hw
                  go_simp
                  exact hK.out _ _ ⟨HVA.out.set (i := 4) (by rw [HVV.out]; rfl), by simp only [upd_ne (L := L) (show (1 : Nat) ≠ 4 by decide), upd_ne (L := L) (show (3 : Nat) ≠ 4 by decide), upd_ne (L := L) (show (5 : Nat) ≠ 4 by decide)]; exact HW.out⟩
                focus
                  obtain ⟨d4, d3, _, d0, d1, d2, _, _⟩ := hd
                  obtain ⟨ρ, hρ⟩ : ∃ ρ, a'.eval = ρ := ⟨_, rfl⟩
                  have hcst : ∀ v, ρ (.const v) = v := fun v => (congrFun hρ (.const v)).symm
                  have v4 : ρ (.tmp 38) = .pointer (some ⟨S, 3, none⟩) := (congrFun hρ (.tmp 38)).symm.trans ((HF.out.ev 4 rfl d4).trans (HVA.out 4 _ (by rw [HVV.out]; rfl) d4))
                  have v3 : ρ (.tmp 37) = strV s := (congrFun hρ (.tmp 37)).symm.trans ((HF.out.ev 3 rfl d3).trans (HVA.out 3 _ (by rw [HVV.out]; rfl) d3))
                  rw [if_pos (by simp [Region.wanted])]
                  unfold Oper.wp
                  rw [hρ]
                  clear hρ
                  rcases hw with ⟨hc, hs, hw⟩ | ⟨hc, hs, hg, hp⟩ | ⟨hs, g1, g3, w5, ⟨hg, hp⟩, hw⟩
                  focus
                    rw [hc] at d3
                    cases d3
                  rotate_left
                  focus
                    rw [HLI.out] at hs
                    cases hs
                  have HGG := Lib.hid hg
                  have HPP := Lib.hid hp
                  obtain ⟨hcs, hfs⟩ := hp.cells 3 (by decide)
                  obtain ⟨vc, hvc⟩ := Option.isSome_iff_exists.1 hcs
                  clear hg hp hcs
                  go_simp
                  exact hK.out _ _ ⟨HVA.out.free (i := 5) (by rw [HVV.out]; rfl) undef, .inr (.inr ⟨upd_self _ _, ((upd_ne (L := L) (show (1 : Nat) ≠ 5 by decide)).trans d1), ((upd_ne (L := L) (show (3 : Nat) ≠ 5 by decide)).trans d3), w', ⟨HGG.out, HPP.out⟩, rfl⟩)⟩
              focus
                intro L w' xs hL hJ
                obtain ⟨hv, hw⟩ := hJ
                have e0 : xs 0 = .pointer (some ⟨b3, 1, none⟩) := hv 0 _ (by rw [HVV.out]; rfl) (hL 0 (by decide))
                have e1 : xs 1 = .pointer (some ⟨S, 3, none⟩) := hv 1 _ (by rw [HVV.out]; rfl) (hL 1 (by decide))
                have e2 : xs 2 = .pointer (some ⟨S, 0, none⟩) := hv 2 _ (by rw [HVV.out]; rfl) (hL 2 (by decide))
                have e3 : xs 3 = strV s := hv 3 _ (by rw [HVV.out]; rfl) (hL 3 (by decide))
                have e4 : xs 4 = .pointer (some ⟨S, 3, none⟩) := hv 4 _ (by rw [HVV.out]; rfl) (hL 4 (by decide))
                simp only [putGo, Act.put, List.setIfInBounds_toArray, List.set_cons_zero, List.set_cons_succ, e0, e1, e2, e3, e4]
                clear hv e0 e1 e2 e3 e4
                rcases hw with ⟨hc, _⟩ | ⟨_, hs, _⟩ | ⟨_, _, _, w5, ⟨hg, hp⟩, hw⟩
                · rw [hL 3 (by decide)] at hc; cases hc
                · rw [hL 5 (by decide)] at hs; cases hs
                rw [hw]
                have HP6 := Lib.hid (hp.setS hB (show 1 < 4 by decide) s)
                have HG6 := Lib.hid (((HG2.out.trans' (grown_ext (Below.refl _ w2).drew)).trans' hg).trans' (grown_setCell w5 ⟨S, 3, none⟩ (strV s)))
                have HL6 := Lib.hid (((HL2.out.drewL).grown hg (fun e => hbLS (Option.some.inj e))).grown (grown_setCell w5 ⟨S, 3, none⟩ (strV s)) (fun e => hbLS (Option.some.inj e)))
                clear hw hg hp hL
                go_wp2_with fail
                go_roundw
                case rel => exact ⟨2, _, _, by omega, by go_num, HP6.out, HEE.out, HL6.out, HG6.out⟩
                case measure => simp [intOf]
        focus
          have c4 := HC.out.cell 4
          have c5 := HC.out.cell 5
          simp at c4 c5
          go_upto_region 3 with fail
          obtain ⟨b3, hb3⟩ : ∃ b, wr.heap.size = b := ⟨_, rfl⟩
          obtain ⟨W1, hW1⟩ : ∃ W, wr.alloc (.cells #[strV wTo, .pointer (some ⟨S, 4, none⟩)] 95) = W := ⟨_, rfl⟩
          have HB1 : Hid (Below wr.heap.size wr W1) := Lib.hid (by rw [← hW1]; exact box_below' wr _)
          have HC1 : Hid (CellsN W1 b3 #[strV wTo, .pointer (some ⟨S, 4, none⟩)]) := Lib.hid (by rw [← hW1, ← hb3]; exact CellsN.new _ _ _)
          have HP1 := Lib.hid (HP.out.below HB1.out hB)
          have hb3S : b3 ≠ S := by have := HP.out.lt; omega
          have hbLS : bL ≠ S := by have := HEL.out; omega
          rw [hW1]
          try rw [hb3]
          have m0 := HC1.out.cell 0
          simp at m0
          clear hb3 hW1 c4 c5
          go_wp2_with fail
          clear m0
          refine (want_any S B W1 stop l' va x' wTo HP1.out hB).mono ?_
          rintro e w2 ⟨hg2, h⟩
          have HG2 : Hid (w.grownBy w2 (some S)) := Lib.hid ((HG.out.trans' (grown_ext HB1.out)).trans' hg2)
          have HC2 := Lib.hid (HC1.out.grown hg2 (fun e => hb3S (Option.some.inj e)))
          have HL2 := Lib.hid ((HC.out.ext HB1.out).grown hg2 (fun e => hbLS (Option.some.inj e)))
          clear hg2
          cases hk : pTake wTo l' with
          | none =>
            rw [hk] at h
            simp only at h
            subst h
            have HEE : Hid (whoF 4 0 x l = .error l') := Lib.hid (by rw [HE.out]; show whoF (1 + 1) 2 x' l' = _; rw [whoF_succ, show pWN (whoW 2) l' = _ from wn_none hk])
            clear hk
            go_wp2
            exact ⟨rfl, HG2.out, by unfold pWho; rw [HEE.out]⟩
          | some r =>
            rw [hk] at h
            simp only at h
            obtain ⟨rfl, hp2⟩ := h
            have HP2 := Lib.hid hp2
            have HEE : Hid (whoF 4 0 x l = match pName r with
              | .error e => .error e
              | .ok (s, r) => whoF 1 (2 + 1) (setW 2 x' s) r) := Lib.hid (by rw [HE.out]; show whoF (1 + 1) 2 x' l' = _; rw [whoF_succ, show pWN (whoW 2) l' = _ from wn_some hk]; try rfl)
            clear hk hp2
            have m1 := HC2.out.cell 1
            simp at m1
            go_upto_region 4 with fail
            cases hn : pName r with
            | error r' =>
              have HNE := Lib.hid hn
              rw [hn] at HEE
              simp only at HEE
              clear hn
              obtain ⟨V, hV⟩ : ∃ V : List (Option Value), V = [some (.pointer (some ⟨b3, 1, none⟩)), some (.pointer (some ⟨S, 4, none⟩)), some (.pointer (some ⟨S, 0, none⟩)), none, some (.pointer (some ⟨S, 4, none⟩)), none] := ⟨_, rfl⟩
              have HVV := Lib.hid hV
              clear hV
              refine wp_region_V [some 34, some 35, some 36, some 37, some 38, none] (fun L w' xs => ValsAt V L xs ∧ (L 3 = false ∧ w' = w2.drew)) (by kernel_rfl) (by kernel_rfl) (by rfl) (by rfl) (by rfl) ?_ ?_ ?_
              focus
                exact fun xs => ⟨ValsAt.none _ _, rfl, rfl⟩
              focus
                refine ⟨?_, ?_, ?_, ?_, ?_, ?_, trivial⟩
                all_goals
                  intro L a' w' xs hi hd hf hJ K hK
                  obtain ⟨hv, hl, hw⟩ := hJ
                  have HF := Lib.hid hf
                  have HVA := Lib.hid hv
                  have HLI := Lib.hid hi
                  clear hf hv hi
                focus
                  clear hd
                  obtain ⟨ρ, hρ⟩ : ∃ ρ, a'.eval = ρ := ⟨_, rfl⟩
                  have hcst : ∀ v, ρ (.const v) = v := fun v => (congrFun hρ (.const v)).symm
                  have l3 : ρ (.tmp 3) = .pointer (some ⟨b3, 0, none⟩) := (congrFun hρ (.tmp 3)).symm.trans (HF.out.lo 3 rfl)
                  rw [if_pos (by simp [Region.wanted])]
                  unfold Oper.wp
                  rw [hρ]
                  clear hρ
                  subst hw
                  go_simp
                  exact hK.out _ _ ⟨HVA.out.set (i := 0) (by rw [HVV.out]; rfl), (upd_ne (L := L) (show (3 : Nat) ≠ 0 by decide)).trans hl, rfl⟩
                focus
                  obtain ⟨d0, _⟩ := hd
                  obtain ⟨ρ, hρ⟩ : ∃ ρ, a'.eval = ρ := ⟨_, rfl⟩
                  have hcst : ∀ v, ρ (.const v) = v := fun v => (congrFun hρ (.const v)).symm
                  have v0 : ρ (.tmp 34) = .pointer (some ⟨b3, 1, none⟩) := (congrFun hρ (.tmp 34)).symm.trans ((HF.out.ev 0 rfl d0).trans (HVA.out 0 _ (by rw [HVV.out]; rfl) d0))
                  rw [if_pos (by simp [Region.wanted])]
                  unfold Oper.wp
                  rw [hρ]
                  clear hρ
                  subst hw
                  have m1 := (HC2.out.drewL).cell 1
                  simp at m1
                  go_simp
                  exact hK.out _ _ ⟨HVA.out.set (i := 1) (by rw [HVV.out]; rfl), (upd_ne (L := L) (show (3 : Nat) ≠ 1 by decide)).trans hl, rfl⟩
                focus
                  clear hd
                  obtain ⟨ρ, hρ⟩ : ∃ ρ, a'.eval = ρ := ⟨_, rfl⟩
                  have hcst : ∀ v, ρ (.const v) = v := fun v => (congrFun hρ (.const v)).symm
                  have l0 : ρ (.tmp 0) = .pointer (some ⟨S, 0, none⟩) := (congrFun hρ (.tmp 0)).symm.trans (HF.out.lo 0 rfl)
                  rw [if_pos (by simp [Region.wanted])]
                  unfold Oper.wp
                  rw [hρ]
                  clear hρ
                  subst hw
                  go_simp
                  exact hK.out _ _ ⟨HVA.out.set (i := 2) (by rw [HVV.out]; rfl), (upd_ne (L := L) (show (3 : Nat) ≠ 2 by decide)).trans hl, rfl⟩
                focus
                  obtain ⟨d2, _⟩ := hd
                  obtain ⟨ρ, hρ⟩ : ∃ ρ, a'.eval = ρ := ⟨_, rfl⟩
                  have hcst : ∀ v, ρ (.const v) = v := fun v => (congrFun hρ (.const v)).symm
                  have hfun : ∀ k, ρ (.func k) = .func (.func k) #[] #[] := fun k => (congrFun hρ (.func k)).symm
                  have v2 : ρ (.tmp 36) = .pointer (some ⟨S, 0, none⟩) := (congrFun hρ (.tmp 36)).symm.trans ((HF.out.ev 2 rfl d2).trans (HVA.out 2 _ (by rw [HVV.out]; rfl) d2))
                  rw [if_pos (by simp [Region.wanted])]
                  unfold Oper.wp
                  rw [hρ]
                  clear hρ
                  subst hw
                  go_simp
                  go_at_call 57
                  refine (name_any' S B w2.drew stop r va x' (HP2.out.drew hB) hB).mono ?_
                  rintro e w5 ⟨hg5, h5⟩
                  rw [HNE.out] at h5
                  simp only at h5
                  subst h5
                  have HG5 := Lib.hid (HG2.out.trans' ((grown_ext (Below.refl _ w2).drew).trans' hg5))
                  clear hg5
                  go_simp
                  exact ⟨HF.out.defers, HG5.out, by unfold pWho; rw [HEE.out]⟩
                focus
                  obtain ⟨d1, d0, _, d2, d3, _⟩ := hd
                  obtain ⟨ρ, hρ⟩ : ∃ ρ, a'.eval = ρ := ⟨_, rfl⟩
                  have hcst : ∀ v, ρ (.const v) = v := fun v => (congrFun hρ (.const v)).symm
                  have v1 : ρ (.tmp 35) = .pointer (some ⟨S, 4, none⟩) := (congrFun hρ (.tmp 35)).symm.trans ((HF.out.ev 1 rfl d1).trans (HVA.out 1 _ (by rw [HVV.out]; rfl) d1))
                  rw [if_pos (by simp [Region.wanted])]
                  unfold Oper.wp
                  rw [hρ]
                  clear hρ
                  rw [hl] at d3
                  cases d3
                focus
                  obtain ⟨d4, d3, _, d0, d1, d2, _, _⟩ := hd
                  obtain ⟨ρ, hρ⟩ : ∃ ρ, a'.eval = ρ := ⟨_, rfl⟩
                  have hcst : ∀ v, ρ (.const v) = v := fun v => (congrFun hρ (.const v)).symm
                  have v4 : ρ (.tmp 38) = .pointer (some ⟨S, 4, none⟩) := (congrFun hρ (.tmp 38)).symm.trans ((HF.out.ev 4 rfl d4).trans (HVA.out 4 _ (by rw [HVV.out]; rfl) d4))
                  have v3 : ρ (.tmp 37) = xs 3 := (congrFun hρ (.tmp 37)).symm.trans (HF.out.ev 3 rfl d3)
                  rw [if_pos (by simp [Region.wanted])]
                  unfold Oper.wp
                  rw [hρ]
                  clear hρ
                  rw [hl] at d3
                  cases d3
              focus
                intro L w' xs hL hJ
                obtain ⟨hv, hl, hw⟩ := hJ
                have e0 : xs 0 = .pointer (some ⟨b3, 1, none⟩) := hv 0 _ (by rw [HVV.out]; rfl) (hL 0 (by decide))
                have e1 : xs 1 = .pointer (some ⟨S, 4, none⟩) := hv 1 _ (by rw [HVV.out]; rfl) (hL 1 (by decide))
                have e2 : xs 2 = .pointer (some ⟨S, 0, none⟩) := hv 2 _ (by rw [HVV.out]; rfl) (hL 2 (by decide))
                have e4 : xs 4 = .pointer (some ⟨S, 4, none⟩) := hv 4 _ (by rw [HVV.out]; rfl) (hL 4 (by decide))
                simp only [putGo, Act.put, List.setIfInBounds_toArray, List.set_cons_zero, List.set_cons_succ, e0, e1, e2, e4]
                clear hv e0 e1 e2 e4
                rw [hL 3 (by decide)] at hl
                cases hl
            | ok v =>
              obtain ⟨s, r'⟩ := v
              have HNE := Lib.hid hn
              rw [hn] at HEE
              simp only at HEE
              clear hn
              obtain ⟨V, hV⟩ : ∃ V : List (Option Value), V = [some (.pointer (some ⟨b3, 1, none⟩)), some (.pointer (some ⟨S, 4, none⟩)), some (.pointer (some ⟨S, 0, none⟩)), some (strV s), some (.pointer (some ⟨S, 4, none⟩)), none] := ⟨_, rfl⟩
              have HVV := Lib.hid hV
              clear hV
              refine wp_region_V [some 34, some 35, some 36, some 37, some 38, none] (fun L w' xs => ValsAt V L xs ∧ ((L 3 = false ∧ L 5 = false ∧ w' = w2.drew) ∨ (L 3 = true ∧ L 5 = false ∧ w2.drew.grownBy w' (some S) ∧ Par S B w' stop r' va x') ∨ (L 5 = true ∧ L 1 = true ∧ L 3 = true ∧ ∃ w5, (w2.drew.grownBy w5 (some S) ∧ Par S B w5 stop r' va x') ∧ w' = w5.setCell ⟨S, 4, none⟩ (strV s)))) (by kernel_rfl) (by kernel_rfl) (by rfl) (by rfl) (by rfl) ?_ ?_ ?_
              focus
                exact fun xs => ⟨ValsAt.none _ _, Or.inl ⟨rfl, rfl, rfl⟩⟩
              focus
                refine ⟨?_, ?_, ?_, ?_, ?_, ?_, trivial⟩
                all_goals
                  intro L a' w' xs hi hd hf hJ K hK
                  obtain ⟨hv, hw⟩ := hJ
                  have HF := Lib.hid hf
                  have HVA := Lib.hid hv
                  have HLI := Lib.hid hi
                  clear hf hv hi
                focus
                  clear hd
                  obtain ⟨ρ, hρ⟩ : ∃ ρ, a'.eval = ρ := ⟨_, rfl⟩
                  have hcst : ∀ v, ρ (.const v) = v := fun v => (congrFun hρ (.const v)).symm
                  have l3 : ρ (.tmp 3) = .pointer (some ⟨b3, 0, none⟩) := (congrFun hρ (.tmp 3)).symm.trans (HF.out.lo 3 rfl)
                  rw [if_pos (by simp [Region.wanted])]
                  unfold Oper.wp
                  rw [hρ]
                  clear hρ
                  have HW := Lib.hid hw
                  clear hw
                  go_simp
                  exact hK.out _ _ ⟨HVA.out.set (i := 0) (by rw [HVV.out]; rfl), by simp only [upd_ne (L := L) (show (1 : Nat) ≠ 0 by decide), upd_ne (L := L) (show (3 : Nat) ≠ 0 by decide), upd_ne (L := L) (show (5 : Nat) ≠ 0 by decide)]; exact HW.out⟩
                focus
                  obtain ⟨d0, _⟩ := hd
                  obtain ⟨ρ, hρ⟩ : ∃ ρ, a'.eval = ρ := ⟨_, rfl⟩
                  have hcst : ∀ v, ρ (.const v) = v := fun v => (congrFun hρ (.const v)).symm
                  have v0 : ρ (.tmp 34) = .pointer (some ⟨b3, 1, none⟩) := (congrFun hρ (.tmp 34)).symm.trans ((HF.out.ev 0 rfl d0).trans (HVA.out 0 _ (by rw [HVV.out]; rfl) d0))
                  rw [if_pos (by simp [Region.wanted])]
                  unfold Oper.wp
                  rw [hρ]
                  clear hρ
                  rcases hw with ⟨hc, hs, hw⟩ | ⟨hc, hs, hg, hp⟩ | ⟨hs, g1, g3, w5, ⟨hg, hp⟩, hw⟩
                  focus
                    subst hw
                    have m1 := (HC2.out.drewL).cell 1
                    simp at m1
                    go_simp
                    exact hK.out _ _ ⟨HVA.out.set (i := 1) (by rw [HVV.out]; rfl), .inl ⟨((upd_ne (L := L) (show (3 : Nat) ≠ 1 by decide)).trans hc), ((upd_ne (L := L) (show (5 : Nat) ≠ 1 by decide)).trans hs), rfl⟩⟩
                  focus
                    have m1 := ((HC2.out.drewL).grown hg (fun e => hb3S (Option.some.inj e))).cell 1
                    simp at m1
                    have HGG := Lib.hid hg
                    have HPP := Lib.hid hp
                    clear hg hp
                    go_simp
                    exact hK.out _ _ ⟨HVA.out.set (i := 1) (by rw [HVV.out]; rfl), .inr (.inl ⟨((upd_ne (L := L) (show (3 : Nat) ≠ 1 by decide)).trans hc), ((upd_ne (L := L) (show (5 : Nat) ≠ 1 by decide)).trans hs), HGG.out, HPP.out⟩)⟩
                  focus
                    rw [HLI.out] at g1
                    cases g1
                focus
                  clear hd
                  obtain ⟨ρ, hρ⟩ : ∃ ρ, a'.eval = ρ := ⟨_, rfl⟩
                  have hcst : ∀ v, ρ (.const v) = v := fun v => (congrFun hρ (.const v)).symm
                  have l0 : ρ (.tmp 0) = .pointer (some ⟨S, 0, none⟩) := (congrFun hρ (.tmp 0)).symm.trans (HF.out.lo 0 rfl)
                  rw [if_pos (by simp [Region.wanted])]
                  unfold Oper.wp
                  rw [hρ]
                  clear hρ
                  have HW := Lib.hid hw
                  clear hw
                  go_simp
                  exact hK.out _ _ ⟨HVA.out.set (i := 2) (by rw [HVV.out]; rfl), by simp only [upd_ne (L := L) (show (1 : Nat) ≠ 2 by decide), upd_ne (L := L) (show (3 : Nat) ≠ 2 by decide), upd_ne (L := L) (show (5 : Nat) ≠ 2 by decide)]; exact HW.out⟩
                focus
                  obtain ⟨d2, _⟩ := hd
                  obtain ⟨ρ, hρ⟩ : ∃ ρ, a'.eval = ρ := ⟨_, rfl⟩
                  have hcst : ∀ v, ρ (.const v) = v := fun v => (congrFun hρ (.const v)).symm
                  have hfun : ∀ k, ρ (.func k) = .func (.func k) #[] #[] := fun k => (congrFun hρ (.func k)).symm
                  have v2 : ρ (.tmp 36) = .pointer (some ⟨S, 0, none⟩) := (congrFun hρ (.tmp 36)).symm.trans ((HF.out.ev 2 rfl d2).trans (HVA.out 2 _ (by rw [HVV.out]; rfl) d2))
                  rw [if_pos (by simp [Region.wanted])]
                  unfold Oper.wp
                  rw [hρ]
                  clear hρ
                  rcases hw with ⟨hc, hs, hw⟩ | ⟨hc, hs, hg, hp⟩ | ⟨hs, g1, g3, w5, ⟨hg, hp⟩, hw⟩
                  rotate_left
                  focus
                    rw [HLI.out] at hc
                    cases hc
                  focus
                    rw [HLI.out] at g3
                    cases g3
                  subst hw
                  go_simp
                  go_at_call 57
                  refine (name_any' S B w2.drew stop r va x' (HP2.out.drew hB) hB).mono ?_
                  rintro e w5 ⟨hg5, h5⟩
                  rw [HNE.out] at h5
                  simp only at h5
                  obtain ⟨rfl, hp5⟩ := h5
                  exact hK.out _ _ ⟨HVA.out.set (i := 3) (by rw [HVV.out]; rfl), .inr (.inl ⟨upd_self _ _, ((upd_ne (L := L) (show (5 : Nat) ≠ 3 by decide)).trans hs), hg5, hp5⟩)⟩
                focus
                  obtain ⟨d1, d0, _, d2, d3, _⟩ := hd
                  obtain ⟨ρ, hρ⟩ : ∃ ρ, a'.eval = ρ := ⟨_, rfl⟩
                  have hcst : ∀ v, ρ (.const v) = v := fun v => (congrFun hρ (.const v)).symm
                  have v1 : ρ (.tmp 35) = .pointer (some ⟨S, 4, none⟩) := (congrFun hρ (.tmp 35)).symm.trans ((HF.out.ev 1 rfl d1).trans (HVA.out 1 _ (by rw [HVV.out]; rfl) d1))
                  rw [if_pos (by simp [Region.wanted])]
                  unfold Oper.wp
                  rw [hρ]
                  clear hρ
                  have HW := Lib.hid hw
                  clear hw
                  go_simp
                  exact hK.out _ _ ⟨HVA.out.set (i := 4) (by rw [HVV.out]; rfl), by simp only [upd_ne (L := L) (show (1 : Nat) ≠ 4 by decide), upd_ne (L := L) (show (3 : Nat) ≠ 4 by decide), upd_ne (L := L) (show (5 : Nat) ≠ 4 by decide)]; exact HW.out⟩
                focus
                  obtain ⟨d4, d3, _, d0, d1, d2, _, _⟩ := hd
                  obtain ⟨ρ, hρ⟩ : ∃ ρ, a'.eval = ρ := ⟨_, rfl⟩
                  have hcst : ∀ v, ρ (.const v) = v := fun v => (congrFun hρ (.const v)).symm
                  have v4 : ρ (.tmp 38) = .pointer (some ⟨S, 4, none⟩) := (congrFun hρ (.tmp 38)).symm.trans ((HF.out.ev 4 rfl d4).trans (HVA.out 4 _ (by rw [HVV.out]; rfl) d4))
                  have v3 : ρ (.tmp 37) = strV s := (congrFun hρ (.tmp 37)).symm.trans ((HF.out.ev 3 rfl d3).trans (HVA.out 3 _ (by rw [HVV.out]; rfl) d3))
                  rw [if_pos (by simp [Region.wanted])]
                  unfold Oper.wp
                  rw [hρ]
                  clear hρ
                  rcases hw with ⟨hc, hs, hw⟩ | ⟨hc, hs, hg, hp⟩ | ⟨hs, g1, g3, w5, ⟨hg, hp⟩, hw⟩
                  focus
                    rw [hc] at d3
                    cases d3
                  rotate_left
                  focus
                    rw [HLI.out] at hs
                    cases hs
                  have HGG := Lib.hid hg
                  have HPP := Lib.hid hp
                  obtain ⟨hcs, hfs⟩ := hp.cells 4 (by decide)
                  obtain ⟨vc, hvc⟩ := Option.isSome_iff_exists.1 hcs
                  clear hg hp hcs
                  go_simp
                  exact hK.out _ _ ⟨HVA.out.free (i := 5) (by rw [HVV.out]; rfl) undef, .inr (.inr ⟨upd_self _ _, ((upd_ne (L := L) (show (1 : Nat) ≠ 5 by decide)).trans d1), ((upd_ne (L := L) (show (3 : Nat) ≠ 5 by decide)).trans d3), w', ⟨HGG.out, HPP.out⟩, rfl⟩)⟩
              focus
                intro L w' xs hL hJ
                obtain ⟨hv, hw⟩ := hJ
                have e0 : xs 0 = .pointer (some ⟨b3, 1, none⟩) := hv 0 _ (by rw [HVV.out]; rfl) (hL 0 (by decide))
                have e1 : xs 1 = .pointer (some ⟨S, 4, none⟩) := hv 1 _ (by rw [HVV.out]; rfl) (hL 1 (by decide))
                have e2 : xs 2 = .pointer (some ⟨S, 0, none⟩) := hv 2 _ (by rw [HVV.out]; rfl) (hL 2 (by decide))
                have e3 : xs 3 = strV s := hv 3 _ (by rw [HVV.out]; rfl) (hL 3 (by decide))
                have e4 : xs 4 = .pointer (some ⟨S, 4, none⟩) := hv 4 _ (by rw [HVV.out]; rfl) (hL 4 (by decide))
                simp only [putGo, Act.put, List.setIfInBounds_toArray, List.set_cons_zero, List.set_cons_succ, e0, e1, e2, e3, e4]
                clear hv e0 e1 e2 e3 e4
                rcases hw with ⟨hc, _⟩ | ⟨_, hs, _⟩ | ⟨_, _, _, w5, ⟨hg, hp⟩, hw⟩
                · rw [hL 3 (by decide)] at hc; cases hc
                · rw [hL 5 (by decide)] at hs; cases hs
                rw [hw]
                have HP6 := Lib.hid (hp.setS hB (show 2 < 4 by decide) s)
                have HG6 := Lib.hid (((HG2.out.trans' (grown_ext (Below.refl _ w2).drew)).trans' hg).trans' (grown_setCell w5 ⟨S, 4, none⟩ (strV s)))
                have HL6 := Lib.hid (((HL2.out.drewL).grown hg (fun e => hbLS (Option.some.inj e))).grown (grown_setCell w5 ⟨S, 4, none⟩ (strV s)) (fun e => hbLS (Option.some.inj e)))
                clear hw hg hp hL
                go_wp2_with fail
                go_roundw
                case rel => exact ⟨3, _, _, by omega, by go_num, HP6.out, HEE.out, HL6.out, HG6.out⟩
                case measure => simp [intOf]
        focus
          have c6 := HC.out.cell 6
          have c7 := HC.out.cell 7
          simp at c6 c7
          go_upto_region 3 with fail
          obtain ⟨b3, hb3⟩ : ∃ b, wr.heap.size = b := ⟨_, rfl⟩
          obtain ⟨W1, hW1⟩ : ∃ W, wr.alloc (.cells #[strV wClass, .pointer (some ⟨S, 5, none⟩)] 95) = W := ⟨_, rfl⟩
          have HB1 : Hid (Below wr.heap.size wr W1) := Lib.hid (by rw [← hW1]; exact box_below' wr _)
          have HC1 : Hid (CellsN W1 b3 #[strV wClass, .pointer (some ⟨S, 5, none⟩)]) := Lib.hid (by rw [← hW1, ← hb3]; exact CellsN.new _ _ _)
          have HP1 := Lib.hid (HP.out.below HB1.out hB)
          have hb3S : b3 ≠ S := by have := HP.out.lt; omega
          have hbLS : bL ≠ S := by have := HEL.out; omega
          rw [hW1]
          try rw [hb3]
          have m0 := HC1.out.cell 0
          simp at m0
          clear hb3 hW1 c6 c7
          go_wp2_with fail
          clear m0
          refine (want_any S B W1 stop l' va x' wClass HP1.out hB).mono ?_
          rintro e w2 ⟨hg2, h⟩
          have HG2 : Hid (w.grownBy w2 (some S)) := Lib.hid ((HG.out.trans' (grown_ext HB1.out)).trans' hg2)
          have HC2 := Lib.hid (HC1.out.grown hg2 (fun e => hb3S (Option.some.inj e)))
          have HL2 := Lib.hid ((HC.out.ext HB1.out).grown hg2 (fun e => hbLS (Option.some.inj e)))
          clear hg2
          cases hk : pTake wClass l' with
          | none =>
            rw [hk] at h
            simp only at h
            subst h
            have HEE : Hid (whoF 4 0 x l = .error l') := Lib.hid (by rw [HE.out]; show whoF (0 + 1) 3 x' l' = _; rw [whoF_succ, show pWN (whoW 3) l' = _ from wn_none hk])
            clear hk
            go_wp2
            exact ⟨rfl, HG2.out, by unfold pWho; rw [HEE.out]⟩
          | some r =>
            rw [hk] at h
            simp only at h
            obtain ⟨rfl, hp2⟩ := h
            have HP2 := Lib.hid hp2
            have HEE : Hid (whoF 4 0 x l = match pName r with
              | .error e => .error e
              | .ok (s, r) => whoF 0 (3 + 1) (setW 3 x' s) r) := Lib.hid (by rw [HE.out]; show whoF (0 + 1) 3 x' l' = _; rw [whoF_succ, show pWN (whoW 3) l' = _ from wn_some hk]; try rfl)
            clear hk hp2
            have m1 := HC2.out.cell 1
            simp at m1
            go_upto_region 4 with fail
            cases hn : pName r with
            | error r' =>
              have HNE := Lib.hid hn
              rw [hn] at HEE
              simp only at HEE
              clear hn
              obtain ⟨V, hV⟩ : ∃ V : List (Option Value), V = [some (.pointer (some ⟨b3, 1, none⟩)), some (.pointer (some ⟨S, 5, none⟩)), some (.pointer (some ⟨S, 0, none⟩)), none, some (.pointer (some ⟨S, 5, none⟩)), none] := ⟨_, rfl⟩
              have HVV := Lib.hid hV
              clear hV
              refine wp_region_V [some 34, some 35, some 36, some 37, some 38, none] (fun L w' xs => ValsAt V L xs ∧ (L 3 = false ∧ w' = w2.drew)) (by kernel_rfl) (by kernel_rfl) (by rfl) (by rfl) (by rfl) ?_ ?_ ?_
              focus
                exact fun xs => ⟨ValsAt.none _ _, rfl, rfl⟩
              focus
                refine ⟨?_, ?_, ?_, ?_, ?_, ?_, trivial⟩
                all_goals
                  intro L a' w' xs hi hd hf hJ K hK
                  obtain ⟨hv, hl, hw⟩ := hJ
                  have HF := Lib.hid hf
                  have HVA := Lib.hid hv
                  have HLI := Lib.hid hi
                  clear hf hv hi
                focus
                  clear hd
                  obtain ⟨ρ, hρ⟩ : ∃ ρ, a'.eval = ρ := ⟨_, rfl⟩
                  have hcst : ∀ v, ρ (.const v) = v := fun v => (congrFun hρ (.const v)).symm
                  have l3 : ρ (.tmp 3) = .pointer (some ⟨b3, 0, none⟩) := (congrFun hρ (.tmp 3)).symm.trans (HF.out.lo 3 rfl)
                  rw [if_pos (by simp [Region.wanted])]
                  unfold Oper.wp
                  rw [hρ]
                  clear hρ
                  subst hw
                  go_simp
                  exact hK.out _ _ ⟨HVA.out.set (i := 0) (by rw [HVV.out]; rfl), (upd_ne (L := L) (show (3 : Nat) ≠ 0 by decide)).trans hl, rfl⟩
                focus
                  obtain ⟨d0, _⟩ := hd
                  obtain ⟨ρ, hρ⟩ : ∃ ρ, a'.eval = ρ := ⟨_, rfl⟩
                  have hcst : ∀ v, ρ (.const v) = v := fun v => (congrFun hρ (.const v)).symm
                  have v0 : ρ (.tmp 34) = .pointer (some ⟨b3, 1, none⟩) := (congrFun hρ (.tmp 34)).symm.trans ((HF.out.ev 0 rfl d0).trans (HVA.out 0 _ (by rw [HVV.out]; rfl) d0))
                  rw [if_pos (by simp [Region.wanted])]
                  unfold Oper.wp
                  rw [hρ]
                  clear hρ
                  subst hw
                  have m1 := (HC2.out.drewL).cell 1
                  simp at m1
                  go_simp
                  exact hK.out _ _ ⟨HVA.out.set (i := 1) (by rw [HVV.out]; rfl), (upd_ne (L := L) (show (3 : Nat) ≠ 1 by decide)).trans hl, rfl⟩
                focus
                  clear hd
                  obtain ⟨ρ, hρ⟩ : ∃ ρ, a'.eval = ρ := ⟨_, rfl⟩
                  have hcst : ∀ v, ρ (.const v) = v := fun v => (congrFun hρ (.const v)).symm
                  have l0 : ρ (.tmp 0) = .pointer (some ⟨S, 0, none⟩) := (congrFun hρ (.tmp 0)).symm.trans (HF.out.lo 0 rfl)
                  rw [if_pos (by simp [Region.wanted])]
                  unfold Oper.wp
                  rw [hρ]
                  clear hρ
                  subst hw
                  go_simp
                  exact hK.out _ _ ⟨HVA.out.set (i := 2) (by rw [HVV.out]; rfl), (upd_ne (L := L) (show (3 : Nat) ≠ 2 by decide)).trans hl, rfl⟩
                focus
                  obtain ⟨d2, _⟩ := hd
                  obtain ⟨ρ, hρ⟩ : ∃ ρ, a'.eval = ρ := ⟨_, rfl⟩
                  have hcst : ∀ v, ρ (.const v) = v := fun v => (congrFun hρ (.const v)).symm
                  have hfun : ∀ k, ρ (.func k) = .func (.func k) #[] #[] := fun k => (congrFun hρ (.func k)).symm
                  have v2 : ρ (.tmp 36) = .pointer (some ⟨S, 0, none⟩) := (congrFun hρ (.tmp 36)).symm.trans ((HF.out.ev 2 rfl d2).trans (HVA.out 2 _ (by rw [HVV.out]; rfl) d2))
                  rw [if_pos (by simp [Region.wanted])]
                  unfold Oper.wp
                  rw [hρ]
                  clear hρ
                  subst hw
                  go_simp
                  go_at_call 57
                  refine (name_any' S B w2.drew stop r va x' (HP2.out.drew hB) hB).mono ?_
                  rintro e w5 ⟨hg5, h5⟩
                  rw [HNE.out] at h5
                  simp only at h5
                  subst h5
                  have HG5 := Lib.hid (HG2.out.trans' ((grown_ext (Below.refl _ w2).drew).trans' hg5))
                  clear hg5
                  go_simp
                  exact ⟨HF.out.defers, HG5.out, by unfold pWho; rw [HEE.out]⟩
                focus
                  obtain ⟨d1, d0, _, d2, d3, _⟩ := hd
                  obtain ⟨ρ, hρ⟩ : ∃ ρ, a'.eval = ρ := ⟨_, rfl⟩
                  have hcst : ∀ v, ρ (.const v) = v := fun v => (congrFun hρ (.const v)).symm
                  have v1 : ρ (.tmp 35) = .pointer (some ⟨S, 5, none⟩) := (congrFun hρ (.tmp 35)).symm.trans ((HF.out.ev 1 rfl d1).trans (HVA.out 1 _ (by rw [HVV.out]; rfl) d1))
                  rw [if_pos (by simp [Region.wanted])]
                  unfold Oper.wp
                  rw [hρ]
                  clear hρ
                  rw [hl] at d3
                  cases d3
                focus
                  obtain ⟨d4, d3, _, d0, d1, d2, _, _⟩ := hd
                  obtain ⟨ρ, hρ⟩ : ∃ ρ, a'.eval = ρ := ⟨_, rfl⟩
                  have hcst : ∀ v, ρ (.const v) = v := fun v => (congrFun hρ (.const v)).symm
                  have v4 : ρ (.tmp 38) = .pointer (some ⟨S, 5, none⟩) := (congrFun hρ (.tmp 38)).symm.trans ((HF.out.ev 4 rfl d4).trans (HVA.out 4 _ (by rw [HVV.out]; rfl) d4))
                  have v3 : ρ (.tmp 37) = xs 3 := (congrFun hρ (.tmp 37)).symm.trans (HF.out.ev 3 rfl d3)
                  rw [if_pos (by simp [Region.wanted])]
                  unfold Oper.wp
                  rw [hρ]
                  clear hρ
                  rw [hl] at d3
                  cases d3
              focus
                intro L w' xs hL hJ
                obtain ⟨hv, hl, hw⟩ := hJ
                have e0 : xs 0 = .pointer (some ⟨b3, 1, none⟩) := hv 0 _ (by rw [HVV.out]; rfl) (hL 0 (by decide))
                have e1 : xs 1 = .pointer (some ⟨S, 5, none⟩) := hv 1 _ (by rw [HVV.out]; rfl) (hL 1 (by decide))
                have e2 : xs 2 = .pointer (some ⟨S, 0, none⟩) := hv 2 _ (by rw [HVV.out]; rfl) (hL 2 (by decide))
                have e4 : xs 4 = .pointer (some ⟨S, 5, none⟩) := hv 4 _ (by rw [HVV.out]; rfl) (hL 4 (by decide))
                simp only [putGo, Act.put, List.setIfInBounds_toArray, List.set_cons_zero, List.set_cons_succ, e0, e1, e2, e4]
                clear hv e0 e1 e2 e4
                rw [hL 3 (by decide)] at hl
                cases hl
            | ok v =>
              obtain ⟨s, r'⟩ := v
              have HNE := Lib.hid hn
              rw [hn] at HEE
              simp only at HEE
              clear hn
              obtain ⟨V, hV⟩ : ∃ V : List (Option Value), V = [some (.pointer (some ⟨b3, 1, none⟩)), some (.pointer (some ⟨S, 5, none⟩)), some (.pointer (some ⟨S, 0, none⟩)), some (strV s), some (.pointer (some ⟨S, 5, none⟩)), none] := ⟨_, rfl⟩
              have HVV := Lib.hid hV
              clear hV
              refine wp_region_V [some 34, some 35, some 36, some 37, some 38, none] (fun L w' xs => ValsAt V L xs ∧ ((L 3 = false ∧ L 5 = false ∧ w' = w2.drew) ∨ (L 3 = true ∧ L 5 = false ∧ w2.drew.grownBy w' (some S) ∧ Par S B w' stop r' va x') ∨ (L 5 = true ∧ L 1 = true ∧ L 3 = true ∧ ∃ w5, (w2.drew.grownBy w5 (some S) ∧ Par S B w5 stop r' va x') ∧ w' = w5.setCell ⟨S, 5, none⟩ (strV s)))) (by kernel_rfl) (by kernel_rfl) (by rfl) (by rfl) (by rfl) ?_ ?_ ?_
              focus
                exact fun xs => ⟨ValsAt.none _ _, Or.inl ⟨rfl, rfl, rfl⟩⟩
              focus
                refine ⟨?_, ?_, ?_, ?_, ?_, ?_, trivial⟩
                all_goals
                  intro L a' w' xs hi hd hf hJ K hK
                  obtain ⟨hv, hw⟩ := hJ
                  have HF := Lib.hid hf
                  have HVA := Lib.hid hv
                  have HLI := Lib.hid hi
                  clear hf hv hi
                focus
                  clear hd
                  obtain ⟨ρ, hρ⟩ : ∃ ρ, a'.eval = ρ := ⟨_, rfl⟩
                  have hcst : ∀ v, ρ (.const v) = v := fun v => (congrFun hρ (.const v)).symm
                  have l3 : ρ (.tmp 3) = .pointer (some ⟨b3, 0, none⟩) := (congrFun hρ (.tmp 3)).symm.trans (HF.out.lo 3 rfl)
                  rw [if_pos (by simp [Region.wanted])]
                  unfold Oper.wp
                  rw [hρ]
                  clear hρ
                  have HW := Lib.hid hw
                  clear hw
                  go_simp
                  exact hK.out _ _ ⟨HVA.out.set (i := 0) (by rw [HVV.out]; rfl), by simp only [upd_ne (L := L) (show (1 : Nat) ≠ 0 by decide), upd_ne (L := L) (show (3 : Nat) ≠ 0 by decide), upd_ne (L := L) (show (5 : Nat) ≠ 0 by decide)]; exact HW.out⟩
                focus
                  obtain ⟨d0, _⟩ := hd
                  obtain ⟨ρ, hρ⟩ : ∃ ρ, a'.eval = ρ := ⟨_, rfl⟩
                  have hcst : ∀ v, ρ (.const v) = v := fun v => (congrFun hρ (.const v)).symm
                  have v0 : ρ (.tmp 34) = .pointer (some ⟨b3, 1, none⟩) := (congrFun hρ (.tmp 34)).symm.trans ((HF.out.ev 0 rfl d0).trans (HVA.out 0 _ (by rw [HVV.out]; rfl) d0))
                  rw [if_pos (by simp [Region.wanted])]
                  unfold Oper.wp
                  rw [hρ]
                  clear hρ
                  rcases hw with ⟨hc, hs, hw⟩ | ⟨hc, hs, hg, hp⟩ | ⟨hs, g1, g3, w5, ⟨hg, hp⟩, hw⟩
                  focus
                    subst hw
                    have m1 := (HC2.out.drewL).cell 1
                    simp at m1
                    go_simp
                    exact hK.out _ _ ⟨HVA.out.set (i := 1) (by rw [HVV.out]; rfl), .inl ⟨((upd_ne (L := L) (show (3 : Nat) ≠ 1 by decide)).trans hc), ((upd_ne (L := L) (show (5 : Nat) ≠ 1 by decide)).trans hs), rfl⟩⟩
                  focus
                    have m1 := ((HC2.out.drewL).grown hg (fun e => hb3S (Option.some.inj e))).cell 1
                    simp at m1
                    have HGG := Lib.hid hg
                    have HPP := Lib.hid hp
                    clear hg hp
                    go_simp
                    exact hK.out _ _ ⟨HVA.out.set (i := 1) (by rw [HVV.out]; rfl), .inr (.inl ⟨((upd_ne (L := L) (show (3 : Nat) ≠ 1 by decide)).trans hc), ((upd_ne (L := L) (show (5 : Nat) ≠ 1 by decide)).trans hs), HGG.out, HPP.out⟩)⟩
                  focus
                    rw [HLI.out] at g1
                    cases g1
                focus
                  clear hd
                  obtain ⟨ρ, hρ⟩ : ∃ ρ, a'.eval = ρ := ⟨_, rfl⟩
                  have hcst : ∀ v, ρ (.const v) = v := fun v => (congrFun hρ (.const v)).symm
                  have l0 : ρ (.tmp 0) = .pointer (some ⟨S, 0, none⟩) := (congrFun hρ (.tmp 0)).symm.trans (HF.out.lo 0 rfl)
                  rw [if_pos (by simp [Region.wanted])]
                  unfold Oper.wp
                  rw [hρ]
                  clear hρ
                  have HW := Lib.hid hw
                  clear hw
                  go_simp
                  exact hK.out _ _ ⟨HVA.out.set (i := 2) (by rw [HVV.out]; rfl), by simp only [upd_ne (L := L) (show (1 : Nat) ≠ 2 by decide), upd_ne (L := L) (show (3 : Nat) ≠ 2 by decide), upd_ne (L := L) (show (5 : Nat) ≠ 2 by decide)]; exact HW.out⟩
                focus
                  obtain ⟨d2, _⟩ := hd
                  obtain ⟨ρ, hρ⟩ : ∃ ρ, a'.eval = ρ := ⟨_, rfl⟩
                  have hcst : ∀ v, ρ (.const v) = v := fun v => (congrFun hρ (.const v)).symm
                  have hfun : ∀ k, ρ (.func k) = .func (.func k) #[] #[] := fun k => (congrFun hρ (.func k)).symm
                  have v2 : ρ (.tmp 36) = .pointer (some ⟨S, 0, none⟩) := (congrFun hρ (.tmp 36)).symm.trans ((HF.out.ev 2 rfl d2).trans (HVA.out 2 _ (by rw [HVV.out]; rfl) d2))
                  rw [if_pos (by simp [Region.wanted])]
                  unfold Oper.wp
                  rw [hρ]
                  clear hρ
                  rcases hw with ⟨hc, hs, hw⟩ | ⟨hc, hs, hg, hp⟩ | ⟨hs, g1, g3, w5, ⟨hg, hp⟩, hw⟩
                  rotate_left
                  focus
                    rw [HLI.out] at hc
                    cases hc
                  focus
                    rw [HLI.out] at g3
                    cases g3
                  subst hw
                  go_simp
                  go_at_call 57
                  refine (name_any' S B w2.drew stop r va x' (HP2.out.drew hB) hB).mono ?_
                  rintro e w5 ⟨hg5, h5⟩
                  rw [HNE.out] at h5
                  simp only at h5
                  obtain ⟨rfl, hp5⟩ := h5
                  exact hK.out _ _ ⟨HVA.out.set (i := 3) (by rw [HVV.out]; rfl), .inr (.inl ⟨upd_self _ _, ((upd_ne (L := L) (show (5 : Nat) ≠ 3 by decide)).trans hs), hg5, hp5⟩)⟩
                focus
                  obtain ⟨d1, d0, _, d2, d3, _⟩ := hd
                  obtain ⟨ρ, hρ⟩ : ∃ ρ, a'.eval = ρ := ⟨_, rfl⟩
                  have hcst : ∀ v, ρ (.const v) = v := fun v => (congrFun hρ (.const v)).symm
                  have v1 : ρ (.tmp 35) = .pointer (some ⟨S, 5, none⟩) := (congrFun hρ (.tmp 35)).symm.trans ((HF.out.ev 1 rfl d1).trans (HVA.out 1 _ (by rw [HVV.out]; rfl) d1))
                  rw [if_pos (by simp [Region.wanted])]
                  unfold Oper.wp
                  rw [hρ]
                  clear hρ
                  have HW := Lib.hid hw
                  clear hw
                  go_simp
                  exact hK.out _ _ ⟨HVA.out.set (i := 4) (by rw [HVV.out]; rfl), by simp only [upd_ne (L := L) (show (1 : Nat) ≠ 4 by decide), upd_ne (L := L) (show (3 : Nat) ≠ 4 by decide), upd_ne (L := L) (show (5 : Nat) ≠ 4 by decide)]; exact HW.out⟩
                focus
                  obtain ⟨d4, d3, _, d0, d1, d2, _, _⟩ := hd
                  obtain ⟨ρ, hρ⟩ : ∃ ρ, a'.eval = ρ := ⟨_, rfl⟩
                  have hcst : ∀ v, ρ (.const v) = v := fun v => (congrFun hρ (.const v)).symm
                  have v4 : ρ (.tmp 38) = .pointer (some ⟨S, 5, none⟩) := (congrFun hρ (.tmp 38)).symm.trans ((HF.out.ev 4 rfl d4).trans (HVA.out 4 _ (by rw [HVV.out]; rfl) d4))
                  have v3 : ρ (.tmp 37) = strV s := (congrFun hρ (.tmp 37)).symm.trans ((HF.out.ev 3 rfl d3).trans (HVA.out 3 _ (by rw [HVV.out]; rfl) d3))
                  rw [if_pos (by simp [Region.wanted])]
                  unfold Oper.wp
                  rw [hρ]
                  clear hρ
                  rcases hw with ⟨hc, hs, hw⟩ | ⟨hc, hs, hg, hp⟩ | ⟨hs, g1, g3, w5, ⟨hg, hp⟩, hw⟩
                  focus
                    rw [hc] at d3
                    cases d3
                  rotate_left
                  focus
                    rw [HLI.out] at hs
                    cases hs
                  have HGG := Lib.hid hg
                  have HPP := Lib.hid hp
                  obtain ⟨hcs, hfs⟩ := hp.cells 5 (by decide)
                  obtain ⟨vc, hvc⟩ := Option.isSome_iff_exists.1 hcs
                  clear hg hp hcs
                  go_simp
                  exact hK.out _ _ ⟨HVA.out.free (i := 5) (by rw [HVV.out]; rfl) undef, .inr (.inr ⟨upd_self _ _, ((upd_ne (L := L) (show (1 : Nat) ≠ 5 by decide)).trans d1), ((upd_ne (L := L) (show (3 : Nat) ≠ 5 by decide)).trans d3), w', ⟨HGG.out, HPP.out⟩, rfl⟩)⟩
              focus
                intro L w' xs hL hJ
                obtain ⟨hv, hw⟩ := hJ
                have e0 : xs 0 = .pointer (some ⟨b3, 1, none⟩) := hv 0 _ (by rw [HVV.out]; rfl) (hL 0 (by decide))
                have e1 : xs 1 = .pointer (some ⟨S, 5, none⟩) := hv 1 _ (by rw [HVV.out]; rfl) (hL 1 (by decide))
                have e2 : xs 2 = .pointer (some ⟨S, 0, none⟩) := hv 2 _ (by rw [HVV.out]; rfl) (hL 2 (by decide))
                have e3 : xs 3 = strV s := hv 3 _ (by rw [HVV.out]; rfl) (hL 3 (by decide))
                have e4 : xs 4 = .pointer (some ⟨S, 5, none⟩) := hv 4 _ (by rw [HVV.out]; rfl) (hL 4 (by decide))
                simp only [putGo, Act.put, List.setIfInBounds_toArray, List.set_cons_zero, List.set_cons_succ, e0, e1, e2, e3, e4]
                clear hv e0 e1 e2 e3 e4
                rcases hw with ⟨hc, _⟩ | ⟨_, hs, _⟩ | ⟨_, _, _, w5, ⟨hg, hp⟩, hw⟩
                · rw [hL 3 (by decide)] at hc; cases hc
                · rw [hL 5 (by decide)] at hs; cases hs
                rw [hw]
                have HP6 := Lib.hid (hp.setS hB (show 3 < 4 by decide) s)
                have HG6 := Lib.hid (((HG2.out.trans' (grown_ext (Below.refl _ w2).drew)).trans' hg).trans' (grown_setCell w5 ⟨S, 5, none⟩ (strV s)))
                have HL6 := Lib.hid (((HL2.out.drewL).grown hg (fun e => hbLS (Option.some.inj e))).grown (grown_setCell w5 ⟨S, 5, none⟩ (strV s)) (fun e => hbLS (Option.some.inj e)))
                clear hw hg hp hL
                go_wp2_with fail
                go_roundw
                case rel => exact ⟨4, _, _, by omega, by go_num, HP6.out, HEE.out, HL6.out, HG6.out⟩
                case measure => simp [intOf]
      obtain rfl : k = 4 := by omega
      go_wp2
      first | go_end0 | refine bodyPost_ret (results_none rfl _ _ _) rfl ?_
      refine ⟨HG.out, ?_⟩
      unfold pWho
      rw [HE.out]
      exact ⟨rfl, HP.out⟩

set_option maxHeartbeats 8000000 in
set_option maxRecDepth 100000 in
theorem when_any (S B : Nat) (w : World) (stop : Int) (l : List Tok) (va : Value) (x : WishD) (hS : Par S B w stop l va x) (hB : B ≤ S) :
    Calls Tryd.prog 39 #[.pointer (some ⟨S, 0, none⟩)] w (PartPost S B w stop va (pWhen x l)) := by
  have HS := Lib.hid hS
  have hlt := hS.lt
  obtain ⟨bL, hbL⟩ : ∃ b, w.heap.size = b := ⟨_, rfl⟩
  obtain ⟨WL, hWL⟩ : ∃ W, (w.alloc (.cells #[strV wAfter, .pointer (some ⟨S, 6, none⟩), .int .i64 clockM, strV wBy, .pointer (some ⟨S, 7, none⟩), .int .i64 clockM, strV wCrowd, .pointer (some ⟨S, 8, none⟩), .int .i64 crowdM] 98)).drew = W := ⟨_, rfl⟩
  have HBL : Hid (Below w.heap.size w WL) := Lib.hid (by rw [← hWL]; exact below_drewL (box_below' w _))
  have HCL : Hid (CellsN WL bL #[strV wAfter, .pointer (some ⟨S, 6, none⟩), .int .i64 clockM, strV wBy, .pointer (some ⟨S, 7, none⟩), .int .i64 clockM, strV wCrowd, .pointer (some ⟨S, 8, none⟩), .int .i64 crowdM]) := Lib.hid (by rw [← hWL, ← hbL]; exact (CellsN.new _ _ _).drewL)
  have HSL := Lib.hid (hS.below HBL.out hB)
  have HEL := Lib.hid hbL
  have HWL := Lib.hid hWL
  clear hS hWL
  go_enter Tryd.func39, Tryd.ntmps39
  go_upto_region 0 with fail
  obtain ⟨V, hV⟩ : ∃ V : List (Option Value), V = [some (.pointer (some ⟨S, 0, none⟩)), some (.pointer (some ⟨S, 0, none⟩)), some (.pointer (some ⟨S, 2, none⟩)), some (.pointer (some ⟨S, 6, none⟩)), some (.agg #[strV wAfter, .pointer (some ⟨S, 6, none⟩), .int .i64 clockM]), some (.pointer (some ⟨S, 0, none⟩)), some (.pointer (some ⟨S, 0, none⟩)), some (.pointer (some ⟨S, 2, none⟩)), some (.pointer (some ⟨S, 7, none⟩)), some (.agg #[strV wBy, .pointer (some ⟨S, 7, none⟩), .int .i64 clockM]), some (.pointer (some ⟨S, 0, none⟩)), some (.pointer (some ⟨S, 0, none⟩)), some (.pointer (some ⟨S, 2, none⟩)), some (.pointer (some ⟨S, 8, none⟩)), some (.agg #[strV wCrowd, .pointer (some ⟨S, 8, none⟩), .int .i64 crowdM]), some (.slice (some ⟨bL, 0, none⟩) 3 3), some (.int .i64 3), some (.int .i64 0)] := ⟨_, rfl⟩
  have HVV := Lib.hid hV
  clear hV
  refine wp_region_V [some 4, some 5, some 6, some 7, some 8, some 9, some 10, some 11, some 12, some 13, some 14, some 15, some 16, some 17, some 18, some 19, some 20, some 21] (fun L w' xs => ValsAt V L xs ∧ ((L 15 = false ∧ w' = w.drew) ∨ (L 15 = true ∧ w' = WL))) (by kernel_rfl) (by kernel_rfl) (by rfl) (by rfl) (by rfl) ?_ ?_ ?_
  focus
    exact fun xs => ⟨ValsAt.none _ _, Or.inl ⟨rfl, rfl⟩⟩
  focus
    refine ⟨?_, ?_, ?_, ?_, ?_, ?_, ?_, ?_, ?_, ?_, ?_, ?_, ?_, ?_, ?_, ?_, ?_, ?_, trivial⟩
    all_goals
      intro L a' w' xs hi hd hf hJ K hK
      obtain ⟨hv, hw⟩ := hJ
      have HF := Lib.hid hf
      have HVA := Lib.hid hv
      have HLI := Lib.hid hi
      clear hf hv hi
    focus
      clear hd
      obtain ⟨ρ, hρ⟩ : ∃ ρ, a'.eval = ρ := ⟨_, rfl⟩
      have hcst : ∀ v, ρ (.const v) = v := fun v => (congrFun hρ (.const v)).symm
      have l0 : ρ (.tmp 0) = .pointer (some ⟨S, 0, none⟩) := (congrFun hρ (.tmp 0)).symm.trans (HF.out.lo 0 rfl)
      rw [if_pos (by simp [Region.wanted])]
      unfold Oper.wp
      rw [hρ]
      clear hρ
      have HW := Lib.hid hw
      clear hw
      go_simp
      exact hK.out _ _ ⟨HVA.out.set (i := 0) (by rw [HVV.out]; rfl), by simp only [upd_ne (L := L) (show (15 : Nat) ≠ 0 by decide)]; exact HW.out⟩
    focus
      obtain ⟨d0, _⟩ := hd
      obtain ⟨ρ, hρ⟩ : ∃ ρ, a'.eval = ρ := ⟨_, rfl⟩
      have hcst : ∀ v, ρ (.const v) = v := fun v => (congrFun hρ (.const v)).symm
      have v0 : ρ (.tmp 4) = .pointer (some ⟨S, 0, none⟩) := (congrFun hρ (.tmp 4)).symm.trans ((HF.out.ev 0 rfl d0).trans (HVA.out 0 _ (by rw [HVV.out]; rfl) d0))
      rw [if_pos (by simp [Region.wanted])]
      unfold Oper.wp
      rw [hρ]
      clear hρ
      have HW := Lib.hid hw
      clear hw
      go_simp
      exact hK.out _ _ ⟨HVA.out.set (i := 1) (by rw [HVV.out]; rfl), by simp only [upd_ne (L := L) (show (15 : Nat) ≠ 1 by decide)]; exact HW.out⟩
    focus
      obtain ⟨d1, _⟩ := hd
      obtain ⟨ρ, hρ⟩ : ∃ ρ, a'.eval = ρ := ⟨_, rfl⟩
      have hcst : ∀ v, ρ (.const v) = v := fun v => (congrFun hρ (.const v)).symm
      have v1 : ρ (.tmp 5) = .pointer (some ⟨S, 0, none⟩) := (congrFun hρ (.tmp 5)).symm.trans ((HF.out.ev 1 rfl d1).trans (HVA.out 1 _ (by rw [HVV.out]; rfl) d1))
      rw [if_pos (by simp [Region.wanted])]
      unfold Oper.wp
      rw [hρ]
      clear hρ
      have HW := Lib.hid hw
      clear hw
      go_simp
      exact hK.out _ _ ⟨HVA.out.set (i := 2) (by rw [HVV.out]; rfl), by simp only [upd_ne (L := L) (show (15 : Nat) ≠ 2 by decide)]; exact HW.out⟩
    focus
      obtain ⟨d2, _⟩ := hd
      obtain ⟨ρ, hρ⟩ : ∃ ρ, a'.eval = ρ := ⟨_, rfl⟩
      have hcst : ∀ v, ρ (.const v) = v := fun v => (congrFun hρ (.const v)).symm
      have v2 : ρ (.tmp 6) = .pointer (some ⟨S, 2, none⟩) := (congrFun hρ (.tmp 6)).symm.trans ((HF.out.ev 2 rfl d2).trans (HVA.out 2 _ (by rw [HVV.out]; rfl) d2))
      rw [if_pos (by simp [Region.wanted])]
      unfold Oper.wp
      rw [hρ]
      clear hρ
      have HW := Lib.hid hw
      clear hw
      go_simp
      exact hK.out _ _ ⟨HVA.out.set (i := 3) (by rw [HVV.out]; rfl), by simp only [upd_ne (L := L) (show (15 : Nat) ≠ 3 by decide)]; exact HW.out⟩
    focus
      obtain ⟨d3, _⟩ := hd
      obtain ⟨ρ, hρ⟩ : ∃ ρ, a'.eval = ρ := ⟨_, rfl⟩
      have hcst : ∀ v, ρ (.const v) = v := fun v => (congrFun hρ (.const v)).symm
      have v3 : ρ (.tmp 7) = .pointer (some ⟨S, 6, none⟩) := (congrFun hρ (.tmp 7)).symm.trans ((HF.out.ev 3 rfl d3).trans (HVA.out 3 _ (by rw [HVV.out]; rfl) d3))
      rw [if_pos (by simp [Region.wanted])]
      unfold Oper.wp
      rw [hρ]
      clear hρ
      have HW := Lib.hid hw
      clear hw
      go_simp
      exact hK.out _ _ ⟨HVA.out.set (i := 4) (by rw [HVV.out]; rfl), by simp only [upd_ne (L := L) (show (15 : Nat) ≠ 4 by decide)]; exact HW.out⟩
    focus
      clear hd
      obtain ⟨ρ, hρ⟩ : ∃ ρ, a'.eval = ρ := ⟨_, rfl⟩
      have hcst : ∀ v, ρ (.const v) = v := fun v => (congrFun hρ (.const v)).symm
      have l0 : ρ (.tmp 0) = .pointer (some ⟨S, 0, none⟩) := (congrFun hρ (.tmp 0)).symm.trans (HF.out.lo 0 rfl)
      rw [if_pos (by simp [Region.wanted])]
      unfold Oper.wp
      rw [hρ]
      clear hρ
      have HW := Lib.hid hw
      clear hw
      go_simp
      exact hK.out _ _ ⟨HVA.out.set (i := 5) (by rw [HVV.out]; rfl), by simp only [upd_ne (L := L) (show (15 : Nat) ≠ 5 by decide)]; exact HW.out⟩
    focus
      obtain ⟨d5, _⟩ := hd
      obtain ⟨ρ, hρ⟩ : ∃ ρ, a'.eval = ρ := ⟨_, rfl⟩
      have hcst : ∀ v, ρ (.const v) = v := fun v => (congrFun hρ (.const v)).symm
      have v5 : ρ (.tmp 9) = .pointer (some ⟨S, 0, none⟩) := (congrFun hρ (.tmp 9)).symm.trans ((HF.out.ev 5 rfl d5).trans (HVA.out 5 _ (by rw [HVV.out]; rfl) d5))
      rw [if_pos (by simp [Region.wanted])]
      unfold Oper.wp
      rw [hρ]
      clear hρ
      have HW := Lib.hid hw
      clear hw
      go_simp
      exact hK.out _ _ ⟨HVA.out.set (i := 6) (by rw [HVV.out]; rfl), by simp only [upd_ne (L := L) (show (15 : Nat) ≠ 6 by decide)]; exact HW.out⟩
    focus
      obtain ⟨d6, _⟩ := hd
      obtain ⟨ρ, hρ⟩ : ∃ ρ, a'.eval = ρ := ⟨_, rfl⟩
      have hcst : ∀ v, ρ (.const v) = v := fun v => (congrFun hρ (.const v)).symm
      have v6 : ρ (.tmp 10) = .pointer (some ⟨S, 0, none⟩) := (congrFun hρ (.tmp 10)).symm.trans ((HF.out.ev 6 rfl d6).trans (HVA.out 6 _ (by rw [HVV.out]; rfl) d6))
      rw [if_pos (by simp [Region.wanted])]
      unfold Oper.wp
      rw [hρ]
      clear hρ
      have HW := Lib.hid hw
      clear hw
      go_simp
      exact hK.out _ _ ⟨HVA.out.set (i := 7) (by rw [HVV.out]; rfl), by simp only [upd_ne (L := L) (show (15 : Nat) ≠ 7 by decide)]; exact HW.out⟩
    focus
      obtain ⟨d7, _⟩ := hd
      obtain ⟨ρ, hρ⟩ : ∃ ρ, a'.eval = ρ := ⟨_, rfl⟩
      have hcst : ∀ v, ρ (.const v) = v := fun v => (congrFun hρ (.const v)).symm
      have v7 : ρ (.tmp 11) = .pointer (some ⟨S, 2, none⟩) := (congrFun hρ (.tmp 11)).symm.trans ((HF.out.ev 7 rfl d7).trans (HVA.out 7 _ (by rw [HVV.out]; rfl) d7))
      rw [if_pos (by simp [Region.wanted])]
      unfold Oper.wp
      rw [hρ]
      clear hρ
      have HW := Lib.hid hw
      clear hw
      go_simp
      exact hK.out _ _ ⟨HVA.out.set (i := 8) (by rw [HVV.out]; rfl), by simp only [upd_ne (L := L) (show (15 : Nat) ≠ 8 by decide)]; exact HW.out⟩
    focus
      obtain ⟨d8, _⟩ := hd
      obtain ⟨ρ, hρ⟩ : ∃ ρ, a'.eval = ρ := ⟨_, rfl⟩
      have hcst : ∀ v, ρ (.const v) = v := fun v => (congrFun hρ (.const v)).symm
      have v8 : ρ (.tmp 12) = .pointer (some ⟨S, 7, none⟩) := (congrFun hρ (.tmp 12)).symm.trans ((HF.out.ev 8 rfl d8).trans (HVA.out 8 _ (by rw [HVV.out]; rfl) d8))
      rw [if_pos (by simp [Region.wanted])]
      unfold Oper.wp
      rw [hρ]
      clear hρ
      have HW := Lib.hid hw
      clear hw
      go_simp
      exact hK.out _ _ ⟨HVA.out.set (i := 9) (by rw [HVV.out]; rfl), by simp only [upd_ne (L := L) (show (15 : Nat) ≠ 9 by decide)]; exact HW.out⟩
    focus
      clear hd
      obtain ⟨ρ, hρ⟩ : ∃ ρ, a'.eval = ρ := ⟨_, rfl⟩
      have hcst : ∀ v, ρ (.const v) = v := fun v => (congrFun hρ (.const v)).symm
      have l0 : ρ (.tmp 0) = .pointer (some ⟨S, 0, none⟩) := (congrFun hρ (.tmp 0)).symm.trans (HF.out.lo 0 rfl)
      rw [if_pos (by simp [Region.wanted])]
      unfold Oper.wp
      rw [hρ]
      clear hρ
      have HW := Lib.hid hw
      clear hw
      go_simp
      exact hK.out _ _ ⟨HVA.out.set (i := 10) (by rw [HVV.out]; rfl), by simp only [upd_ne (L := L) (show (15 : Nat) ≠ 10 by decide)]; exact HW.out⟩
    focus
      obtain ⟨d10, _⟩ := hd
      obtain ⟨ρ, hρ⟩ : ∃ ρ, a'.eval = ρ := ⟨_, rfl⟩
      have hcst : ∀ v, ρ (.const v) = v := fun v => (congrFun hρ (.const v)).symm
      have v10 : ρ (.tmp 14) = .pointer (some ⟨S, 0, none⟩) := (congrFun hρ (.tmp 14)).symm.trans ((HF.out.ev 10 rfl d10).trans (HVA.out 10 _ (by rw [HVV.out]; rfl) d10))
      rw [if_pos (by simp [Region.wanted])]
      unfold Oper.wp
      rw [hρ]
      clear hρ
      have HW := Lib.hid hw
      clear hw
      go_simp
      exact hK.out _ _ ⟨HVA.out.set (i := 11) (by rw [HVV.out]; rfl), by simp only [upd_ne (L := L) (show (15 : Nat) ≠ 11 by decide)]; exact HW.out⟩
    focus
      obtain ⟨d11, _⟩ := hd
      obtain ⟨ρ, hρ⟩ : ∃ ρ, a'.eval = ρ := ⟨_, rfl⟩
      have hcst : ∀ v, ρ (.const v) = v := fun v => (congrFun hρ (.const v)).symm
      have v11 : ρ (.tmp 15) = .pointer (some ⟨S, 0, none⟩) := (congrFun hρ (.tmp 15)).symm.trans ((HF.out.ev 11 rfl d11).trans (HVA.out 11 _ (by rw [HVV.out]; rfl) d11))
      rw [if_pos (by simp [Region.wanted])]
      unfold Oper.wp
      rw [hρ]
      clear hρ
      have HW := Lib.hid hw
      clear hw
      go_simp
      exact hK.out _ _ ⟨HVA.out.set (i := 12) (by rw [HVV.out]; rfl), by simp only [upd_ne (L := L) (show (15 : Nat) ≠ 12 by decide)]; exact HW.out⟩
    focus
      obtain ⟨d12, _⟩ := hd
      obtain ⟨ρ, hρ⟩ : ∃ ρ, a'.eval = ρ := ⟨_, rfl⟩
      have hcst : ∀ v, ρ (.const v) = v := fun v => (congrFun hρ (.const v)).symm
      have v12 : ρ (.tmp 16) = .pointer (some ⟨S, 2, none⟩) := (congrFun hρ (.tmp 16)).symm.trans ((HF.out.ev 12 rfl d12).trans (HVA.out 12 _ (by rw [HVV.out]; rfl) d12))
      rw [if_pos (by simp [Region.wanted])]
      unfold Oper.wp
      rw [hρ]
      clear hρ
      have HW := Lib.hid hw
      clear hw
      go_simp
      exact hK.out _ _ ⟨HVA.out.set (i := 13) (by rw [HVV.out]; rfl), by simp only [upd_ne (L := L) (show (15 : Nat) ≠ 13 by decide)]; exact HW.out⟩
    focus
      obtain ⟨d13, _⟩ := hd
      obtain ⟨ρ, hρ⟩ : ∃ ρ, a'.eval = ρ := ⟨_, rfl⟩
      have hcst : ∀ v, ρ (.const v) = v := fun v => (congrFun hρ (.const v)).symm
      have v13 : ρ (.tmp 17) = .pointer (some ⟨S, 8, none⟩) := (congrFun hρ (.tmp 17)).symm.trans ((HF.out.ev 13 rfl d13).trans (HVA.out 13 _ (by rw [HVV.out]; rfl) d13))
      rw [if_pos (by simp [Region.wanted])]
      unfold Oper.wp
      rw [hρ]
      clear hρ
      have HW := Lib.hid hw
      clear hw
      go_simp
      exact hK.out _ _ ⟨HVA.out.set (i := 14) (by rw [HVV.out]; rfl), by simp only [upd_ne (L := L) (show (15 : Nat) ≠ 14 by decide)]; exact HW.out⟩
    focus
      obtain ⟨d4, d9, d14, _⟩ := hd
      obtain ⟨ρ, hρ⟩ : ∃ ρ, a'.eval = ρ := ⟨_, rfl⟩
      have hcst : ∀ v, ρ (.const v) = v := fun v => (congrFun hρ (.const v)).symm
      have v4 : ρ (.tmp 8) = .agg #[strV wAfter, .pointer (some ⟨S, 6, none⟩), .int .i64 clockM] := (congrFun hρ (.tmp 8)).symm.trans ((HF.out.ev 4 rfl d4).trans (HVA.out 4 _ (by rw [HVV.out]; rfl) d4))
      have v9 : ρ (.tmp 13) = .agg #[strV wBy, .pointer (some ⟨S, 7, none⟩), .int .i64 clockM] := (congrFun hρ (.tmp 13)).symm.trans ((HF.out.ev 9 rfl d9).trans (HVA.out 9 _ (by rw [HVV.out]; rfl) d9))
      have v14 : ρ (.tmp 18) = .agg #[strV wCrowd, .pointer (some ⟨S, 8, none⟩), .int .i64 crowdM] := (congrFun hρ (.tmp 18)).symm.trans ((HF.out.ev 14 rfl d14).trans (HVA.out 14 _ (by rw [HVV.out]; rfl) d14))
      rw [if_pos (by simp [Region.wanted])]
      unfold Oper.wp
      rw [hρ]
      clear hρ
      rcases hw with ⟨h20, hw⟩ | ⟨h20, _⟩
      rotate_left
      focus
        rw [HLI.out] at h20
        cases h20
      subst hw
      have hbL' := HEL.out
      go_simp
      first | rw [hbL'] | skip
      rw [HWL.out]
      exact hK.out _ _ ⟨HVA.out.set (i := 15) (by rw [HVV.out]; rfl), .inr ⟨upd_self _ _, rfl⟩⟩
    focus
      obtain ⟨d15, _⟩ := hd
      obtain ⟨ρ, hρ⟩ : ∃ ρ, a'.eval = ρ := ⟨_, rfl⟩
      have hcst : ∀ v, ρ (.const v) = v := fun v => (congrFun hρ (.const v)).symm
      have v15 : ρ (.tmp 19) = .slice (some ⟨bL, 0, none⟩) 3 3 := (congrFun hρ (.tmp 19)).symm.trans ((HF.out.ev 15 rfl d15).trans (HVA.out 15 _ (by rw [HVV.out]; rfl) d15))
      rw [if_pos (by simp [Region.wanted])]
      unfold Oper.wp
      rw [hρ]
      clear hρ
      have HW := Lib.hid hw
      clear hw
      go_simp
      exact hK.out _ _ ⟨HVA.out.set (i := 16) (by rw [HVV.out]; rfl), by simp only [upd_ne (L := L) (show (15 : Nat) ≠ 16 by decide)]; exact HW.out⟩
    focus
      clear hd
      obtain ⟨ρ, hρ⟩ : ∃ ρ, a'.eval = ρ := ⟨_, rfl⟩
      have hcst : ∀ v, ρ (.const v) = v := fun v => (congrFun hρ (.const v)).symm
      rw [if_pos (by simp [Region.wanted])]
      unfold Oper.wp
      rw [hρ]
      clear hρ
      have HW := Lib.hid hw
      clear hw
      go_simp
      exact hK.out _ _ ⟨HVA.out.set (i := 17) (by rw [HVV.out]; rfl), by simp only [upd_ne (L := L) (show (15 : Nat) ≠ 17 by decide)]; exact HW.out⟩
  focus
    intro L w' xs hL hJ
    obtain ⟨hv, hw⟩ := hJ
    have e0 : xs 0 = .pointer (some ⟨S, 0, none⟩) := hv 0 _ (by rw [HVV.out]; rfl) (hL 0 (by decide))
    have e1 : xs 1 = .pointer (some ⟨S, 0, none⟩) := hv 1 _ (by rw [HVV.out]; rfl) (hL 1 (by decide))
    have e2 : xs 2 = .pointer (some ⟨S, 2, none⟩) := hv 2 _ (by rw [HVV.out]; rfl) (hL 2 (by decide))
    have e3 : xs 3 = .pointer (some ⟨S, 6, none⟩) := hv 3 _ (by rw [HVV.out]; rfl) (hL 3 (by decide))
    have e4 : xs 4 = .agg #[strV wAfter, .pointer (some ⟨S, 6, none⟩), .int .i64 clockM] := hv 4 _ (by rw [HVV.out]; rfl) (hL 4 (by decide))
    have e5 : xs 5 = .pointer (some ⟨S, 0, none⟩) := hv 5 _ (by rw [HVV.out]; rfl) (hL 5 (by decide))
    have e6 : xs 6 = .pointer (some ⟨S, 0, none⟩) := hv 6 _ (by rw [HVV.out]; rfl) (hL 6 (by decide))
    have e7 : xs 7 = .pointer (some ⟨S, 2, none⟩) := hv 7 _ (by rw [HVV.out]; rfl) (hL 7 (by decide))
    have e8 : xs 8 = .pointer (some ⟨S, 7, none⟩) := hv 8 _ (by rw [HVV.out]; rfl) (hL 8 (by decide))
    have e9 : xs 9 = .agg #[strV wBy, .pointer (some ⟨S, 7, none⟩), .int .i64 clockM] := hv 9 _ (by rw [HVV.out]; rfl) (hL 9 (by decide))
    have e10 : xs 10 = .pointer (some ⟨S, 0, none⟩) := hv 10 _ (by rw [HVV.out]; rfl) (hL 10 (by decide))
    have e11 : xs 11 = .pointer (some ⟨S, 0, none⟩) := hv 11 _ (by rw [HVV.out]; rfl) (hL 11 (by decide))
    have e12 : xs 12 = .pointer (some ⟨S, 2, none⟩) := hv 12 _ (by rw [HVV.out]; rfl) (hL 12 (by decide))
    have e13 : xs 13 = .pointer (some ⟨S, 8, none⟩) := hv 13 _ (by rw [HVV.out]; rfl) (hL 13 (by decide))
    have e14 : xs 14 = .agg #[strV wCrowd, .pointer (some ⟨S, 8, none⟩), .int .i64 crowdM] := hv 14 _ (by rw [HVV.out]; rfl) (hL 14 (by decide))
    have e15 : xs 15 = .slice (some ⟨bL, 0, none⟩) 3 3 := hv 15 _ (by rw [HVV.out]; rfl) (hL 15 (by decide))
    have e16 : xs 16 = .int .i64 3 := hv 16 _ (by rw [HVV.out]; rfl) (hL 16 (by decide))
    have e17 : xs 17 = .int .i64 0 := hv 17 _ (by rw [HVV.out]; rfl) (hL 17 (by decide))
    simp only [putGo, Act.put, List.setIfInBounds_toArray, List.set_cons_zero, List.set_cons_succ, e0, e1, e2, e3, e4, e5, e6, e7, e8, e9, e10, e11, e12, e13, e14, e15, e16, e17]
    clear hv e0 e1 e2 e3 e4 e5 e6 e7 e8 e9 e10 e11 e12 e13 e14 e15 e16 e17
    rcases hw with ⟨h20, _⟩ | ⟨_, hw⟩
    · rw [hL 15 (by decide)] at h20; cases h20
    rw [hw]
    clear hw hL
    go_wp2_with fail
    go_loopw [21] (fun kv wr => ∃ (k : Nat) (x' : WishD) (l' : List Tok), k ≤ 3 ∧ kv = .int .i64 k ∧ Par S B wr stop l' va x' ∧ whenF 3 0 x l = whenF (3 - k) k x' l' ∧ CellsN wr bL #[strV wAfter, .pointer (some ⟨S, 6, none⟩), .int .i64 clockM, strV wBy, .pointer (some ⟨S, 7, none⟩), .int .i64 clockM, strV wCrowd, .pointer (some ⟨S, 8, none⟩), .int .i64 crowdM] ∧ w.grownBy wr (some S)) (fun kv _ => 3 - (intOf kv).toNat)
    case atStart => exact ⟨0, x, l, by omega, rfl, HSL.out, rfl, HCL.out, grown_ext HBL.out⟩
    case round =>
      obtain ⟨k, x', l', hk, rfl, hp, he, hc, hg⟩ := hrel
      have HP := Lib.hid hp
      have HE := Lib.hid he
      have HC := Lib.hid hc
      have HG := Lib.hid hg
      clear hp he hc hg
      by_cases hk4 : k < 3
      focus
        rcases (show k = 0 ∨ k = 1 ∨ k = 2 by omega) with rfl | rfl | rfl
        focus
          have c0 := HC.out.cell 0
          have c1 := HC.out.cell 1
          have c2 := HC.out.cell 2
          simp at c0 c1 c2
          go_upto_region 3 with fail
          obtain ⟨b3, hb3⟩ : ∃ b, wr.heap.size = b := ⟨_, rfl⟩
          obtain ⟨W1, hW1⟩ : ∃ W, wr.alloc (.cells #[strV wAfter, .pointer (some ⟨S, 6, none⟩), .int .i64 clockM] 98) = W := ⟨_, rfl⟩
          have HB1 : Hid (Below wr.heap.size wr W1) := Lib.hid (by rw [← hW1]; exact box_below' wr _)
          have HC1 : Hid (CellsN W1 b3 #[strV wAfter, .pointer (some ⟨S, 6, none⟩), .int .i64 clockM]) := Lib.hid (by rw [← hW1, ← hb3]; exact CellsN.new _ _ _)
          have HP1 := Lib.hid (HP.out.below HB1.out hB)
          have hb3S : b3 ≠ S := by have := HP.out.lt; omega
          have hbLS : bL ≠ S := by have := HEL.out; omega
          rw [hW1]
          try rw [hb3]
          have m0 := HC1.out.cell 0
          simp at m0
          clear hb3 hW1 c0 c1 c2
          go_wp2_with fail
          clear m0
          refine (want_any S B W1 stop l' va x' wAfter HP1.out hB).mono ?_
          rintro e w2 ⟨hg2, h⟩
          have HG2 : Hid (w.grownBy w2 (some S)) := Lib.hid ((HG.out.trans' (grown_ext HB1.out)).trans' hg2)
          have HC2 := Lib.hid (HC1.out.grown hg2 (fun e => hb3S (Option.some.inj e)))
          have HL2 := Lib.hid ((HC.out.ext HB1.out).grown hg2 (fun e => hbLS (Option.some.inj e)))
          clear hg2
          cases hk : pTake wAfter l' with
          | none =>
            rw [hk] at h
            simp only at h
            subst h
            have HEE : Hid (whenF 3 0 x l = .error l') := Lib.hid (by rw [HE.out]; show whenF (2 + 1) 0 x' l' = _; rw [whenF_succ, show pWM (whenW 0) (whenM 0) l' = _ from wm_none hk])
            clear hk
            go_wp2
            exact ⟨rfl, HG2.out, by unfold pWhen; rw [HEE.out]⟩
          | some r =>
            rw [hk] at h
            simp only at h
            obtain ⟨rfl, hp2⟩ := h
            have HP2 := Lib.hid hp2
            have HEE : Hid (whenF 3 0 x l = match pNum clockM r with
              | .error e => .error e
              | .ok (s, r) => whenF 2 (0 + 1) (setN 0 x' s) r) := Lib.hid (by rw [HE.out]; show whenF (2 + 1) 0 x' l' = _; rw [whenF_succ, show pWM (whenW 0) (whenM 0) l' = _ from wm_some hk]; try rfl)
            clear hk hp2
            have m1 := HC2.out.cell 1
            simp at m1
            go_upto_region 4 with fail
            cases hn : pNum clockM r with
            | error r' =>
              have HNE := Lib.hid hn
              rw [hn] at HEE
              simp only at HEE
              clear hn
              obtain ⟨V, hV⟩ : ∃ V : List (Option Value), V = [some (.pointer (some ⟨b3, 1, none⟩)), some (.pointer (some ⟨S, 6, none⟩)), some (.pointer (some ⟨S, 0, none⟩)), some (.pointer (some ⟨b3, 2, none⟩)), some (.int .i64 clockM), none, some (.pointer (some ⟨S, 6, none⟩)), none] := ⟨_, rfl⟩
              have HVV := Lib.hid hV
              clear hV
              refine wp_region_V [some 29, some 30, some 31, some 32, some 33, some 34, some 35, none] (fun L w' xs => ValsAt V L xs ∧ (L 5 = false ∧ w' = w2.drew)) (by kernel_rfl) (by kernel_rfl) (by rfl) (by rfl) (by rfl) ?_ ?_ ?_
              focus
                exact fun xs => ⟨ValsAt.none _ _, rfl, rfl⟩
              focus
                refine ⟨?_, ?_, ?_, ?_, ?_, ?_, ?_, ?_, trivial⟩
                all_goals
                  intro L a' w' xs hi hd hf hJ K hK
                  obtain ⟨hv, hl, hw⟩ := hJ
                  have HF := Lib.hid hf
                  have HVA := Lib.hid hv
                  have HLI := Lib.hid hi
                  clear hf hv hi
                focus
                  clear hd
                  obtain ⟨ρ, hρ⟩ : ∃ ρ, a'.eval = ρ := ⟨_, rfl⟩
                  have hcst : ∀ v, ρ (.const v) = v := fun v => (congrFun hρ (.const v)).symm
                  have l3 : ρ (.tmp 3) = .pointer (some ⟨b3, 0, none⟩) := (congrFun hρ (.tmp 3)).symm.trans (HF.out.lo 3 rfl)
                  rw [if_pos (by simp [Region.wanted])]
                  unfold Oper.wp
                  rw [hρ]
                  clear hρ
                  subst hw
                  go_simp
                  exact hK.out _ _ ⟨HVA.out.set (i := 0) (by rw [HVV.out]; rfl), (upd_ne (L := L) (show (5 : Nat) ≠ 0 by decide)).trans hl, rfl⟩
                focus
                  obtain ⟨d0, _⟩ := hd
                  obtain ⟨ρ, hρ⟩ : ∃ ρ, a'.eval = ρ := ⟨_, rfl⟩
                  have hcst : ∀ v, ρ (.const v) = v := fun v => (congrFun hρ (.const v)).symm
                  have v0 : ρ (.tmp 29) = .pointer (some ⟨b3, 1, none⟩) := (congrFun hρ (.tmp 29)).symm.trans ((HF.out.ev 0 rfl d0).trans (HVA.out 0 _ (by rw [HVV.out]; rfl) d0))
                  rw [if_pos (by simp [Region.wanted])]
                  unfold Oper.wp
                  rw [hρ]
                  clear hρ
                  subst hw
                  have m1 := (HC2.out.drewL).cell 1
                  simp at m1
                  go_simp
                  exact hK.out _ _ ⟨HVA.out.set (i := 1) (by rw [HVV.out]; rfl), (upd_ne (L := L) (show (5 : Nat) ≠ 1 by decide)).trans hl, rfl⟩
                focus
                  clear hd
                  obtain ⟨ρ, hρ⟩ : ∃ ρ, a'.eval = ρ := ⟨_, rfl⟩
                  have hcst : ∀ v, ρ (.const v) = v := fun v => (congrFun hρ (.const v)).symm
                  have l0 : ρ (.tmp 0) = .pointer (some ⟨S, 0, none⟩) := (congrFun hρ (.tmp 0)).symm.trans (HF.out.lo 0 rfl)
                  rw [if_pos (by simp [Region.wanted])]
                  unfold Oper.wp
                  rw [hρ]
                  clear hρ
                  subst hw
                  go_simp
                  exact hK.out _ _ ⟨HVA.out.set (i := 2) (by rw [HVV.out]; rfl), (upd_ne (L := L) (show (5 : Nat) ≠ 2 by decide)).trans hl, rfl⟩
                focus
                  clear hd
                  obtain ⟨ρ, hρ⟩ : ∃ ρ, a'.eval = ρ := ⟨_, rfl⟩
                  have hcst : ∀ v, ρ (.const v) = v := fun v => (congrFun hρ (.const v)).symm
                  have l3 : ρ (.tmp 3) = .pointer (some ⟨b3, 0, none⟩) := (congrFun hρ (.tmp 3)).symm.trans (HF.out.lo 3 rfl)
                  rw [if_pos (by simp [Region.wanted])]
                  unfold Oper.wp
                  rw [hρ]
                  clear hρ
                  subst hw
                  go_simp
                  exact hK.out _ _ ⟨HVA.out.set (i := 3) (by rw [HVV.out]; rfl), (upd_ne (L := L) (show (5 : Nat) ≠ 3 by decide)).trans hl, rfl⟩
                focus
                  obtain ⟨d3, _⟩ := hd
                  obtain ⟨ρ, hρ⟩ : ∃ ρ, a'.eval = ρ := ⟨_, rfl⟩
                  have hcst : ∀ v, ρ (.const v) = v := fun v => (congrFun hρ (.const v)).symm
                  have v3 : ρ (.tmp 32) = .pointer (some ⟨b3, 2, none⟩) := (congrFun hρ (.tmp 32)).symm.trans ((HF.out.ev 3 rfl d3).trans (HVA.out 3 _ (by rw [HVV.out]; rfl) d3))
                  rw [if_pos (by simp [Region.wanted])]
                  unfold Oper.wp
                  rw [hρ]
                  clear hρ
                  subst hw
                  have m2 := (HC2.out.drewL).cell 2
                  simp at m2
                  go_simp
                  exact hK.out _ _ ⟨HVA.out.set (i := 4) (by rw [HVV.out]; rfl), (upd_ne (L := L) (show (5 : Nat) ≠ 4 by decide)).trans hl, rfl⟩
                focus
                  obtain ⟨d2, d4, _⟩ := hd
                  obtain ⟨ρ, hρ⟩ : ∃ ρ, a'.eval = ρ := ⟨_, rfl⟩
                  have hcst : ∀ v, ρ (.const v) = v := fun v => (congrFun hρ (.const v)).symm
                  have hfun : ∀ k, ρ (.func k) = .func (.func k) #[] #[] := fun k => (congrFun hρ (.func k)).symm
                  have v2 : ρ (.tmp 31) = .pointer (some ⟨S, 0, none⟩) := (congrFun hρ (.tmp 31)).symm.trans ((HF.out.ev 2 rfl d2).trans (HVA.out 2 _ (by rw [HVV.out]; rfl) d2))
                  have v4 : ρ (.tmp 33) = .int .i64 clockM := (congrFun hρ (.tmp 33)).symm.trans ((HF.out.ev 4 rfl d4).trans (HVA.out 4 _ (by rw [HVV.out]; rfl) d4))
                  rw [if_pos (by simp [Region.wanted])]
                  unfold Oper.wp
                  rw [hρ]
                  clear hρ
                  subst hw
                  go_simp
                  go_at_call 58
                  refine (number_any' S B w2.drew stop r va x' clockM (HP2.out.drew hB) hB).mono ?_
                  rintro e w5 ⟨hg5, h5⟩
                  rw [HNE.out] at h5
                  simp only at h5
                  subst h5
                  have HG5 := Lib.hid (HG2.out.trans' ((grown_ext (Below.refl _ w2).drew).trans' hg5))
                  clear hg5
                  go_simp
                  exact ⟨HF.out.defers, HG5.out, by unfold pWhen; rw [HEE.out]⟩
                focus
                  obtain ⟨d1, d0, _, d2, d3, d4, d5, _⟩ := hd
                  obtain ⟨ρ, hρ⟩ : ∃ ρ, a'.eval = ρ := ⟨_, rfl⟩
                  have hcst : ∀ v, ρ (.const v) = v := fun v => (congrFun hρ (.const v)).symm
                  have v1 : ρ (.tmp 30) = .pointer (some ⟨S, 6, none⟩) := (congrFun hρ (.tmp 30)).symm.trans ((HF.out.ev 1 rfl d1).trans (HVA.out 1 _ (by rw [HVV.out]; rfl) d1))
                  rw [if_pos (by simp [Region.wanted])]
                  unfold Oper.wp
                  rw [hρ]
                  clear hρ
                  rw [hl] at d5
                  cases d5
                focus
                  obtain ⟨d6, d5, _, d0, d1, d2, d3, d4, _, _⟩ := hd
                  obtain ⟨ρ, hρ⟩ : ∃ ρ, a'.eval = ρ := ⟨_, rfl⟩
                  have hcst : ∀ v, ρ (.const v) = v := fun v => (congrFun hρ (.const v)).symm
                  have v6 : ρ (.tmp 35) = .pointer (some ⟨S, 6, none⟩) := (congrFun hρ (.tmp 35)).symm.trans ((HF.out.ev 6 rfl d6).trans (HVA.out 6 _ (by rw [HVV.out]; rfl) d6))
                  have v5 : ρ (.tmp 34) = xs 5 := (congrFun hρ (.tmp 34)).symm.trans (HF.out.ev 5 rfl d5)
                  rw [if_pos (by simp [Region.wanted])]
                  unfold Oper.wp
                  rw [hρ]
                  clear hρ
                  rw [hl] at d5
                  cases d5
              focus
                intro L w' xs hL hJ
                obtain ⟨hv, hl, hw⟩ := hJ
                have e0 : xs 0 = .pointer (some ⟨b3, 1, none⟩) := hv 0 _ (by rw [HVV.out]; rfl) (hL 0 (by decide))
                have e1 : xs 1 = .pointer (some ⟨S, 6, none⟩) := hv 1 _ (by rw [HVV.out]; rfl) (hL 1 (by decide))
                have e2 : xs 2 = .pointer (some ⟨S, 0, none⟩) := hv 2 _ (by rw [HVV.out]; rfl) (hL 2 (by decide))
                have e3 : xs 3 = .pointer (some ⟨b3, 2, none⟩) := hv 3 _ (by rw [HVV.out]; rfl) (hL 3 (by decide))
                have e4 : xs 4 = .int .i64 clockM := hv 4 _ (by rw [HVV.out]; rfl) (hL 4 (by decide))
                have e6 : xs 6 = .pointer (some ⟨S, 6, none⟩) := hv 6 _ (by rw [HVV.out]; rfl) (hL 6 (by decide))
                simp only [putGo, Act.put, List.setIfInBounds_toArray, List.set_cons_zero, List.set_cons_succ, e0, e1, e2, e3, e4, e6]
                clear hv e0 e1 e2 e3 e4 e6
                rw [hL 5 (by decide)] at hl
                cases hl
            | ok v =>
              obtain ⟨s, r'⟩ := v
              have HNE := Lib.hid hn
              rw [hn] at HEE
              simp only at HEE
              clear hn
              obtain ⟨V, hV⟩ : ∃ V : List (Option Value), V = [some (.pointer (some ⟨b3, 1, none⟩)), some (.pointer (some ⟨S, 6, none⟩)), some (.pointer (some ⟨S, 0, none⟩)), some (.pointer (some ⟨b3, 2, none⟩)), some (.int .i64 clockM), some (.int .i64 s), some (.pointer (some ⟨S, 6, none⟩)), none] := ⟨_, rfl⟩
              have HVV := Lib.hid hV
              clear hV
              refine wp_region_V [some 29, some 30, some 31, some 32, some 33, some 34, some 35, none] (fun L w' xs => ValsAt V L xs ∧ ((L 5 = false ∧ L 7 = false ∧ w' = w2.drew) ∨ (L 5 = true ∧ L 7 = false ∧ w2.drew.grownBy w' (some S) ∧ Par S B w' stop r' va x') ∨ (L 7 = true ∧ L 1 = true ∧ L 4 = true ∧ L 5 = true ∧ ∃ w5, (w2.drew.grownBy w5 (some S) ∧ Par S B w5 stop r' va x') ∧ w' = w5.setCell ⟨S, 6, none⟩ (.int .i64 s)))) (by kernel_rfl) (by kernel_rfl) (by rfl) (by rfl) (by rfl) ?_ ?_ ?_
              focus
                exact fun xs => ⟨ValsAt.none _ _, Or.inl ⟨rfl, rfl, rfl⟩⟩
              focus
                refine ⟨?_, ?_, ?_, ?_, ?_, ?_, ?_, ?_, trivial⟩
                all_goals
                  intro L a' w' xs hi hd hf hJ K hK
                  obtain ⟨hv, hw⟩ := hJ
                  have HF := Lib.hid hf
                  have HVA := Lib.hid hv
                  have HLI := Lib.hid hi
                  clear hf hv hi
                focus
                  clear hd
                  obtain ⟨ρ, hρ⟩ : ∃ ρ, a'.eval = ρ := ⟨_, rfl⟩
                  have hcst : ∀ v, ρ (.const v) = v := fun v => (congrFun hρ (.const v)).symm
                  have l3 : ρ (.tmp 3) = .pointer (some ⟨b3, 0, none⟩) := (congrFun hρ (.tmp 3)).symm.trans (HF.out.lo 3 rfl)
                  rw [if_pos (by simp [Region.wanted])]
                  unfold Oper.wp
                  rw [hρ]
                  clear hρ
                  have HW := Lib.hid hw
                  clear hw
                  go_simp
                  exact hK.out _ _ ⟨HVA.out.set (i := 0) (by rw [HVV.out]; rfl), by simp only [upd_ne (L := L) (show (1 : Nat) ≠ 0 by decide), upd_ne (L := L) (show (4 : Nat) ≠ 0 by decide), upd_ne (L := L) (show (5 : Nat) ≠ 0 by decide), upd_ne (L := L) (show (7 : Nat) ≠ 0 by decide)]; exact HW.out⟩
                focus
                  obtain ⟨d0, _⟩ := hd
                  obtain ⟨ρ, hρ⟩ : ∃ ρ, a'.eval = ρ := ⟨_, rfl⟩
                  have hcst : ∀ v, ρ (.const v) = v := fun v => (congrFun hρ (.const v)).symm
                  have v0 : ρ (.tmp 29) = .pointer (some ⟨b3, 1, none⟩) := (congrFun hρ (.tmp 29)).symm.trans ((HF.out.ev 0 rfl d0).trans (HVA.out 0 _ (by rw [HVV.out]; rfl) d0))
                  rw [if_pos (by simp [Region.wanted])]
                  unfold Oper.wp
                  rw [hρ]
                  clear hρ
                  rcases hw with ⟨hc, hs, hw⟩ | ⟨hc, hs, hg, hp⟩ | ⟨hs, g1, g4, g5, w5, ⟨hg, hp⟩, hw⟩
                  focus
                    subst hw
                    have m1 := (HC2.out.drewL).cell 1
                    simp at m1
                    go_simp
                    exact hK.out _ _ ⟨HVA.out.set (i := 1) (by rw [HVV.out]; rfl), .inl ⟨((upd_ne (L := L) (show (5 : Nat) ≠ 1 by decide)).trans hc), ((upd_ne (L := L) (show (7 : Nat) ≠ 1 by decide)).trans hs), rfl⟩⟩
                  focus
                    have m1 := ((HC2.out.drewL).grown hg (fun e => hb3S (Option.some.inj e))).cell 1
                    simp at m1
                    have HGG := Lib.hid hg
                    have HPP := Lib.hid hp
                    clear hg hp
                    go_simp
                    exact hK.out _ _ ⟨HVA.out.set (i := 1) (by rw [HVV.out]; rfl), .inr (.inl ⟨((upd_ne (L := L) (show (5 : Nat) ≠ 1 by decide)).trans hc), ((upd_ne (L := L) (show (7 : Nat) ≠ 1 by decide)).trans hs), HGG.out, HPP.out⟩)⟩
                  focus
                    rw [HLI.out] at g1
                    cases g1
                focus
                  clear hd
                  obtain ⟨ρ, hρ⟩ : ∃ ρ, a'.eval = ρ := ⟨_, rfl⟩
                  have hcst : ∀ v, ρ (.const v) = v := fun v => (congrFun hρ (.const v)).symm
                  have l0 : ρ (.tmp 0) = .pointer (some ⟨S, 0, none⟩) := (congrFun hρ (.tmp 0)).symm.trans (HF.out.lo 0 rfl)
                  rw [if_pos (by simp [Region.wanted])]
                  unfold Oper.wp
                  rw [hρ]
                  clear hρ
                  have HW := Lib.hid hw
                  clear hw
                  go_simp
                  exact hK.out _ _ ⟨HVA.out.set (i := 2) (by rw [HVV.out]; rfl), by simp only [upd_ne (L := L) (show (1 : Nat) ≠ 2 by decide), upd_ne (L := L) (show (4 : Nat) ≠ 2 by decide), upd_ne (L := L) (show (5 : Nat) ≠ 2 by decide), upd_ne (L := L) (show (7 : Nat) ≠ 2 by decide)]; exact HW.out⟩
                focus
                  clear hd
                  obtain ⟨ρ, hρ⟩ : ∃ ρ, a'.eval = ρ := ⟨_, rfl⟩
                  have hcst : ∀ v, ρ (.const v) = v := fun v => (congrFun hρ (.const v)).symm
                  have l3 : ρ (.tmp 3) = .pointer (some ⟨b3, 0, none⟩) := (congrFun hρ (.tmp 3)).symm.trans (HF.out.lo 3 rfl)
                  rw [if_pos (by simp [Region.wanted])]
                  unfold Oper.wp
                  rw [hρ]
                  clear hρ
                  have HW := Lib.hid hw
                  clear hw
                  go_simp
                  exact hK.out _ _ ⟨HVA.out.set (i := 3) (by rw [HVV.out]; rfl), by simp only [upd_ne (L := L) (show (1 : Nat) ≠ 3 by decide), upd_ne (L := L) (show (4 : Nat) ≠ 3 by decide), upd_ne (L := L) (show (5 : Nat) ≠ 3 by decide), upd_ne (L := L) (show (7 : Nat) ≠ 3 by decide)]; exact HW.out⟩
                focus
                  obtain ⟨d3, _⟩ := hd
                  obtain ⟨ρ, hρ⟩ : ∃ ρ, a'.eval = ρ := ⟨_, rfl⟩
                  have hcst : ∀ v, ρ (.const v) = v := fun v => (congrFun hρ (.const v)).symm
                  have v3 : ρ (.tmp 32) = .pointer (some ⟨b3, 2, none⟩) := (congrFun hρ (.tmp 32)).symm.trans ((HF.out.ev 3 rfl d3).trans (HVA.out 3 _ (by rw [HVV.out]; rfl) d3))
                  rw [if_pos (by simp [Region.wanted])]
                  unfold Oper.wp
                  rw [hρ]
                  clear hρ
                  rcases hw with ⟨hc, hs, hw⟩ | ⟨hc, hs, hg, hp⟩ | ⟨hs, g1, g4, g5, w5, ⟨hg, hp⟩, hw⟩
                  focus
                    subst hw
                    have m2 := (HC2.out.drewL).cell 2
                    simp at m2
                    go_simp
                    exact hK.out _ _ ⟨HVA.out.set (i := 4) (by rw [HVV.out]; rfl), .inl ⟨((upd_ne (L := L) (show (5 : Nat) ≠ 4 by decide)).trans hc), ((upd_ne (L := L) (show (7 : Nat) ≠ 4 by decide)).trans hs), rfl⟩⟩
                  focus
                    have m2 := ((HC2.out.drewL).grown hg (fun e => hb3S (Option.some.inj e))).cell 2
                    simp at m2
                    have HGG := Lib.hid hg
                    have HPP := Lib.hid hp
                    clear hg hp
                    go_simp
                    exact hK.out _ _ ⟨HVA.out.set (i := 4) (by rw [HVV.out]; rfl), .inr (.inl ⟨((upd_ne (L := L) (show (5 : Nat) ≠ 4 by decide)).trans hc), ((upd_ne (L := L) (show (7 : Nat) ≠ 4 by decide)).trans hs), HGG.out, HPP.out⟩)⟩
                  focus
                    rw [HLI.out] at g4
                    cases g4
                focus
                  obtain ⟨d2, d4, _⟩ := hd
                  obtain ⟨ρ, hρ⟩ : ∃ ρ, a'.eval = ρ := ⟨_, rfl⟩
                  have hcst : ∀ v, ρ (.const v) = v := fun v => (congrFun hρ (.const v)).symm
                  have hfun : ∀ k, ρ (.func k) = .func (.func k) #[] #[] := fun k => (congrFun hρ (.func k)).symm
                  have v2 : ρ (.tmp 31) = .pointer (some ⟨S, 0, none⟩) := (congrFun hρ (.tmp 31)).symm.trans ((HF.out.ev 2 rfl d2).trans (HVA.out 2 _ (by rw [HVV.out]; rfl) d2))
                  have v4 : ρ (.tmp 33) = .int .i64 clockM := (congrFun hρ (.tmp 33)).symm.trans ((HF.out.ev 4 rfl d4).trans (HVA.out 4 _ (by rw [HVV.out]; rfl) d4))
                  rw [if_pos (by simp [Region.wanted])]
                  unfold Oper.wp
                  rw [hρ]
                  clear hρ
                  rcases hw with ⟨hc, hs, hw⟩ | ⟨hc, hs, hg, hp⟩ | ⟨hs, g1, g4, g5, w5, ⟨hg, hp⟩, hw⟩
                  rotate_left
                  focus
                    rw [HLI.out] at hc
                    cases hc
                  focus
                    rw [HLI.out] at g5
                    cases g5
                  subst hw
                  go_simp
                  go_at_call 58
                  refine (number_any' S B w2.drew stop r va x' clockM (HP2.out.drew hB) hB).mono ?_
                  rintro e w5 ⟨hg5, h5⟩
                  rw [HNE.out] at h5
                  simp only at h5
                  obtain ⟨rfl, hp5⟩ := h5
                  exact hK.out _ _ ⟨HVA.out.set (i := 5) (by rw [HVV.out]; rfl), .inr (.inl ⟨upd_self _ _, ((upd_ne (L := L) (show (7 : Nat) ≠ 5 by decide)).trans hs), hg5, hp5⟩)⟩
                focus
                  obtain ⟨d1, d0, _, d2, d3, d4, d5, _⟩ := hd
                  obtain ⟨ρ, hρ⟩ : ∃ ρ, a'.eval = ρ := ⟨_, rfl⟩
                  have hcst : ∀ v, ρ (.const v) = v := fun v => (congrFun hρ (.const v)).symm
                  have v1 : ρ (.tmp 30) = .pointer (some ⟨S, 6, none⟩) := (congrFun hρ (.tmp 30)).symm.trans ((HF.out.ev 1 rfl d1).trans (HVA.out 1 _ (by rw [HVV.out]; rfl) d1))
                  rw [if_pos (by simp [Region.wanted])]
                  unfold Oper.wp
                  rw [hρ]
                  clear hρ
                  have HW := Lib.hid hw
                  clear hw
                  go_simp
                  exact hK.out _ _ ⟨HVA.out.set (i := 6) (by rw [HVV.out]; rfl), by simp only [upd_ne (L := L) (show (1 : Nat) ≠ 6 by decide), upd_ne (L := L) (show (4 : Nat) ≠ 6 by decide), upd_ne (L := L) (show (5 : Nat) ≠ 6 by decide), upd_ne (L := L) (show (7 : Nat) ≠ 6 by decide)]; exact HW.out⟩
                focus
                  obtain ⟨d6, d5, _, d0, d1, d2, d3, d4, _, _⟩ := hd
                  obtain ⟨ρ, hρ⟩ : ∃ ρ, a'.eval = ρ := ⟨_, rfl⟩
                  have hcst : ∀ v, ρ (.const v) = v := fun v => (congrFun hρ (.const v)).symm
                  have v6 : ρ (.tmp 35) = .pointer (some ⟨S, 6, none⟩) := (congrFun hρ (.tmp 35)).symm.trans ((HF.out.ev 6 rfl d6).trans (HVA.out 6 _ (by rw [HVV.out]; rfl) d6))
                  have v5 : ρ (.tmp 34) = .int .i64 s := (congrFun hρ (.tmp 34)).symm.trans ((HF.out.ev 5 rfl d5).trans (HVA.out 5 _ (by rw [HVV.out]; rfl) d5))
                  rw [if_pos (by simp [Region.wanted])]
                  unfold Oper.wp
                  rw [hρ]
                  clear hρ
                  rcases hw with ⟨hc, hs, hw⟩ | ⟨hc, hs, hg, hp⟩ | ⟨hs, g1, g4, g5, w5, ⟨hg, hp⟩, hw⟩
                  focus
                    rw [hc] at d5
                    cases d5
                  rotate_left
                  focus
                    rw [HLI.out] at hs
                    cases hs
                  have HGG := Lib.hid hg
                  have HPP := Lib.hid hp
                  obtain ⟨hcs, hfs⟩ := hp.cells 6 (by decide)
                  obtain ⟨vc, hvc⟩ := Option.isSome_iff_exists.1 hcs
                  clear hg hp hcs
                  go_simp
                  exact hK.out _ _ ⟨HVA.out.free (i := 7) (by rw [HVV.out]; rfl) undef, .inr (.inr ⟨upd_self _ _, ((upd_ne (L := L) (show (1 : Nat) ≠ 7 by decide)).trans d1), ((upd_ne (L := L) (show (4 : Nat) ≠ 7 by decide)).trans d4), ((upd_ne (L := L) (show (5 : Nat) ≠ 7 by decide)).trans d5), w', ⟨HGG.out, HPP.out⟩, rfl⟩)⟩
              focus
                intro L w' xs hL hJ
                obtain ⟨hv, hw⟩ := hJ
                have e0 : xs 0 = .pointer (some ⟨b3, 1, none⟩) := hv 0 _ (by rw [HVV.out]; rfl) (hL 0 (by decide))
                have e1 : xs 1 = .pointer (some ⟨S, 6, none⟩) := hv 1 _ (by rw [HVV.out]; rfl) (hL 1 (by decide))
                have e2 : xs 2 = .pointer (some ⟨S, 0, none⟩) := hv 2 _ (by rw [HVV.out]; rfl) (hL 2 (by decide))
                have e3 : xs 3 = .pointer (some ⟨b3, 2, none⟩) := hv 3 _ (by rw [HVV.out]; rfl) (hL 3 (by decide))
                have e4 : xs 4 = .int .i64 clockM := hv 4 _ (by rw [HVV.out]; rfl) (hL 4 (by decide))
                have e5 : xs 5 = .int .i64 s := hv 5 _ (by rw [HVV.out]; rfl) (hL 5 (by decide))
                have e6 : xs 6 = .pointer (some ⟨S, 6, none⟩) := hv 6 _ (by rw [HVV.out]; rfl) (hL 6 (by decide))
                simp only [putGo, Act.put, List.setIfInBounds_toArray, List.set_cons_zero, List.set_cons_succ, e0, e1, e2, e3, e4, e5, e6]
                clear hv e0 e1 e2 e3 e4 e5 e6
                rcases hw with ⟨hc, _⟩ | ⟨_, hs, _⟩ | ⟨_, _, _, _, w5, ⟨hg, hp⟩, hw⟩
                · rw [hL 5 (by decide)] at hc; cases hc
                · rw [hL 7 (by decide)] at hs; cases hs
                rw [hw]
                have HP6 := Lib.hid (hp.setI hB (show 0 < 3 by decide) s)
                have HG6 := Lib.hid (((HG2.out.trans' (grown_ext (Below.refl _ w2).drew)).trans' hg).trans' (grown_setCell w5 ⟨S, 6, none⟩ (.int .i64 s)))
                have HL6 := Lib.hid (((HL2.out.drewL).grown hg (fun e => hbLS (Option.some.inj e))).grown (grown_setCell w5 ⟨S, 6, none⟩ (.int .i64 s)) (fun e => hbLS (Option.some.inj e)))
                clear hw hg hp hL
                go_wp2_with fail
                go_roundw
                case rel => exact ⟨1, _, _, by omega, by go_num, HP6.out, HEE.out, HL6.out, HG6.out⟩
                case measure => simp [intOf]
        focus
          have c3 := HC.out.cell 3
          have c4 := HC.out.cell 4
          have c5 := HC.out.cell 5
          simp at c3 c4 c5
          go_upto_region 3 with fail
          obtain ⟨b3, hb3⟩ : ∃ b, wr.heap.size = b := ⟨_, rfl⟩
          obtain ⟨W1, hW1⟩ : ∃ W, wr.alloc (.cells #[strV wBy, .pointer (some ⟨S, 7, none⟩), .int .i64 clockM] 98) = W := ⟨_, rfl⟩
          have HB1 : Hid (Below wr.heap.size wr W1) := Lib.hid (by rw [← hW1]; exact box_below' wr _)
          have HC1 : Hid (CellsN W1 b3 #[strV wBy, .pointer (some ⟨S, 7, none⟩), .int .i64 clockM]) := Lib.hid (by rw [← hW1, ← hb3]; exact CellsN.new _ _ _)
          have HP1 := Lib.hid (HP.out.below HB1.out hB)
          have hb3S : b3 ≠ S := by have := HP.out.lt; omega
          have hbLS : bL ≠ S := by have := HEL.out; omega
          rw [hW1]
          try rw [hb3]
          have m0 := HC1.out.cell 0
          simp at m0
          clear hb3 hW1 c3 c4 c5
          go_wp2_with fail
          clear m0
          refine (want_any S B W1 stop l' va x' wBy HP1.out hB).mono ?_
          rintro e w2 ⟨hg2, h⟩
          have HG2 : Hid (w.grownBy w2 (some S)) := Lib.hid ((HG.out.trans' (grown_ext HB1.out)).trans' hg2)
          have HC2 := Lib.hid (HC1.out.grown hg2 (fun e => hb3S (Option.some.inj e)))
          have HL2 := Lib.hid ((HC.out.ext HB1.out).grown hg2 (fun e => hbLS (Option.some.inj e)))
          clear hg2
          cases hk : pTake wBy l' with
          | none =>
            rw [hk] at h
            simp only at h
            subst h
            have HEE : Hid (whenF 3 0 x l = .error l') := Lib.hid (by rw [HE.out]; show whenF (1 + 1) 1 x' l' = _; rw [whenF_succ, show pWM (whenW 1) (whenM 1) l' = _ from wm_none hk])
            clear hk
            go_wp2
            exact ⟨rfl, HG2.out, by unfold pWhen; rw [HEE.out]⟩
          | some r =>
            rw [hk] at h
            simp only at h
            obtain ⟨rfl, hp2⟩ := h
            have HP2 := Lib.hid hp2
            have HEE : Hid (whenF 3 0 x l = match pNum clockM r with
              | .error e => .error e
              | .ok (s, r) => whenF 1 (1 + 1) (setN 1 x' s) r) := Lib.hid (by rw [HE.out]; show whenF (1 + 1) 1 x' l' = _; rw [whenF_succ, show pWM (whenW 1) (whenM 1) l' = _ from wm_some hk]; try rfl)
            clear hk hp2
            have m1 := HC2.out.cell 1
            simp at m1
            go_upto_region 4 with fail
            cases hn : pNum clockM r with
            | error r' =>
              have HNE := Lib.hid hn
              rw [hn] at HEE
              simp only at HEE
              clear hn
              obtain ⟨V, hV⟩ : ∃ V : List (Option Value), V = [some (.pointer (some ⟨b3, 1, none⟩)), some (.pointer (some ⟨S, 7, none⟩)), some (.pointer (some ⟨S, 0, none⟩)), some (.pointer (some ⟨b3, 2, none⟩)), some (.int .i64 clockM), none, some (.pointer (some ⟨S, 7, none⟩)), none] := ⟨_, rfl⟩
              have HVV := Lib.hid hV
              clear hV
              refine wp_region_V [some 29, some 30, some 31, some 32, some 33, some 34, some 35, none] (fun L w' xs => ValsAt V L xs ∧ (L 5 = false ∧ w' = w2.drew)) (by kernel_rfl) (by kernel_rfl) (by rfl) (by rfl) (by rfl) ?_ ?_ ?_
              focus
                exact fun xs => ⟨ValsAt.none _ _, rfl, rfl⟩
              focus
                refine ⟨?_, ?_, ?_, ?_, ?_, ?_, ?_, ?_, trivial⟩
                all_goals
                  intro L a' w' xs hi hd hf hJ K hK
                  obtain ⟨hv, hl, hw⟩ := hJ
                  have HF := Lib.hid hf
                  have HVA := Lib.hid hv
                  have HLI := Lib.hid hi
                  clear hf hv hi
                focus
                  clear hd
                  obtain ⟨ρ, hρ⟩ : ∃ ρ, a'.eval = ρ := ⟨_, rfl⟩
                  have hcst : ∀ v, ρ (.const v) = v := fun v => (congrFun hρ (.const v)).symm
                  have l3 : ρ (.tmp 3) = .pointer (some ⟨b3, 0, none⟩) := (congrFun hρ (.tmp 3)).symm.trans (HF.out.lo 3 rfl)
                  rw [if_pos (by simp [Region.wanted])]
                  unfold Oper.wp
                  rw [hρ]
                  clear hρ
                  subst hw
                  go_simp
                  exact hK.out _ _ ⟨HVA.out.set (i := 0) (by rw [HVV.out]; rfl), (upd_ne (L := L) (show (5 : Nat) ≠ 0 by decide)).trans hl, rfl⟩
                focus
                  obtain ⟨d0, _⟩ := hd
                  obtain ⟨ρ, hρ⟩ : ∃ ρ, a'.eval = ρ := ⟨_, rfl⟩
                  have hcst : ∀ v, ρ (.const v) = v := fun v => (congrFun hρ (.const v)).symm
                  have v0 : ρ (.tmp 29) = .pointer (some ⟨b3, 1, none⟩) := (congrFun hρ (.tmp 29)).symm.trans ((HF.out.ev 0 rfl d0).trans (HVA.out 0 _ (by rw [HVV.out]; rfl) d0))
                  rw [if_pos (by simp [Region.wanted])]
                  unfold Oper.wp
                  rw [hρ]
                  clear hρ
                  subst hw
                  have m1 := (HC2.out.drewL).cell 1
                  simp at m1
                  go_simp
                  exact hK.out _ _ ⟨HVA.out.set (i := 1) (by rw [HVV.out]; rfl), (upd_ne (L := L) (show (5 : Nat) ≠ 1 by decide)).trans hl, rfl⟩
                focus
                  clear hd
                  obtain ⟨ρ, hρ⟩ : ∃ ρ, a'.eval = ρ := ⟨_, rfl⟩
                  have hcst : ∀ v, ρ (.const v) = v := fun v => (congrFun hρ (.const v)).symm
                  have l0 : ρ (.tmp 0) = .pointer (some ⟨S, 0, none⟩) := (congrFun hρ (.tmp 0)).symm.trans (HF.out.lo 0 rfl)
                  rw [if_pos (by simp [Region.wanted])]
                  unfold Oper.wp
                  rw [hρ]
                  clear hρ
                  subst hw
                  go_simp
                  exact hK.out _ _ ⟨HVA.out.set (i := 2) (by rw [HVV.out]; rfl), (upd_ne (L := L) (show (5 : Nat) ≠ 2 by decide)).trans hl, rfl⟩
                focus
                  clear hd
                  obtain ⟨ρ, hρ⟩ : ∃ ρ, a'.eval = ρ := ⟨_, rfl⟩
                  have hcst : ∀ v, ρ (.const v) = v := fun v => (congrFun hρ (.const v)).symm
                  have l3 : ρ (.tmp 3) = .pointer (some ⟨b3, 0, none⟩) := (congrFun hρ (.tmp 3)).symm.trans (HF.out.lo 3 rfl)
                  rw [if_pos (by simp [Region.wanted])]
                  unfold Oper.wp
                  rw [hρ]
                  clear hρ
                  subst hw
                  go_simp
                  exact hK.out _ _ ⟨HVA.out.set (i := 3) (by rw [HVV.out]; rfl), (upd_ne (L := L) (show (5 : Nat) ≠ 3 by decide)).trans hl, rfl⟩
                focus
                  obtain ⟨d3, _⟩ := hd
                  obtain ⟨ρ, hρ⟩ : ∃ ρ, a'.eval = ρ := ⟨_, rfl⟩
                  have hcst : ∀ v, ρ (.const v) = v := fun v => (congrFun hρ (.const v)).symm
                  have v3 : ρ (.tmp 32) = .pointer (some ⟨b3, 2, none⟩) := (congrFun hρ (.tmp 32)).symm.trans ((HF.out.ev 3 rfl d3).trans (HVA.out 3 _ (by rw [HVV.out]; rfl) d3))
                  rw [if_pos (by simp [Region.wanted])]
                  unfold Oper.wp
                  rw [hρ]
                  clear hρ
                  subst hw
                  have m2 := (HC2.out.drewL).cell 2
                  simp at m2
                  go_simp
                  exact hK.out _ _ ⟨HVA.out.set (i := 4) (by rw [HVV.out]; rfl), (upd_ne (L := L) (show (5 : Nat) ≠ 4 by decide)).trans hl, rfl⟩
                focus
                  obtain ⟨d2, d4, _⟩ := hd
                  obtain ⟨ρ, hρ⟩ : ∃ ρ, a'.eval = ρ := ⟨_, rfl⟩
                  have hcst : ∀ v, ρ (.const v) = v := fun v => (congrFun hρ (.const v)).symm
                  have hfun : ∀ k, ρ (.func k) = .func (.func k) #[] #[] := fun k => (congrFun hρ (.func k)).symm
                  have v2 : ρ (.tmp 31) = .pointer (some ⟨S, 0, none⟩) := (congrFun hρ (.tmp 31)).symm.trans ((HF.out.ev 2 rfl d2).trans (HVA.out 2 _ (by rw [HVV.out]; rfl) d2))
                  have v4 : ρ (.tmp 33) = .int .i64 clockM := (congrFun hρ (.tmp 33)).symm.trans ((HF.out.ev 4 rfl d4).trans (HVA.out 4 _ (by rw [HVV.out]; rfl) d4))
                  rw [if_pos (by simp [Region.wanted])]
                  unfold Oper.wp
                  rw [hρ]
                  clear hρ
                  subst hw
                  go_simp
                  go_at_call 58
                  refine (number_any' S B w2.drew stop r va x' clockM (HP2.out.drew hB) hB).mono ?_
                  rintro e w5 ⟨hg5, h5⟩
                  rw [HNE.out] at h5
                  simp only at h5
                  subst h5
                  have HG5 := Lib.hid (HG2.out.trans' ((grown_ext (Below.refl _ w2).drew).trans' hg5))
                  clear hg5
                  go_simp
                  exact ⟨HF.out.defers, HG5.out, by unfold pWhen; rw [HEE.out]⟩
                focus
                  obtain ⟨d1, d0, _, d2, d3, d4, d5, _⟩ := hd
                  obtain ⟨ρ, hρ⟩ : ∃ ρ, a'.eval = ρ := ⟨_, rfl⟩
                  have hcst : ∀ v, ρ (.const v) = v := fun v => (congrFun hρ (.const v)).symm
                  have v1 : ρ (.tmp 30) = .pointer (some ⟨S, 7, none⟩) := (congrFun hρ (.tmp 30)).symm.trans ((HF.out.ev 1 rfl d1).trans (HVA.out 1 _ (by rw [HVV.out]; rfl) d1))
                  rw [if_pos (by simp [Region.wanted])]
                  unfold Oper.wp
                  rw [hρ]
                  clear hρ
                  rw [hl] at d5
                  cases d5
                focus
                  obtain ⟨d6, d5, _, d0, d1, d2, d3, d4, _, _⟩ := hd
                  obtain ⟨ρ, hρ⟩ : ∃ ρ, a'.eval = ρ := ⟨_, rfl⟩
                  have hcst : ∀ v, ρ (.const v) = v := fun v => (congrFun hρ (.const v)).symm
                  have v6 : ρ (.tmp 35) = .pointer (some ⟨S, 7, none⟩) := (congrFun hρ (.tmp 35)).symm.trans ((HF.out.ev 6 rfl d6).trans (HVA.out 6 _ (by rw [HVV.out]; rfl) d6))
                  have v5 : ρ (.tmp 34) = xs 5 := (congrFun hρ (.tmp 34)).symm.trans (HF.out.ev 5 rfl d5)
                  rw [if_pos (by simp [Region.wanted])]
                  unfold Oper.wp
                  rw [hρ]
                  clear hρ
                  rw [hl] at d5
                  cases d5
              focus
                intro L w' xs hL hJ
                obtain ⟨hv, hl, hw⟩ := hJ
                have e0 : xs 0 = .pointer (some ⟨b3, 1, none⟩) := hv 0 _ (by rw [HVV.out]; rfl) (hL 0 (by decide))
                have e1 : xs 1 = .pointer (some ⟨S, 7, none⟩) := hv 1 _ (by rw [HVV.out]; rfl) (hL 1 (by decide))
                have e2 : xs 2 = .pointer (some ⟨S, 0, none⟩) := hv 2 _ (by rw [HVV.out]; rfl) (hL 2 (by decide))
                have e3 : xs 3 = .pointer (some ⟨b3, 2, none⟩) := hv 3 _ (by rw [HVV.out]; rfl) (hL 3 (by decide))
                have e4 : xs 4 = .int .i64 clockM := hv 4 _ (by rw [HVV.out]; rfl) (hL 4 (by decide))
                have e6 : xs 6 = .pointer (some ⟨S, 7, none⟩) := hv 6 _ (by rw [HVV.out]; rfl) (hL 6 (by decide))
                simp only [putGo, Act.put, List.setIfInBounds_toArray, List.set_cons_zero, List.set_cons_succ, e0, e1, e2, e3, e4, e6]
                clear hv e0 e1 e2 e3 e4 e6
                rw [hL 5 (by decide)] at hl
                cases hl
            | ok v =>
              obtain ⟨s, r'⟩ := v
              have HNE := Lib.hid hn
              rw [hn] at HEE
              simp only at HEE
              clear hn
              obtain ⟨V, hV⟩ : ∃ V : List (Option Value), V = [some (.pointer (some ⟨b3, 1, none⟩)), some (.pointer (some ⟨S, 7, none⟩)), some (.pointer (some ⟨S, 0, none⟩)), some (.pointer (some ⟨b3, 2, none⟩)), some (.int .i64 clockM), some (.int .i64 s), some (.pointer (some ⟨S, 7, none⟩)), none] := ⟨_, rfl⟩
              have HVV := Lib.hid hV
              clear hV
              refine wp_region_V [some 29, some 30, some 31, some 32, some 33, some 34, some 35, none] (fun L w' xs => ValsAt V L xs ∧ ((L 5 = false ∧ L 7 = false ∧ w' = w2.drew) ∨ (L 5 = true ∧ L 7 = false ∧ w2.drew.grownBy w' (some S) ∧ Par S B w' stop r' va x') ∨ (L 7 = true ∧ L 1 = true ∧ L 4 = true ∧ L 5 = true ∧ ∃ w5, (w2.drew.grownBy w5 (some S) ∧ Par S B w5 stop r' va x') ∧ w' = w5.setCell ⟨S, 7, none⟩ (.int .i64 s)))) (by kernel_rfl) (by kernel_rfl) (by rfl) (by rfl) (by rfl) ?_ ?_ ?_
              focus
                exact fun xs => ⟨ValsAt.none _ _, Or.inl ⟨rfl, rfl, rfl⟩⟩
              focus
                refine ⟨?_, ?_, ?_, ?_, ?_, ?_, ?_, ?_, trivial⟩
                all_goals
                  intro L a' w' xs hi hd hf hJ K hK
                  obtain ⟨hv, hw⟩ := hJ
                  have HF := Lib.hid hf
                  have HVA := Lib.hid hv
                  have HLI := Lib.hid hi
                  clear hf hv hi
                focus
                  clear hd
                  obtain ⟨ρ, hρ⟩ : ∃ ρ, a'.eval = ρ := ⟨_, rfl⟩
                  have hcst : ∀ v, ρ (.const v) = v := fun v => (congrFun hρ (.const v)).symm
                  have l3 : ρ (.tmp 3) = .pointer (some ⟨b3, 0, none⟩) := (congrFun hρ (.tmp 3)).symm.trans (HF.out.lo 3 rfl)
                  rw [if_pos (by simp [Region.wanted])]
                  unfold Oper.wp
                  rw [hρ]
                  clear hρ
                  have HW := Lib.hid hw
                  clear hw
                  go_simp
                  exact hK.out _ _ ⟨HVA.out.set (i := 0) (by rw [HVV.out]; rfl), by simp only [upd_ne (L := L) (show (1 : Nat) ≠ 0 by decide), upd_ne (L := L) (show (4 : Nat) ≠ 0 by decide), upd_ne (L := L) (show (5 : Nat) ≠ 0 by decide), upd_ne (L := L) (show (7 : Nat) ≠ 0 by decide)]; exact HW.out⟩
                focus
                  obtain ⟨d0, _⟩ := hd
                  obtain ⟨ρ, hρ⟩ : ∃ ρ, a'.eval = ρ := ⟨_, rfl⟩
                  have hcst : ∀ v, ρ (.const v) = v := fun v => (congrFun hρ (.const v)).symm
                  have v0 : ρ (.tmp 29) = .pointer (some ⟨b3, 1, none⟩) := (congrFun hρ (.tmp 29)).symm.trans ((HF.out.ev 0 rfl d0).trans (HVA.out 0 _ (by rw [HVV.out]; rfl) d0))
                  rw [if_pos (by simp [Region.wanted])]
                  unfold Oper.wp
                  rw [hρ]
                  clear hρ
                  rcases hw with ⟨hc, hs, hw⟩ | ⟨hc, hs, hg, hp⟩ | ⟨hs, g1, g4, g5, w5, ⟨hg, hp⟩, hw⟩
                  focus
                    subst hw
                    have m1 := (HC2.out.drewL).cell 1
                    simp at m1
                    go_simp
                    exact hK.out _ _ ⟨HVA.out.set (i := 1) (by rw [HVV.out]; rfl), .inl ⟨((upd_ne (L := L) (show (5 : Nat) ≠ 1 by decide)).trans hc), ((upd_ne (L := L) (show (7 : Nat) ≠ 1 by decide)).trans hs), rfl⟩⟩
                  focus
                    have m1 := ((HC2.out.drewL).grown hg (fun e => hb3S (Option.some.inj e))).cell 1
                    simp at m1
                    have HGG := Lib.hid hg
                    have HPP := Lib.hid hp
                    clear hg hp
                    go_simp
                    exact hK.out _ _ ⟨HVA.out.set (i := 1) (by rw [HVV.out]; rfl), .inr (.inl ⟨((upd_ne (L := L) (show (5 : Nat) ≠ 1 by decide)).trans hc), ((upd_ne (L := L) (show (7 : Nat) ≠ 1 by decide)).trans hs), HGG.out, HPP.out⟩)⟩
                  focus
                    rw [HLI.out] at g1
                    cases g1
                focus
                  clear hd
                  obtain ⟨ρ, hρ⟩ : ∃ ρ, a'.eval = ρ := ⟨_, rfl⟩
                  have hcst : ∀ v, ρ (.const v) = v := fun v => (congrFun hρ (.const v)).symm
                  have l0 : ρ (.tmp 0) = .pointer (some ⟨S, 0, none⟩) := (congrFun hρ (.tmp 0)).symm.trans (HF.out.lo 0 rfl)
                  rw [if_pos (by simp [Region.wanted])]
                  unfold Oper.wp
                  rw [hρ]
                  clear hρ
                  have HW := Lib.hid hw
                  clear hw
                  go_simp
                  exact hK.out _ _ ⟨HVA.out.set (i := 2) (by rw [HVV.out]; rfl), by simp only [upd_ne (L := L) (show (1 : Nat) ≠ 2 by decide), upd_ne (L := L) (show (4 : Nat) ≠ 2 by decide), upd_ne (L := L) (show (5 : Nat) ≠ 2 by decide), upd_ne (L := L) (show (7 : Nat) ≠ 2 by decide)]; exact HW.out⟩
                focus
                  clear hd
                  obtain ⟨ρ, hρ⟩ : ∃ ρ, a'.eval = ρ := ⟨_, rfl⟩
                  have hcst : ∀ v, ρ (.const v) = v := fun v => (congrFun hρ (.const v)).symm
                  have l3 : ρ (.tmp 3) = .pointer (some ⟨b3, 0, none⟩) := (congrFun hρ (.tmp 3)).symm.trans (HF.out.lo 3 rfl)
                  rw [if_pos (by simp [Region.wanted])]
                  unfold Oper.wp
                  rw [hρ]
                  clear hρ
                  have HW := Lib.hid hw
                  clear hw
                  go_simp
                  exact hK.out _ _ ⟨HVA.out.set (i := 3) (by rw [HVV.out]; rfl), by simp only [upd_ne (L := L) (show (1 : Nat) ≠ 3 by decide), upd_ne (L := L) (show (4 : Nat) ≠ 3 by decide), upd_ne (L := L) (show (5 : Nat) ≠ 3 by decide), upd_ne (L := L) (show (7 : Nat) ≠ 3 by decide)]; exact HW.out⟩
                focus
                  obtain ⟨d3, _⟩ := hd
                  obtain ⟨ρ, hρ⟩ : ∃ ρ, a'.eval = ρ := ⟨_, rfl⟩
                  have hcst : ∀ v, ρ (.const v) = v := fun v => (congrFun hρ (.const v)).symm
                  have v3 : ρ (.tmp 32) = .pointer (some ⟨b3, 2, none⟩) := (congrFun hρ (.tmp 32)).symm.trans ((HF.out.ev 3 rfl d3).trans (HVA.out 3 _ (by rw [HVV.out]; rfl) d3))
                  rw [if_pos (by simp [Region.wanted])]
                  unfold Oper.wp
                  rw [hρ]
                  clear hρ
                  rcases hw with ⟨hc, hs, hw⟩ | ⟨hc, hs, hg, hp⟩ | ⟨hs, g1, g4, g5, w5, ⟨hg, hp⟩, hw⟩
                  focus
                    subst hw
                    have m2 := (HC2.out.drewL).cell 2
                    simp at m2
                    go_simp
                    exact hK.out _ _ ⟨HVA.out.set (i := 4) (by rw [HVV.out]; rfl), .inl ⟨((upd_ne (L := L) (show (5 : Nat) ≠ 4 by decide)).trans hc), ((upd_ne (L := L) (show (7 : Nat) ≠ 4 by decide)).trans hs), rfl⟩⟩
                  focus
                    have m2 := ((HC2.out.drewL).grown hg (fun e => hb3S (Option.some.inj e))).cell 2
                    simp at m2
                    have HGG := Lib.hid hg
                    have HPP := Lib.hid hp
                    clear hg hp
                    go_simp
                    exact hK.out _ _ ⟨HVA.out.set (i := 4) (by rw [HVV.out]; rfl), .inr (.inl ⟨((upd_ne (L := L) (show (5 : Nat) ≠ 4 by decide)).trans hc), ((upd_ne (L := L) (show (7 : Nat) ≠ 4 by decide)).trans hs), HGG.out, HPP.out⟩)⟩
                  focus
                    rw [HLI.out] at g4
                    cases g4
                focus
                  obtain ⟨d2, d4, _⟩ := hd
                  obtain ⟨ρ, hρ⟩ : ∃ ρ, a'.eval = ρ := ⟨_, rfl⟩
                  have hcst : ∀ v, ρ (.const v) = v := fun v => (congrFun hρ (.const v)).symm
                  have hfun : ∀ k, ρ (.func k) = .func (.func k) #[] #[] := fun k => (congrFun hρ (.func k)).symm
                  have v2 : ρ (.tmp 31) = .pointer (some ⟨S, 0, none⟩) := (congrFun hρ (.tmp 31)).symm.trans ((HF.out.ev 2 rfl d2).trans (HVA.out 2 _ (by rw [HVV.out]; rfl) d2))
                  have v4 : ρ (.tmp 33) = .int .i64 clockM := (congrFun hρ (.tmp 33)).symm.trans ((HF.out.ev 4 rfl d4).trans (HVA.out 4 _ (by rw [HVV.out]; rfl) d4))
                  rw [if_pos (by simp [Region.wanted])]
                  unfold Oper.wp
                  rw [hρ]
                  clear hρ
                  rcases hw with ⟨hc, hs, hw⟩ | ⟨hc, hs, hg, hp⟩ | ⟨hs, g1, g4, g5, w5, ⟨hg, hp⟩, hw⟩
                  rotate_left
                  focus
                    rw [HLI.out] at hc
                    cases hc
                  focus
                    rw [HLI.out] at g5
                    cases g5
                  subst hw
                  go_simp
                  go_at_call 58
                  refine (number_any' S B w2.drew stop r va x' clockM (HP2.out.drew hB) hB).mono ?_
                  rintro e w5 ⟨hg5, h5⟩
                  rw [HNE.out] at h5
                  simp only at h5
                  obtain ⟨rfl, hp5⟩ := h5
                  exact hK.out _ _ ⟨HVA.out.set (i := 5) (by rw [HVV.out]; rfl), .inr (.inl ⟨upd_self _ _, ((upd_ne (L := L) (show (7 : Nat) ≠ 5 by decide)).trans hs), hg5, hp5⟩)⟩
                focus
                  obtain ⟨d1, d0, _, d2, d3, d4, d5, _⟩ := hd
                  obtain ⟨ρ, hρ⟩ : ∃ ρ, a'.eval = ρ := ⟨_, rfl⟩
                  have hcst : ∀ v, ρ (.const v) = v := fun v => (congrFun hρ (.const v)).symm
                  have v1 : ρ (.tmp 30) = .pointer (some ⟨S, 7, none⟩) := (congrFun hρ (.tmp 30)).symm.trans ((HF.out.ev 1 rfl d1).trans (HVA.out 1 _ (by rw [HVV.out]; rfl) d1))
                  rw [if_pos (by simp [Region.wanted])]
                  unfold Oper.wp
                  rw [hρ]
                  clear hρ
                  have HW := Lib.hid hw
                  clear hw
                  go_simp
                  exact hK.out _ _ ⟨HVA.out.set (i := 6) (by rw [HVV.out]; rfl), by simp only [upd_ne (L := L) (show (1 : Nat) ≠ 6 by decide), upd_ne (L := L) (show (4 : Nat) ≠ 6 by decide), upd_ne (L := L) (show (5 : Nat) ≠ 6 by decide), upd_ne (L := L) (show (7 : Nat) ≠ 6 by decide)]; exact HW.out⟩
                focus
                  obtain ⟨d6, d5, _, d0, d1, d2, d3, d4, _, _⟩ := hd
                  obtain ⟨ρ, hρ⟩ : ∃ ρ, a'.eval = ρ := ⟨_, rfl⟩
                  have hcst : ∀ v, ρ (.const v) = v := fun v => (congrFun hρ (.const v)).symm
                  have v6 : ρ (.tmp 35) = .pointer (some ⟨S, 7, none⟩) := (congrFun hρ (.tmp 35)).symm.trans ((HF.out.ev 6 rfl d6).trans (HVA.out 6 _ (by rw [HVV.out]; rfl) d6))
                  have v5 : ρ (.tmp 34) = .int .i64 s := (congrFun hρ (.tmp 34)).symm.trans ((HF.out.ev 5 rfl d5).trans (HVA.out 5 _ (by rw [HVV.out]; rfl) d5))
                  rw [if_pos (by simp [Region.wanted])]
                  unfold Oper.wp
                  rw [hρ]
                  clear hρ
                  rcases hw with ⟨hc, hs, hw⟩ | ⟨hc, hs, hg, hp⟩ | ⟨hs, g1, g4, g5, w5, ⟨hg, hp⟩, hw⟩
                  focus
                    rw [hc] at d5
                    cases d5
                  rotate_left
                  focus
                    rw [HLI.out] at hs
                    cases hs
                  have HGG := Lib.hid hg
                  have HPP := Lib.hid hp
                  obtain ⟨hcs, hfs⟩ := hp.cells 7 (by decide)
                  obtain ⟨vc, hvc⟩ := Option.isSome_iff_exists.1 hcs
                  clear hg hp hcs
                  go_simp
                  exact hK.out _ _ ⟨HVA.out.free (i := 7) (by rw [HVV.out]; rfl) undef, .inr (.inr ⟨upd_self _ _, ((upd_ne (L := L) (show (1 : Nat) ≠ 7 by decide)).trans d1), ((upd_ne (L := L) (show (4 : Nat) ≠ 7 by decide)).trans d4), ((upd_ne (L := L) (show (5 : Nat) ≠ 7 by decide)).trans d5), w', ⟨HGG.out, HPP.out⟩, rfl⟩)⟩
              focus
                intro L w' xs hL hJ
                obtain ⟨hv, hw⟩ := hJ
                have e0 : xs 0 = .pointer (some ⟨b3, 1, none⟩) := hv 0 _ (by rw [HVV.out]; rfl) (hL 0 (by decide))
                have e1 : xs 1 = .pointer (some ⟨S, 7, none⟩) := hv 1 _ (by rw [HVV.out]; rfl) (hL 1 (by decide))
                have e2 : xs 2 = .pointer (some ⟨S, 0, none⟩) := hv 2 _ (by rw [HVV.out]; rfl) (hL 2 (by decide))
                have e3 : xs 3 = .pointer (some ⟨b3, 2, none⟩) := hv 3 _ (by rw [HVV.out]; rfl) (hL 3 (by decide))
                have e4 : xs 4 = .int .i64 clockM := hv 4 _ (by rw [HVV.out]; rfl) (hL 4 (by decide))
                have e5 : xs 5 = .int .i64 s := hv 5 _ (by rw [HVV.out]; rfl) (hL 5 (by decide))
                have e6 : xs 6 = .pointer (some ⟨S, 7, none⟩) := hv 6 _ (by rw [HVV.out]; rfl) (hL 6 (by decide))
                simp only [putGo, Act.put, List.setIfInBounds_toArray, List.set_cons_zero, List.set_cons_succ, e0, e1, e2, e3, e4, e5, e6]
                clear hv e0 e1 e2 e3 e4 e5 e6
                rcases hw with ⟨hc, _⟩ | ⟨_, hs, _⟩ | ⟨_, _, _, _, w5, ⟨hg, hp⟩, hw⟩
                · rw [hL 5 (by decide)] at hc; cases hc
                · rw [hL 7 (by decide)] at hs; cases hs
                rw [hw]
                have HP6 := Lib.hid (hp.setI hB (show 1 < 3 by decide) s)
                have HG6 := Lib.hid (((HG2.out.trans' (grown_ext (Below.refl _ w2).drew)).trans' hg).trans' (grown_setCell w5 ⟨S, 7, none⟩ (.int .i64 s)))
                have HL6 := Lib.hid (((HL2.out.drewL).grown hg (fun e => hbLS (Option.some.inj e))).grown (grown_setCell w5 ⟨S, 7, none⟩ (.int .i64 s)) (fun e => hbLS (Option.some.inj e)))
                clear hw hg hp hL
                go_wp2_with fail
                go_roundw
                case rel => exact ⟨2, _, _, by omega, by go_num, HP6.out, HEE.out, HL6.out, HG6.out⟩
                case measure => simp [intOf]
        focus
          have c6 := HC.out.cell 6
          have c7 := HC.out.cell 7
          have c8 := HC.out.cell 8
          simp at c6 c7 c8
          go_upto_region 3 with fail
          obtain ⟨b3, hb3⟩ : ∃ b, wr.heap.size = b := ⟨_, rfl⟩
          obtain ⟨W1, hW1⟩ : ∃ W, wr.alloc (.cells #[strV wCrowd, .pointer (some ⟨S, 8, none⟩), .int .i64 crowdM] 98) = W := ⟨_, rfl⟩
          have HB1 : Hid (Below wr.heap.size wr W1) := Lib.hid (by rw [← hW1]; exact box_below' wr _)
          have HC1 : Hid (CellsN W1 b3 #[strV wCrowd, .pointer (some ⟨S, 8, none⟩), .int .i64 crowdM]) := Lib.hid (by rw [← hW1, ← hb3]; exact CellsN.new _ _ _)
          have HP1 := Lib.hid (HP.out.below HB1.out hB)
          have hb3S : b3 ≠ S := by have := HP.out.lt; omega
          have hbLS : bL ≠ S := by have := HEL.out; omega
          rw [hW1]
          try rw [hb3]
          have m0 := HC1.out.cell 0
          simp at m0
          clear hb3 hW1 c6 c7 c8
          go_wp2_with fail
          clear m0
          refine (want_any S B W1 stop l' va x' wCrowd HP1.out hB).mono ?_
          rintro e w2 ⟨hg2, h⟩
          have HG2 : Hid (w.grownBy w2 (some S)) := Lib.hid ((HG.out.trans' (grown_ext HB1.out)).trans' hg2)
          have HC2 := Lib.hid (HC1.out.grown hg2 (fun e => hb3S (Option.some.inj e)))
          have HL2 := Lib.hid ((HC.out.ext HB1.out).grown hg2 (fun e => hbLS (Option.some.inj e)))
          clear hg2
          cases hk : pTake wCrowd l' with
          | none =>
            rw [hk] at h
            simp only at h
            subst h
            have HEE : Hid (whenF 3 0 x l = .error l') := Lib.hid (by rw [HE.out]; show whenF (0 + 1) 2 x' l' = _; rw [whenF_succ, show pWM (whenW 2) (whenM 2) l' = _ from wm_none hk])
            clear hk
            go_wp2
            exact ⟨rfl, HG2.out, by unfold pWhen; rw [HEE.out]⟩
          | some r =>
            rw [hk] at h
            simp only at h
            obtain ⟨rfl, hp2⟩ := h
            have HP2 := Lib.hid hp2
            have HEE : Hid (whenF 3 0 x l = match pNum crowdM r with
              | .error e => .error e
              | .ok (s, r) => whenF 0 (2 + 1) (setN 2 x' s) r) := Lib.hid (by rw [HE.out]; show whenF (0 + 1) 2 x' l' = _; rw [whenF_succ, show pWM (whenW 2) (whenM 2) l' = _ from wm_some hk]; try rfl)
            clear hk hp2
            have m1 := HC2.out.cell 1
            simp at m1
            go_upto_region 4 with fail
            cases hn : pNum crowdM r with
            | error r' =>
              have HNE := Lib.hid hn
              rw [hn] at HEE
              simp only at HEE
              clear hn
              obtain ⟨V, hV⟩ : ∃ V : List (Option Value), V = [some (.pointer (some ⟨b3, 1, none⟩)), some (.pointer (some ⟨S, 8, none⟩)), some (.pointer (some ⟨S, 0, none⟩)), some (.pointer (some ⟨b3, 2, none⟩)), some (.int .i64 crowdM), none, some (.pointer (some ⟨S, 8, none⟩)), none] := ⟨_, rfl⟩
              have HVV := Lib.hid hV
              clear hV
              refine wp_region_V [some 29, some 30, some 31, some 32, some 33, some 34, some 35, none] (fun L w' xs => ValsAt V L xs ∧ (L 5 = false ∧ w' = w2.drew)) (by kernel_rfl) (by kernel_rfl) (by rfl) (by rfl) (by rfl) ?_ ?_ ?_
              focus
                exact fun xs => ⟨ValsAt.none _ _, rfl, rfl⟩
              focus
                refine ⟨?_, ?_, ?_, ?_, ?_, ?_, ?_, ?_, trivial⟩
                all_goals
                  intro L a' w' xs hi hd hf hJ K hK
                  obtain ⟨hv, hl, hw⟩ := hJ
                  have HF := Lib.hid hf
                  have HVA := Lib.hid hv
                  have HLI := Lib.hid hi
                  clear hf hv hi
                focus
                  clear hd
                  obtain ⟨ρ, hρ⟩ : ∃ ρ, a'.eval = ρ := ⟨_, rfl⟩
                  have hcst : ∀ v, ρ (.const v) = v := fun v => (congrFun hρ (.const v)).symm
                  have l3 : ρ (.tmp 3) = .pointer (some ⟨b3, 0, none⟩) := (congrFun hρ (.tmp 3)).symm.trans (HF.out.lo 3 rfl)
                  rw [if_pos (by simp [Region.wanted])]
                  unfold Oper.wp
                  rw [hρ]
                  clear hρ
                  subst hw
                  go_simp
                  exact hK.out _ _ ⟨HVA.out.set (i := 0) (by rw [HVV.out]; rfl), (upd_ne (L := L) (show (5 : Nat) ≠ 0 by decide)).trans hl, rfl⟩
                focus
                  obtain ⟨d0, _⟩ := hd
                  obtain ⟨ρ, hρ⟩ : ∃ ρ, a'.eval = ρ := ⟨_, rfl⟩
                  have hcst : ∀ v, ρ (.const v) = v := fun v => (congrFun hρ (.const v)).symm
                  have v0 : ρ (.tmp 29) = .pointer (some ⟨b3, 1, none⟩) := (congrFun hρ (.tmp 29)).symm.trans ((HF.out.ev 0 rfl d0).trans (HVA.out 0 _ (by rw [HVV.out]; rfl) d0))
                  rw [if_pos (by simp [Region.wanted])]
                  unfold Oper.wp
                  rw [hρ]
                  clear hρ
                  subst hw
                  have m1 := (HC2.out.drewL).cell 1
                  simp at m1
                  go_simp
                  exact hK.out _ _ ⟨HVA.out.set (i := 1) (by rw [HVV.out]; rfl), (upd_ne (L := L) (show (5 : Nat) ≠ 1 by decide)).trans hl, rfl⟩
                focus
                  clear hd
                  obtain ⟨ρ, hρ⟩ : ∃ ρ, a'.eval = ρ := ⟨_, rfl⟩
                  have hcst : ∀ v, ρ (.const v) = v := fun v => (congrFun hρ (.const v)).symm
                  have l0 : ρ (.tmp 0) = .pointer (some ⟨S, 0, none⟩) := (congrFun hρ (.tmp 0)).symm.trans (HF.out.lo 0 rfl)
                  rw [if_pos (by simp [Region.wanted])]
                  unfold Oper.wp
                  rw [hρ]
                  clear hρ
                  subst hw
                  go_simp
                  exact hK.out _ _ ⟨HVA.out.set (i := 2) (by rw [HVV.out]; rfl), (upd_ne (L := L) (show (5 : Nat) ≠ 2 by decide)).trans hl, rfl⟩
                focus
                  clear hd
                  obtain ⟨ρ, hρ⟩ : ∃ ρ, a'.eval = ρ := ⟨_, rfl⟩
                  have hcst : ∀ v, ρ (.const v) = v := fun v => (congrFun hρ (.const v)).symm
                  have l3 : ρ (.tmp 3) = .pointer (some ⟨b3, 0, none⟩) := (congrFun hρ (.tmp 3)).symm.trans (HF.out.lo 3 rfl)
                  rw [if_pos (by simp [Region.wanted])]
                  unfold Oper.wp
                  rw [hρ]
                  clear hρ
                  subst hw
                  go_simp
                  exact hK.out _ _ ⟨HVA.out.set (i := 3) (by rw [HVV.out]; rfl), (upd_ne (L := L) (show (5 : Nat) ≠ 3 by decide)).trans hl, rfl⟩
                focus
                  obtain ⟨d3, _⟩ := hd
                  obtain ⟨ρ, hρ⟩ : ∃ ρ, a'.eval = ρ := ⟨_, rfl⟩
                  have hcst : ∀ v, ρ (.const v) = v := fun v => (congrFun hρ (.const v)).symm
                  have v3 : ρ (.tmp 32) = .pointer (some ⟨b3, 2, none⟩) := (congrFun hρ (.tmp 32)).symm.trans ((HF.out.ev 3 rfl d3).trans (HVA.out 3 _ (by rw [HVV.out]; rfl) d3))
                  rw [if_pos (by simp [Region.wanted])]
                  unfold Oper.wp
                  rw [hρ]
                  clear hρ
                  subst hw
                  have m2 := (HC2.out.drewL).cell 2
                  simp at m2
                  go_simp
                  exact hK.out _ _ ⟨HVA.out.set (i := 4) (by rw [HVV.out]; rfl), (upd_ne (L := L) (show (5 : Nat) ≠ 4 by decide)).trans hl, rfl⟩
                focus
                  obtain ⟨d2, d4, _⟩ := hd
                  obtain ⟨ρ, hρ⟩ : ∃ ρ, a'.eval = ρ := ⟨_, rfl⟩
                  have hcst : ∀ v, ρ (.const v) = v := fun v => (congrFun hρ (.const v)).symm
                  have hfun : ∀ k, ρ (.func k) = .func (.func k) #[] #[] := fun k => (congrFun hρ (.func k)).symm
                  have v2 : ρ (.tmp 31) = .pointer (some ⟨S, 0, none⟩) := (congrFun hρ (.tmp 31)).symm.trans ((HF.out.ev 2 rfl d2).trans (HVA.out 2 _ (by rw [HVV.out]; rfl) d2))
                  have v4 : ρ (.tmp 33) = .int .i64 crowdM := (congrFun hρ (.tmp 33)).symm.trans ((HF.out.ev 4 rfl d4).trans (HVA.out 4 _ (by rw [HVV.out]; rfl) d4))
                  rw [if_pos (by simp [Region.wanted])]
                  unfold Oper.wp
                  rw [hρ]
                  clear hρ
                  subst hw
                  go_simp
                  go_at_call 58
                  refine (number_any' S B w2.drew stop r va x' crowdM (HP2.out.drew hB) hB).mono ?_
                  rintro e w5 ⟨hg5, h5⟩
                  rw [HNE.out] at h5
                  simp only at h5
                  subst h5
                  have HG5 := Lib.hid (HG2.out.trans' ((grown_ext (Below.refl _ w2).drew).trans' hg5))
                  clear hg5
                  go_simp
                  exact ⟨HF.out.defers, HG5.out, by unfold pWhen; rw [HEE.out]⟩
                focus
                  obtain ⟨d1, d0, _, d2, d3, d4, d5, _⟩ := hd
                  obtain ⟨ρ, hρ⟩ : ∃ ρ, a'.eval = ρ := ⟨_, rfl⟩
                  have hcst : ∀ v, ρ (.const v) = v := fun v => (congrFun hρ (.const v)).symm
                  have v1 : ρ (.tmp 30) = .pointer (some ⟨S, 8, none⟩) := (congrFun hρ (.tmp 30)).symm.trans ((HF.out.ev 1 rfl d1).trans (HVA.out 1 _ (by rw [HVV.out]; rfl) d1))
                  rw [if_pos (by simp [Region.wanted])]
                  unfold Oper.wp
                  rw [hρ]
                  clear hρ
                  rw [hl] at d5
                  cases d5
                focus
                  obtain ⟨d6, d5, _, d0, d1, d2, d3, d4, _, _⟩ := hd
                  obtain ⟨ρ, hρ⟩ : ∃ ρ, a'.eval = ρ := ⟨_, rfl⟩
                  have hcst : ∀ v, ρ (.const v) = v := fun v => (congrFun hρ (.const v)).symm
                  have v6 : ρ (.tmp 35) = .pointer (some ⟨S, 8, none⟩) := (congrFun hρ (.tmp 35)).symm.trans ((HF.out.ev 6 rfl d6).trans (HVA.out 6 _ (by rw [HVV.out]; rfl) d6))
                  have v5 : ρ (.tmp 34) = xs 5 := (congrFun hρ (.tmp 34)).symm.trans (HF.out.ev 5 rfl d5)
                  rw [if_pos (by simp [Region.wanted])]
                  unfold Oper.wp
                  rw [hρ]
                  clear hρ
                  rw [hl] at d5
                  cases d5
              focus
                intro L w' xs hL hJ
                obtain ⟨hv, hl, hw⟩ := hJ
                have e0 : xs 0 = .pointer (some ⟨b3, 1, none⟩) := hv 0 _ (by rw [HVV.out]; rfl) (hL 0 (by decide))
                have e1 : xs 1 = .pointer (some ⟨S, 8, none⟩) := hv 1 _ (by rw [HVV.out]; rfl) (hL 1 (by decide))
                have e2 : xs 2 = .pointer (some ⟨S, 0, none⟩) := hv 2 _ (by rw [HVV.out]; rfl) (hL 2 (by decide))
                have e3 : xs 3 = .pointer (some ⟨b3, 2, none⟩) := hv 3 _ (by rw [HVV.out]; rfl) (hL 3 (by decide))
                have e4 : xs 4 = .int .i64 crowdM := hv 4 _ (by rw [HVV.out]; rfl) (hL 4 (by decide))
                have e6 : xs 6 = .pointer (some ⟨S, 8, none⟩) := hv 6 _ (by rw [HVV.out]; rfl) (hL 6 (by decide))
                simp only [putGo, Act.put, List.setIfInBounds_toArray, List.set_cons_zero, List.set_cons_succ, e0, e1, e2, e3, e4, e6]
                clear hv e0 e1 e2 e3 e4 e6
                rw [hL 5 (by decide)] at hl
                cases hl
            | ok v =>
              obtain ⟨s, r'⟩ := v
              have HNE := Lib.hid hn
              rw [hn] at HEE
              simp only at HEE
              clear hn
              obtain ⟨V, hV⟩ : ∃ V : List (Option Value), V = [some (.pointer (some ⟨b3, 1, none⟩)), some (.pointer (some ⟨S, 8, none⟩)), some (.pointer (some ⟨S, 0, none⟩)), some (.pointer (some ⟨b3, 2, none⟩)), some (.int .i64 crowdM), some (.int .i64 s), some (.pointer (some ⟨S, 8, none⟩)), none] := ⟨_, rfl⟩
              have HVV := Lib.hid hV
              clear hV
              refine wp_region_V [some 29, some 30, some 31, some 32, some 33, some 34, some 35, none] (fun L w' xs => ValsAt V L xs ∧ ((L 5 = false ∧ L 7 = false ∧ w' = w2.drew) ∨ (L 5 = true ∧ L 7 = false ∧ w2.drew.grownBy w' (some S) ∧ Par S B w' stop r' va x') ∨ (L 7 = true ∧ L 1 = true ∧ L 4 = true ∧ L 5 = true ∧ ∃ w5, (w2.drew.grownBy w5 (some S) ∧ Par S B w5 stop r' va x') ∧ w' = w5.setCell ⟨S, 8, none⟩ (.int .i64 s)))) (by kernel_rfl) (by kernel_rfl) (by rfl) (by rfl) (by rfl) ?_ ?_ ?_
              focus
                exact fun xs => ⟨ValsAt.none _ _, Or.inl ⟨rfl, rfl, rfl⟩⟩
              focus
                refine ⟨?_, ?_, ?_, ?_, ?_, ?_, ?_, ?_, trivial⟩
                all_goals
                  intro L a' w' xs hi hd hf hJ K hK
                  obtain ⟨hv, hw⟩ := hJ
                  have HF := Lib.hid hf
                  have HVA := Lib.hid hv
                  have HLI := Lib.hid hi
                  clear hf hv hi
                focus
                  clear hd
                  obtain ⟨ρ, hρ⟩ : ∃ ρ, a'.eval = ρ := ⟨_, rfl⟩
                  have hcst : ∀ v, ρ (.const v) = v := fun v => (congrFun hρ (.const v)).symm
                  have l3 : ρ (.tmp 3) = .pointer (some ⟨b3, 0, none⟩) := (congrFun hρ (.tmp 3)).symm.trans (HF.out.lo 3 rfl)
                  rw [if_pos (by simp [Region.wanted])]
                  unfold Oper.wp
                  rw [hρ]
                  clear hρ
                  have HW := Lib.hid hw
                  clear hw
                  go_simp
                  exact hK.out _ _ ⟨HVA.out.set (i := 0) (by rw [HVV.out]; rfl), by simp only [upd_ne (L := L) (show (1 : Nat) ≠ 0 by decide), upd_ne (L := L) (show (4 : Nat) ≠ 0 by decide), upd_ne (L := L) (show (5 : Nat) ≠ 0 by decide), upd_ne (L := L) (show (7 : Nat) ≠ 0 by decide)]; exact HW.out⟩
                focus
                  obtain ⟨d0, _⟩ := hd
                  obtain ⟨ρ, hρ⟩ : ∃ ρ, a'.eval = ρ := ⟨_, rfl⟩
                  have hcst : ∀ v, ρ (.const v) = v := fun v => (congrFun hρ (.const v)).symm
                  have v0 : ρ (.tmp 29) = .pointer (some ⟨b3, 1, none⟩) := (congrFun hρ (.tmp 29)).symm.trans ((HF.out.ev 0 rfl d0).trans (HVA.out 0 _ (by rw [HVV.out]; rfl) d0))
                  rw [if_pos (by simp [Region.wanted])]
                  unfold Oper.wp
                  rw [hρ]
                  clear hρ
                  rcases hw with ⟨hc, hs, hw⟩ | ⟨hc, hs, hg, hp⟩ | ⟨hs, g1, g4, g5, w5, ⟨hg, hp⟩, hw⟩
                  focus
                    subst hw
                    have m1 := (HC2.out.drewL).cell 1
                    simp at m1
                    go_simp
                    exact hK.out _ _ ⟨HVA.out.set (i := 1) (by rw [HVV.out]; rfl), .inl ⟨((upd_ne (L := L) (show (5 : Nat) ≠ 1 by decide)).trans hc), ((upd_ne (L := L) (show (7 : Nat) ≠ 1 by decide)).trans hs), rfl⟩⟩
                  focus
                    have m1 := ((HC2.out.drewL).grown hg (fun e => hb3S (Option.some.inj e))).cell 1
                    simp at m1
                    have HGG := Lib.hid hg
                    have HPP := Lib.hid hp
                    clear hg hp
                    go_simp
                    exact hK.out _ _ ⟨HVA.out.set (i := 1) (by rw [HVV.out]; rfl), .inr (.inl ⟨((upd_ne (L := L) (show (5 : Nat) ≠ 1 by decide)).trans hc), ((upd_ne (L := L) (show (7 : Nat) ≠ 1 by decide)).trans hs), HGG.out, HPP.out⟩)⟩
                  focus
                    rw [HLI.out] at g1
                    cases g1
                focus
                  clear hd
                  obtain ⟨ρ, hρ⟩ : ∃ ρ, a'.eval = ρ := ⟨_, rfl⟩
                  have hcst : ∀ v, ρ (.const v) = v := fun v => (congrFun hρ (.const v)).symm
                  have l0 : ρ (.tmp 0) = .pointer (some ⟨S, 0, none⟩) := (congrFun hρ (.tmp 0)).symm.trans (HF.out.lo 0 rfl)
                  rw [if_pos (by simp [Region.wanted])]
                  unfold Oper.wp
                  rw [hρ]
                  clear hρ
                  have HW := Lib.hid hw
                  clear hw
                  go_simp
                  exact hK.out _ _ ⟨HVA.out.set (i := 2) (by rw [HVV.out]; rfl), by simp only [upd_ne (L := L) (show (1 : Nat) ≠ 2 by decide), upd_ne (L := L) (show (4 : Nat) ≠ 2 by decide), upd_ne (L := L) (show (5 : Nat) ≠ 2 by decide), upd_ne (L := L) (show (7 : Nat) ≠ 2 by decide)]; exact HW.out⟩
                focus
                  clear hd
                  obtain ⟨ρ, hρ⟩ : ∃ ρ, a'.eval = ρ := ⟨_, rfl⟩
                  have hcst : ∀ v, ρ (.const v) = v := fun v => (congrFun hρ (.const v)).symm
                  have l3 : ρ (.tmp 3) = .pointer (some ⟨b3, 0, none⟩) := (congrFun hρ (.tmp 3)).symm.trans (HF.out.lo 3 rfl)
                  rw [if_pos (by simp [Region.wanted])]
                  unfold Oper.wp
                  rw [hρ]
                  clear hρ
                  have HW := Lib.hid hw
                  clear hw
                  go_simp
                  exact hK.out _ _ ⟨HVA.out.set (i := 3) (by rw [HVV.out]; rfl), by simp only [upd_ne (L := L) (show (1 : Nat) ≠ 3 by decide), upd_ne (L := L) (show (4 : Nat) ≠ 3 by decide), upd_ne (L := L) (show (5 : Nat) ≠ 3 by decide), upd_ne (L := L) (show (7 : Nat) ≠ 3 by decide)]; exact HW.out⟩
                focus
                  obtain ⟨d3, _⟩ := hd
                  obtain ⟨ρ, hρ⟩ : ∃ ρ, a'.eval = ρ := ⟨_, rfl⟩
                  have hcst : ∀ v, ρ (.const v) = v := fun v => (congrFun hρ (.const v)).symm
                  have v3 : ρ (.tmp 32) = .pointer (some ⟨b3, 2, none⟩) := (congrFun hρ (.tmp 32)).symm.trans ((HF.out.ev 3 rfl d3).trans (HVA.out 3 _ (by rw [HVV.out]; rfl) d3))
                  rw [if_pos (by simp [Region.wanted])]
                  unfold Oper.wp
                  rw [hρ]
                  clear hρ
                  rcases hw with ⟨hc, hs, hw⟩ | ⟨hc, hs, hg, hp⟩ | ⟨hs, g1, g4, g5, w5, ⟨hg, hp⟩, hw⟩
                  focus
                    subst hw
                    have m2 := (HC2.out.drewL).cell 2
                    simp at m2
                    go_simp
                    exact hK.out _ _ ⟨HVA.out.set (i := 4) (by rw [HVV.out]; rfl), .inl ⟨((upd_ne (L := L) (show (5 : Nat) ≠ 4 by decide)).trans hc), ((upd_ne (L := L) (show (7 : Nat) ≠ 4 by decide)).trans hs), rfl⟩⟩
                  focus
                    have m2 := ((HC2.out.drewL).grown hg (fun e => hb3S (Option.some.inj e))).cell 2
                    simp at m2
                    have HGG := Lib.hid hg
                    have HPP := Lib.hid hp
                    clear hg hp
                    go_simp
                    exact hK.out _ _ ⟨HVA.out.set (i := 4) (by rw [HVV.out]; rfl), .inr (.inl ⟨((upd_ne (L := L) (show (5 : Nat) ≠ 4 by decide)).trans hc), ((upd_ne (L := L) (show (7 : Nat) ≠ 4 by decide)).trans hs), HGG.out, HPP.out⟩)⟩
                  focus
                    rw [HLI.out] at g4
                    cases g4
                focus
                  obtain ⟨d2, d4, _⟩ := hd
                  obtain ⟨ρ, hρ⟩ : ∃ ρ, a'.eval = ρ := ⟨_, rfl⟩
                  have hcst : ∀ v, ρ (.const v) = v := fun v => (congrFun hρ (.const v)).symm
                  have hfun : ∀ k, ρ (.func k) = .func (.func k) #[] #[] := fun k => (congrFun hρ (.func k)).symm
                  have v2 : ρ (.tmp 31) = .pointer (some ⟨S, 0, none⟩) := (congrFun hρ (.tmp 31)).symm.trans ((HF.out.ev 2 rfl d2).trans (HVA.out 2 _ (by rw [HVV.out]; rfl) d2))
                  have v4 : ρ (.tmp 33) = .int .i64 crowdM := (congrFun hρ (.tmp 33)).symm.trans ((HF.out.ev 4 rfl d4).trans (HVA.out 4 _ (by rw [HVV.out]; rfl) d4))
                  rw [if_pos (by simp [Region.wanted])]
                  unfold Oper.wp
                  rw [hρ]
                  clear hρ
                  rcases hw with ⟨hc, hs, hw⟩ | ⟨hc, hs, hg, hp⟩ | ⟨hs, g1, g4, g5, w5, ⟨hg, hp⟩, hw⟩
                  rotate_left
                  focus
                    rw [HLI.out] at hc
                    cases hc
                  focus
                    rw [HLI.out] at g5
                    cases g5
                  subst hw
                  go_simp
                  go_at_call 58
                  refine (number_any' S B w2.drew stop r va x' crowdM (HP2.out.drew hB) hB).mono ?_
                  rintro e w5 ⟨hg5, h5⟩
                  rw [HNE.out] at h5
                  simp only at h5
                  obtain ⟨rfl, hp5⟩ := h5
                  exact hK.out _ _ ⟨HVA.out.set (i := 5) (by rw [HVV.out]; rfl), .inr (.inl ⟨upd_self _ _, ((upd_ne (L := L) (show (7 : Nat) ≠ 5 by decide)).trans hs), hg5, hp5⟩)⟩
                focus
                  obtain ⟨d1, d0, _, d2, d3, d4, d5, _⟩ := hd
                  obtain ⟨ρ, hρ⟩ : ∃ ρ, a'.eval = ρ := ⟨_, rfl⟩
                  have hcst : ∀ v, ρ (.const v) = v := fun v => (congrFun hρ (.const v)).symm
                  have v1 : ρ (.tmp 30) = .pointer (some ⟨S, 8, none⟩) := (congrFun hρ (.tmp 30)).symm.trans ((HF.out.ev 1 rfl d1).trans (HVA.out 1 _ (by rw [HVV.out]; rfl) d1))
                  rw [if_pos (by simp [Region.wanted])]
                  unfold Oper.wp
                  rw [hρ]
                  clear hρ
                  have HW := Lib.hid hw
                  clear hw
                  go_simp
                  exact hK.out _ _ ⟨HVA.out.set (i := 6) (by rw [HVV.out]; rfl), by simp only [upd_ne (L := L) (show (1 : Nat) ≠ 6 by decide), upd_ne (L := L) (show (4 : Nat) ≠ 6 by decide), upd_ne (L := L) (show (5 : Nat) ≠ 6 by decide), upd_ne (L := L) (show (7 : Nat) ≠ 6 by decide)]; exact HW.out⟩
                focus
                  obtain ⟨d6, d5, _, d0, d1, d2, d3, d4, _, _⟩ := hd
                  obtain ⟨ρ, hρ⟩ : ∃ ρ, a'.eval = ρ := ⟨_, rfl⟩
                  have hcst : ∀ v, ρ (.const v) = v := fun v => (congrFun hρ (.const v)).symm
                  have v6 : ρ (.tmp 35) = .pointer (some ⟨S, 8, none⟩) := (congrFun hρ (.tmp 35)).symm.trans ((HF.out.ev 6 rfl d6).trans (HVA.out 6 _ (by rw [HVV.out]; rfl) d6))
                  have v5 : ρ (.tmp 34) = .int .i64 s := (congrFun hρ (.tmp 34)).symm.trans ((HF.out.ev 5 rfl d5).trans (HVA.out 5 _ (by rw [HVV.out]; rfl) d5))
                  rw [if_pos (by simp [Region.wanted])]
                  unfold Oper.wp
                  rw [hρ]
                  clear hρ
                  rcases hw with ⟨hc, hs, hw⟩ | ⟨hc, hs, hg, hp⟩ | ⟨hs, g1, g4, g5, w5, ⟨hg, hp⟩, hw⟩
                  focus
                    rw [hc] at d5
                    cases d5
                  rotate_left
                  focus
                    rw [HLI.out] at hs
                    cases hs
                  have HGG := Lib.hid hg
                  have HPP := Lib.hid hp
                  obtain ⟨hcs, hfs⟩ := hp.cells 8 (by decide)
                  obtain ⟨vc, hvc⟩ := Option.isSome_iff_exists.1 hcs
                  clear hg hp hcs
                  go_simp
                  exact hK.out _ _ ⟨HVA.out.free (i := 7) (by rw [HVV.out]; rfl) undef, .inr (.inr ⟨upd_self _ _, ((upd_ne (L := L) (show (1 : Nat) ≠ 7 by decide)).trans d1), ((upd_ne (L := L) (show (4 : Nat) ≠ 7 by decide)).trans d4), ((upd_ne (L := L) (show (5 : Nat) ≠ 7 by decide)).trans d5), w', ⟨HGG.out, HPP.out⟩, rfl⟩)⟩
              focus
                intro L w' xs hL hJ
                obtain ⟨hv, hw⟩ := hJ
                have e0 : xs 0 = .pointer (some ⟨b3, 1, none⟩) := hv 0 _ (by rw [HVV.out]; rfl) (hL 0 (by decide))
                have e1 : xs 1 = .pointer (some ⟨S, 8, none⟩) := hv 1 _ (by rw [HVV.out]; rfl) (hL 1 (by decide))
                have e2 : xs 2 = .pointer (some ⟨S, 0, none⟩) := hv 2 _ (by rw [HVV.out]; rfl) (hL 2 (by decide))
                have e3 : xs 3 = .pointer (some ⟨b3, 2, none⟩) := hv 3 _ (by rw [HVV.out]; rfl) (hL 3 (by decide))
                have e4 : xs 4 = .int .i64 crowdM := hv 4 _ (by rw [HVV.out]; rfl) (hL 4 (by decide))
                have e5 : xs 5 = .int .i64 s := hv 5 _ (by rw [HVV.out]; rfl) (hL 5 (by decide))
                have e6 : xs 6 = .pointer (some ⟨S, 8, none⟩) := hv 6 _ (by rw [HVV.out]; rfl) (hL 6 (by decide))
                simp only [putGo, Act.put, List.setIfInBounds_toArray, List.set_cons_zero, List.set_cons_succ, e0, e1, e2, e3, e4, e5, e6]
                clear hv e0 e1 e2 e3 e4 e5 e6
                rcases hw with ⟨hc, _⟩ | ⟨_, hs, _⟩ | ⟨_, _, _, _, w5, ⟨hg, hp⟩, hw⟩
                · rw [hL 5 (by decide)] at hc; cases hc
                · rw [hL 7 (by decide)] at hs; cases hs
                rw [hw]
                have HP6 := Lib.hid (hp.setI hB (show 2 < 3 by decide) s)
                have HG6 := Lib.hid (((HG2.out.trans' (grown_ext (Below.refl _ w2).drew)).trans' hg).trans' (grown_setCell w5 ⟨S, 8, none⟩ (.int .i64 s)))
                have HL6 := Lib.hid (((HL2.out.drewL).grown hg (fun e => hbLS (Option.some.inj e))).grown (grown_setCell w5 ⟨S, 8, none⟩ (.int .i64 s)) (fun e => hbLS (Option.some.inj e)))
                clear hw hg hp hL
                go_wp2_with fail
                go_roundw
                case rel => exact ⟨3, _, _, by omega, by go_num, HP6.out, HEE.out, HL6.out, HG6.out⟩
                case measure => simp [intOf]
      obtain rfl : k = 3 := by omega
      go_wp2
      first | go_end0 | refine bodyPost_ret (results_none rfl _ _ _) rfl ?_
      refine ⟨HG.out, ?_⟩
      unfold pWhen
      rw [HE.out]
      exact ⟨rfl, HP.out⟩

end Go.Proofs.YtfnmidddgjlipaaDoor
