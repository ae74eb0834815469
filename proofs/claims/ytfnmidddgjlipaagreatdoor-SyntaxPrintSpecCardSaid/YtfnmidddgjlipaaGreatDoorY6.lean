/-
  Layer 17: the walks of the parser's name, number.
-/
import Derived.Test.YtfnmidddgjlipaaGreatDoorY5
set_option linter.unusedVariables false
set_option linter.unusedSimpArgs false
namespace Go.Proofs.YtfnmidddgjlipaaGreatDoor
open Go.RowKit

theorem field_text (t : Tok) (w : World) : (Instr.field 72 (.agg #[.int .i64 t.kind, strV t.text, .int .i64 t.n, .int .i64 t.pos]) 1).run Tryz.prog w = .ok (strV t.text) w := by
  simp [Instr.field, go_sem, asAgg, Tryz.underlying72]
theorem field_n (t : Tok) (w : World) : (Instr.field 72 (.agg #[.int .i64 t.kind, strV t.text, .int .i64 t.n, .int .i64 t.pos]) 2).run Tryz.prog w = .ok (.int .i64 t.n) w := by
  simp [Instr.field, go_sem, asAgg, Tryz.underlying72]
theorem name_tok (l : List Tok) : pName l = match pTok okName l with
    | .ok (t, r) => .ok (t.text, r)
    | .error r => .error r := by
  cases l with
  | nil => rfl
  | cons t r =>
    rw [name_cons, tok_cons]
    by_cases h : okName t = true
    · rw [if_pos h, if_pos h]
    · rw [if_neg h, if_neg h]
theorem num_tok (m : Int) (l : List Tok) : pNum m l = match pTok (okNum m) l with
    | .ok (t, r) => .ok (t.n, r)
    | .error r => .error r := by
  cases l with
  | nil => rfl
  | cons t r =>
    rw [num_cons, tok_cons]
    by_cases h : okNum m t = true
    · rw [if_pos h, if_pos h]
    · rw [if_neg h, if_neg h]

set_option maxHeartbeats 1000000 in
set_option maxRecDepth 100000 in
theorem name_any' (S B : Nat) (w : World) (stop : Int) (l : List Tok) (va : Value) (x : WishD) (hS : Par S B w stop l va x) (hB : B ≤ S) :
    Calls Tryz.prog 62 #[.pointer (some ⟨S, 0, none⟩)] w (ValPost S B w stop va x (pName l) strV) := by
  have HS := Lib.hid hS
  clear hS
  have HN := Lib.hid (name_tok l)
  go_enter Tryz.func62, Tryz.ntmps62
  go_wp2_with fail
  refine (tokenN_any S B w stop l va x HS.out hB).mono ?_
  rintro e w1 ⟨hg, h⟩
  have HG := Lib.hid hg
  clear hg
  cases hk : pTok okName l with
  | error r =>
    rw [hk] at h
    simp only at h
    subst h
    have HE : Hid (pName l = .error r) := Lib.hid (by rw [HN.out, hk])
    clear hk
    go_wp2
    exact ⟨rfl, HG.out, by rw [HE.out]⟩
  | ok v =>
    obtain ⟨t, r⟩ := v
    rw [hk] at h
    simp only at h
    obtain ⟨he, hp⟩ := h
    unfold tokV at he
    subst he
    have HP := Lib.hid hp
    have HE : Hid (pName l = .ok (t.text, r)) := Lib.hid (by rw [HN.out, hk])
    clear hk hp
    have hfl := field_text t
    go_wp2
    go_ret
    refine ⟨HG.out, ?_⟩
    rw [HE.out]
    exact ⟨rfl, HP.out⟩

set_option maxHeartbeats 1000000 in
set_option maxRecDepth 100000 in
theorem number_any' (S B : Nat) (w : World) (stop : Int) (l : List Tok) (va : Value) (x : WishD) (m : Int) (hS : Par S B w stop l va x) (hB : B ≤ S) :
    Calls Tryz.prog 63 #[.pointer (some ⟨S, 0, none⟩), .int .i64 m] w (ValPost S B w stop va x (pNum m l) (.int .i64)) := by
  have HS := Lib.hid hS
  clear hS
  have HN := Lib.hid (num_tok m l)
  obtain ⟨q0, hq0⟩ : ∃ b, w.heap.size = b := ⟨_, rfl⟩
  obtain ⟨W0, hW0⟩ : ∃ W, w.alloc (.cells #[.int .i64 m] 3) = W := ⟨_, rfl⟩
  have HB0 : Hid (Below w.heap.size w W0) := Lib.hid (by rw [← hW0]; exact box_below' w _)
  have HZ0 : Hid (CellsN W0 q0 #[.int .i64 m]) := Lib.hid (by rw [← hW0, ← hq0]; exact CellsN.new _ _ _)
  have HS0 := Lib.hid (HS.out.below HB0.out hB)
  have HW0 := Lib.hid hW0
  have HQ0 := Lib.hid hq0
  have hmf : ∀ (fn : Fn) (first cap : Array Value) (w : World), (Instr.makeFunc fn first cap).run Tryz.prog w = .ok (.func fn first cap) w := fun _ _ _ _ => rfl
  clear hW0
  go_enter Tryz.func63, Tryz.ntmps63
  go_upto_region 1 with fail
  rw [HW0.out]
  try rw [hq0]
  clear hq0
  go_wp2_with fail
  refine (tokenM_any S B W0 stop l va x q0 m HS0.out hB (HZ0.out.cell 0)).mono ?_
  rintro e w1 ⟨hg, h⟩
  have HG : Hid (w.grownBy w1 (some S)) := Lib.hid ((grown_ext HB0.out).trans' hg)
  clear hg hmf
  cases hk : pTok (okNum m) l with
  | error r =>
    rw [hk] at h
    simp only at h
    subst h
    have HE : Hid (pNum m l = .error r) := Lib.hid (by rw [HN.out, hk])
    clear hk
    go_wp2
    exact ⟨rfl, HG.out, by rw [HE.out]⟩
  | ok v =>
    obtain ⟨t, r⟩ := v
    rw [hk] at h
    simp only at h
    obtain ⟨he, hp⟩ := h
    unfold tokV at he
    subst he
    have HP := Lib.hid hp
    have HE : Hid (pNum m l = .ok (t.n, r)) := Lib.hid (by rw [HN.out, hk])
    clear hk hp
    have hfl := field_n t
    go_wp2
    go_ret
    refine ⟨HG.out, ?_⟩
    rw [HE.out]
    exact ⟨rfl, HP.out⟩
end Go.Proofs.YtfnmidddgjlipaaGreatDoor
