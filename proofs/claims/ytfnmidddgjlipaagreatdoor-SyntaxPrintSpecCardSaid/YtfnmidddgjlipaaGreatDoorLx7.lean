/-
  Layer 3: the walks of the scanner's wrong, space.
-/
import Derived.Test.YtfnmidddgjlipaaGreatDoorLx6
set_option linter.unusedVariables false
set_option linter.unusedSimpArgs false
namespace Go.Proofs.YtfnmidddgjlipaaGreatDoor
open Go.RowKit

abbrev placeP (at_ : Nat) : Ending := .panicked [{ v := .iface 53 (.int .i64 (at_ : Int)), recovered := false }]

set_option maxRecDepth 100000 in
theorem wrong_any (S at_ : Nat) (src : ByteArray) (ts : List Tok) (w : World) (hS : Scan S src w at_ ts) :
    Calls Tryz.prog 26 #[.pointer (some ⟨S, 0, none⟩)] w fun e w' => e = placeP at_ ∧ w' = w := by
  obtain ⟨vl, hc, ho⟩ := hS
  have k1 := hc.cell 1
  simp at k1
  clear hc ho
  go_enter Tryz.func26, Tryz.ntmps26
  go_wp2
  exact ⟨rfl, rfl, rfl⟩

theorem Scan.cells {S at_ : Nat} {src : ByteArray} {w : World} {ts : List Tok} (h : Scan S src w at_ ts) : w.cell? ⟨S, 0, none⟩ = some (.string src) ∧ w.cell? ⟨S, 1, none⟩ = some (.int .i64 (at_ : Int)) := by
  obtain ⟨vl, hc, ho⟩ := h
  exact ⟨by simpa using hc.cell 0, by simpa using hc.cell 1⟩
/-- the place is set anew -/
theorem Scan.move {S at_ : Nat} {src : ByteArray} {w : World} {ts : List Tok} (h : Scan S src w at_ ts) (b : Nat) : Scan S src (w.setCell ⟨S, 1, none⟩ (.int .i64 (b : Int))) b ts := by
  obtain ⟨vl, hc, ho⟩ := h
  refine ⟨vl, by simpa using hc.set 1 (.int .i64 (b : Int)), ho.set (fun e => ?_) 1 _⟩
  have := (ho.lt _ e).1
  omega
theorem Scan.free {S at_ : Nat} {src : ByteArray} {w : World} {ts : List Tok} (h : Scan S src w at_ ts) : w.frozen? ⟨S, 1, none⟩ = false := by
  obtain ⟨vl, hc, ho⟩ := h
  exact hc.free 1

set_option maxHeartbeats 1000000 in
set_option maxRecDepth 100000 in
theorem space_any (S at_ : Nat) (src : ByteArray) (ts : List Tok) (w : World) (hS : Scan S src w at_ ts) (hat : at_ ≤ src.size) (hs : src.size ≤ 1000000) :
    Calls Tryz.prog 27 #[.pointer (some ⟨S, 0, none⟩)] w fun e w' => e = .returned (.tuple #[]) ∧ Scan S src w' (at_ + (runL src at_ [1]).length) ts ∧ Below S w w' := by
  have hlt := hS.lt
  have HS := Lib.hid hS
  have HR := Lib.hid (len_mk (runL src at_ [1]))
  have HZ : Hid (∀ W, Below w.heap.size w W → W.cell? ⟨S, 0, none⟩ = some (.string src) ∧ W.cell? ⟨S, 1, none⟩ = some (.int .i64 (at_ : Int)) ∧ W.frozen? ⟨S, 1, none⟩ = false) := Lib.hid fun W hW => ⟨(HS.out.ext hW).cells.1, (HS.out.ext hW).cells.2, (HS.out.ext hW).free⟩
  obtain ⟨c0, c1⟩ := hS.cells
  have hne := World.new_ne w ⟨S, 1, none⟩ c1
  have hne2 : ¬ S = w.heap.size := by omega
  clear hS
  have hrl : (runL src at_ [1]).length ≤ 1000000 := by
    unfold runL
    have h1 := (List.takeWhile_prefix (l := src.data.toList.drop at_) (runP [1])).length_le
    simp only [List.length_drop, size_data] at h1
    omega
  have hrz : (⟨(runL src at_ [1]).toArray⟩ : ByteArray).size ≤ 1000000 := by rw [HR.out]; exact hrl
  go_enter Tryz.func27, Tryz.ntmps27
  go_region_with (
    (go_at_call 57
     refine (run_any S w.heap.size 1 1 src at_ [1] _ (HZ.out _ (((Below.refl _ _).alloc (Nat.le_refl _) _).drew)).1 (HZ.out _ (((Below.refl _ _).alloc (Nat.le_refl _) _).drew)).2.1 (fun j hj => by obtain rfl : j = 0 := by simpa using hj
                                                                                                                                                                                                     exact World.cell?_alloc_at _ _ _ _ rfl) rfl (by simp) hat (by omega)).mono ?_
     rintro e w1 ⟨rfl, hd⟩
     obtain ⟨z0, z1, z2⟩ := HZ.out w1 ((((Below.refl _ _).alloc (Nat.le_refl _) _).drew).trans (hd.below _))
     have HD := Lib.hid hd
     clear hd))
  all_goals
    have hwr : IntKind.i64.wrap ((at_ : Int) + ((runL src at_ [1]).length : Int)) = ((at_ + (runL src at_ [1]).length : Nat) : Int) := by
      have h := IntWalk.i64_in ((at_ : Int) + ((runL src at_ [1]).length : Int)) (by omega)
      omega
    have hbw : Below w.heap.size w w1 := (((Below.refl _ _).alloc (Nat.le_refl _) _).drew).trans (HD.out.below _)
    rw [hwr]
    first | go_end0 | refine bodyPost_ret (results_none rfl _ _ _) rfl ?_
    exact ⟨rfl, (HS.out.ext hbw).move _, (hbw.mono (Nat.le_of_lt hlt)).setCell (p := ⟨S, 1, none⟩) (Nat.le_refl _) _⟩
end Go.Proofs.YtfnmidddgjlipaaGreatDoor
