/-
  Layer 18: the walk of frankingref18.sorted.
-/
import Derived.Test.YtmfbabmejbppjaaAppI
import Derived.Test.YtmfbabmejbppjaaSo0
import Derived.Deep.RegionLaw
set_option linter.unusedVariables false
set_option linter.unusedSimpArgs false
namespace Go.Proofs.Ytmfbabmejbppjaa
open Go.RowKit

theorem take_while_eq {x : Int} : ∀ {l : List Int} {k : Nat}, k ≤ l.length → (∀ j, j < k → nth l j < x) → (k < l.length → ¬ nth l k < x) → l.takeWhile (fun y => decide (y < x)) = l.take k ∧ l.dropWhile (fun y => decide (y < x)) = l.drop k
  | [], k, hk, _, _ => by
    obtain rfl : k = 0 := by simpa using hk
    exact ⟨rfl, rfl⟩
  | a :: r, 0, _, _, h => by
    have : ¬ a < x := h (by simp)
    simp [List.takeWhile_cons, List.dropWhile_cons, this]
  | a :: r, k + 1, hk, h1, h2 => by
    have h0 : a < x := h1 0 (by omega)
    obtain ⟨i1, i2⟩ := take_while_eq (x := x) (l := r) (k := k) (by simpa using hk) (fun j hj => h1 (j + 1) (by omega)) (fun hl => h2 (by simpa using hl))
    simp [List.takeWhile_cons, List.dropWhile_cons, h0, i1, i2]
theorem insI_at {x : Int} {l : List Int} {k : Nat} (hk : k ≤ l.length) (h1 : ∀ j, j < k → nth l j < x) (h2 : k < l.length → ¬ nth l k < x) : l.take k ++ [x] ++ l.drop k = insI l x := by
  obtain ⟨i1, i2⟩ := take_while_eq hk h1 h2
  unfold insI
  rw [i1, i2]
  simp

theorem IsInts.takeS {B : Nat} {w : World} {a : Option Addr} {n cap k : Nat} {l : List Int} (h : IsInts B w (.slice a n cap) l) (hk : k ≤ l.length) : IsInts B w (.slice a k cap) (l.take k) := by
  obtain ⟨b, off, c, ⟨a', e, h1, h2, h3⟩, h4, h5, h6⟩ := h
  cases e
  refine ⟨b, off, cap, ⟨a, by rw [List.length_take, Nat.min_eq_left hk], by rw [List.length_take]; omega, h2, ?_⟩, by rw [List.length_take]; omega, fun x hx => h5 x (List.mem_of_mem_take hx), fun j hj => ?_⟩
  · rcases h3 with h3 | h3
    · exact Or.inl h3
    · right; rw [List.length_take]; omega
  · rw [List.length_take] at hj
    have := h6 j (by omega)
    rw [nth_eq_getElem (by omega)] at this
    rw [nth_eq_getElem (by rw [List.length_take]; omega), List.getElem_take]
    exact this
theorem IsInts.dropS {B : Nat} {w : World} {a : Option Addr} {n cap k : Nat} {l : List Int} (h : IsInts B w (.slice a n cap) l) (hk : k ≤ l.length) : IsInts B w (.slice (if cap = k then a else Option.map (fun x => x.add k) a) (l.length - k) (cap - k)) (l.drop k) := by
  obtain ⟨b, off, c, ⟨a', e, h1, h2, h3⟩, h4, h5, h6⟩ := h
  cases e
  refine ⟨b, off + k, cap - k, ⟨_, by rw [List.length_drop], by rw [List.length_drop]; omega, by omega, ?_⟩, by rw [List.length_drop]; omega, fun x hx => h5 x (List.mem_of_mem_drop hx), fun j hj => ?_⟩
  · by_cases hl : l.length = k
    · right; rw [List.length_drop]; omega
    · left
      rcases h3 with h3 | h3
      · rw [if_neg (by omega), h3]
        show some (Addr.add _ k) = _
        unfold Addr.add; split <;> simp_all
      · omega
  · rw [List.length_drop] at hj
    have := h6 (k + j) (by omega)
    rw [nth_eq_getElem (by omega)] at this
    rw [nth_eq_getElem (by rw [List.length_drop]; omega), List.getElem_drop, Nat.add_assoc]
    exact this

set_option maxHeartbeats 4000000 in
set_option maxRecDepth 100000 in
theorem sorted_any (B : Nat) (w : World) (v : Value) (l : List Int) (x : Int) (hB : B ≤ w.heap.size) (hv : IsInts B w v l) (hx : I64 x) (hl : l.length ≤ 1000000) :
    Calls Try.prog 42 #[v, .int .i64 x] w fun e w' => ∃ v', e = .returned v' ∧ OwnInts w.heap.size w' v' (insI l x) ∧ Below w.heap.size w w' := by
  obtain ⟨b, off, cap, ⟨a, rfl, hc1, hc2, ha⟩, hz, hi, hc⟩ := id hv
  have HV := Lib.hid hv
  have HZ := Lib.hid hi
  clear hv hi
  go_enter Try.func42, Try.ntmps42
  go_wp2
  go_loop [5] (fun iv => ∃ k, k ≤ l.length ∧ iv = .int .i64 k ∧ ∀ j, j < k → nth l j < x) (fun iv => l.length - (intOf iv).toNat)
  case atStart => exact ⟨0, by omega, rfl, fun j hj => by omega⟩
  case round =>
    obtain ⟨k, hk, rfl, hall⟩ := hrel
    have HA := Lib.hid hall
    clear hall
    by_cases hlt : k < l.length ∧ nth l k < x
    · obtain ⟨hlt, hlx⟩ := hlt
      obtain rfl : a = some ⟨b, off, none⟩ := by rcases ha with ha | ha; exact ha; omega
      have hcell := (hc k hlt).2
      have HLX := Lib.hid hlx
      clear ha hc
      go_wp2
      go_round
      case rel =>
        refine ⟨k + 1, by omega, by go_num, fun j hj => ?_⟩
        by_cases hjk : j < k
        · exact HA.out j hjk
        · obtain rfl : j = k := by omega
          exact HLX.out
      case measure => simp [intOf]; omega
    · have HEQ : Hid (l.take k ++ [x] ++ l.drop k = insI l x) := Lib.hid (insI_at hk HA.out (fun h1 h2 => hlt ⟨h1, h2⟩))
      have HSU : Hid (∀ W, Below w.heap.size w W → Src W 1 (.slice a k cap) (l.take k).length ((l.take k).map (Value.int .i64))) := Lib.hid fun W hW => ((HV.out.below hW hB).takeS hk).src
      have HSD : Hid (∀ W, Below w.heap.size w W → Src W 1 (.slice (if cap = k then a else Option.map (fun x => x.add k) a) (l.length - k) (cap - k)) (l.drop k).length ((l.drop k).map (Value.int .i64))) := Lib.hid fun W hW => ((HV.out.below hW hB).dropS hk).src
      have HZ1 : Hid (∀ y ∈ l.take k, I64 y) := Lib.hid fun y hy => HZ.out y (List.mem_of_mem_take hy)
      have HZ2 : Hid (∀ y ∈ l.drop k, I64 y) := Lib.hid fun y hy => HZ.out y (List.mem_of_mem_drop hy)
      have HZX := Lib.hid hx
      have hlt1 : (l.take k).length = k := by rw [List.length_take]; omega
      have hlt3 : (l.drop k).length ≤ 1000000 := by rw [List.length_drop]; omega
      have HB0 : Hid (Below w.heap.size w w.drew) := Lib.hid (Below.refl _ _).drew
      have HBE : Hid (Below w.heap.size w (w.alloc (.cells #[] 3)).drew) := Lib.hid ((Below.refl _ _).alloc (Nat.le_refl _) _).drew
      have HBEX : Hid (Below w.heap.size w ((w.alloc (.cells #[] 3)).alloc (.cells #[.int .i64 x] 3)).drew) := Lib.hid (((Below.refl _ _).alloc (Nat.le_refl _) _).alloc (by simp) _).drew
      have HBXE : Hid (Below w.heap.size w ((w.alloc (.cells #[.int .i64 x] 3)).alloc (.cells #[] 3)).drew) := Lib.hid (((Below.refl _ _).alloc (Nat.le_refl _) _).alloc (by simp) _).drew
      have HOE : Hid (OwnInts w.heap.size (w.alloc (.cells #[] 3)).drew (.slice (some ⟨w.heap.size, 0, none⟩) 0 0) []) := Lib.hid (OwnInts.made (w := w) (Nat.le_refl _)).drew'
      have HOEX : Hid (OwnInts w.heap.size ((w.alloc (.cells #[] 3)).alloc (.cells #[.int .i64 x] 3)).drew (.slice (some ⟨w.heap.size, 0, none⟩) 0 0) []) := Lib.hid ((OwnInts.made (w := w) (Nat.le_refl _)).alloc _).drew'
      have HOXE : Hid (OwnInts w.heap.size ((w.alloc (.cells #[.int .i64 x] 3)).alloc (.cells #[] 3)).drew (.slice (some ⟨w.heap.size + 1, 0, none⟩) 0 0) []) := Lib.hid (OwnInts.made' (B := w.heap.size) (w := w.alloc (.cells #[.int .i64 x] 3)) (n := w.heap.size + 1) (by simp) (by simp)).drew'
      have HCEX : Hid (((w.alloc (.cells #[] 3)).alloc (.cells #[.int .i64 x] 3)).drew.cell? ⟨w.heap.size + 1, 0, none⟩ = some (.int .i64 x)) := Lib.hid (by
        have h := (Cell1.new (w.alloc (.cells #[] 3)) (.int .i64 x) 3).cell
        rw [World.size_alloc] at h
        exact h)
      have HCXE : Hid (((w.alloc (.cells #[.int .i64 x] 3)).alloc (.cells #[] 3)).drew.cell? ⟨w.heap.size, 0, none⟩ = some (.int .i64 x)) := Lib.hid ((Cell1.new w (.int .i64 x) 3).alloc (.cells #[] 3)).cell
      have hzE : (w.alloc (.cells #[] 3)).drew.heap.size = w.heap.size + 1 := by simp
      have hzEX : ((w.alloc (.cells #[] 3)).alloc (.cells #[.int .i64 x] 3)).drew.heap.size = w.heap.size + 2 := by simp
      have hzXE : ((w.alloc (.cells #[.int .i64 x] 3)).alloc (.cells #[] 3)).drew.heap.size = w.heap.size + 2 := by simp
      have HZS := Lib.hid (And.intro hzE (And.intro hzEX hzXE))
      have hk0 : (0 : Int) ≤ (k : Int) := by omega
      have hkc : (k : Int) ≤ (cap : Int) := by omega
      have hkl : (k : Int) ≤ (l.length : Int) := by omega
      clear hzE hzEX hzXE hx
      by_cases hlt2 : k < l.length
      focus
        obtain rfl : a = some ⟨b, off, none⟩ := by rcases ha with ha | ha; exact ha; omega
        have hcell := (hc k hlt2).2
        have hnx : ¬ nth l k < x := fun h => hlt ⟨hlt2, h⟩
        have hnx' : x ≤ nth l k := by omega
        have hsd := HSD.out
        rw [show Option.map (fun x => Addr.add x k) (some ⟨b, off, none⟩) = some ⟨b, off + k, none⟩ by show some (Addr.add _ k) = _; unfold Addr.add; split <;> simp_all] at hsd
        have HSD := Lib.hid hsd
        clear ha hc hlt hnx hsd
        go_wp2
        clear hcell hnx'
      rotate_right
      focus
        clear ha hc hlt
        go_wp2
      all_goals
        go_region_law (first
          | (refine step_append_ints (by rfl) (.tmp 20) (.tmp 23) (by rfl) (B := w.heap.size) (v := .slice (some ⟨w.heap.size, 0, none⟩) 0 0) (xs := []) (l.take k) (by rfl) HOE.out (by rfl) (HSU.out _ HBE.out) HZ1.out (by simp only [List.length_nil]; omega) HBE.out.size ?_
             intro v5 w5 ho5 hg5 hat5
             have HO5 := Lib.hid ho5
             have HB5 : Hid (Below w.heap.size w w5) := Lib.hid (HBE.out.grown hg5 HBE.out.size (HOE.out.rows'))
             obtain ⟨a5, n5, c5, rfl⟩ := ho5.form'
             clear ho5 hg5 hat5)
          | (refine step_append_ints (by rfl) (.tmp 20) (.tmp 23) (by rfl) (B := w.heap.size) (v := .slice (some ⟨w.heap.size, 0, none⟩) 0 0) (xs := []) (l.take k) (by rfl) HOEX.out (by rfl) (HSU.out _ HBEX.out) HZ1.out (by simp only [List.length_nil]; omega) HBEX.out.size ?_
             intro v5 w5 ho5 hg5 hat5
             have HO5 := Lib.hid ho5
             have HB5 : Hid (Below w.heap.size w w5) := Lib.hid (HBEX.out.grown hg5 HBEX.out.size (HOEX.out.rows'))
             have HCX5 : Hid (w5.cell? ⟨w.heap.size + 1, 0, none⟩ = some (.int .i64 x)) := Lib.hid ((hg5.cell_far ⟨w.heap.size + 1, 0, none⟩ (by simp) (by simp [Value.ownBlock])).trans HCEX.out)
             obtain ⟨a5, n5, c5, rfl⟩ := ho5.form'
             clear ho5 hg5 hat5)
          | (refine step_append_ints (by rfl) (.tmp 20) (.tmp 23) (by rfl) (B := w.heap.size) (v := .slice (some ⟨w.heap.size + 1, 0, none⟩) 0 0) (xs := []) (l.take k) (by rfl) HOXE.out (by rfl) (HSU.out _ HBXE.out) HZ1.out (by simp only [List.length_nil]; omega) HBXE.out.size ?_
             intro v5 w5 ho5 hg5 hat5
             have HO5 := Lib.hid ho5
             have HB5 : Hid (Below w.heap.size w w5) := Lib.hid (HBXE.out.grown hg5 HBXE.out.size (HOXE.out.rows'))
             have HCX5 : Hid (w5.cell? ⟨w.heap.size, 0, none⟩ = some (.int .i64 x)) := Lib.hid ((hg5.cell_far ⟨w.heap.size, 0, none⟩ (by simp; omega) (by simp [Value.ownBlock])).trans HCXE.out)
             obtain ⟨a5, n5, c5, rfl⟩ := ho5.form'
             clear ho5 hg5 hat5)
          | (refine step_append_ints (by rfl) (.tmp 24) (.tmp 26) (by rfl) (B := w.heap.size) (v := .slice a5 n5 c5) (vx := .slice (some ⟨w.heap.size + 1, 0, none⟩) 1 1) (xs := [] ++ l.take k) [x] (by rfl) HO5.out (by rfl) (src_one HCX5.out rfl) (by simp; exact HZX.out) (by simp; omega) HB5.out.size ?_
             intro v6 w6 ho6 hg6 hat6
             have HB6 : Hid (Below w.heap.size w w6) := Lib.hid (HB5.out.grown hg6 HB5.out.size HO5.out.rows')
             have HO6 := Lib.hid ho6
             obtain ⟨a6, n6, c6, rfl⟩ := ho6.form'
             clear ho6 hg6 hat6)
          | (refine step_append_ints (by rfl) (.tmp 24) (.tmp 26) (by rfl) (B := w.heap.size) (v := .slice a5 n5 c5) (vx := .slice (some ⟨w.heap.size, 0, none⟩) 1 1) (xs := [] ++ l.take k) [x] (by rfl) HO5.out (by rfl) (src_one HCX5.out rfl) (by simp; exact HZX.out) (by simp; omega) HB5.out.size ?_
             intro v6 w6 ho6 hg6 hat6
             have HB6 : Hid (Below w.heap.size w w6) := Lib.hid (HB5.out.grown hg6 HB5.out.size HO5.out.rows')
             have HO6 := Lib.hid ho6
             obtain ⟨a6, n6, c6, rfl⟩ := ho6.form'
             clear ho6 hg6 hat6)
          | (refine step_append_ints (by rfl) (.tmp 24) (.tmp 26) (by rfl) (B := w.heap.size) (v := .slice a5 n5 c5) (vx := .slice (some ⟨w5.heap.size, 0, none⟩) 1 1) (xs := [] ++ l.take k) [x] (by rfl) (HO5.out.alloc _) (by rfl) (src_one (World.cell?_alloc_at _ _ _ _ rfl) rfl) (by simp; exact HZX.out) (by simp; omega) (HB5.out.alloc HB5.out.size (.cells #[.int .i64 x] 3)).size ?_
             intro v6 w6 ho6 hg6 hat6
             have HB6 : Hid (Below w.heap.size w w6) := Lib.hid ((HB5.out.alloc HB5.out.size (.cells #[.int .i64 x] 3)).grown hg6 (HB5.out.alloc HB5.out.size (.cells #[.int .i64 x] 3)).size HO5.out.rows')
             have HO6 := Lib.hid ho6
             obtain ⟨a6, n6, c6, rfl⟩ := ho6.form'
             clear ho6 hg6 hat6)
          | (refine step_append_ints (by rfl) (.tmp 27) (.tmp 30) (by rfl) (B := w.heap.size) (v := .slice a6 n6 c6) (xs := [] ++ l.take k ++ [x]) (l.drop k) (by rfl) HO6.out (by rfl) (HSD.out _ HB6.out) HZ2.out (by simp; omega) HB6.out.size ?_
             intro v7 w7 ho7 hg7 hat7
             have HB7 : Hid (Below w.heap.size w w7) := Lib.hid (HB6.out.grown hg7 HB6.out.size HO6.out.rows')
             have HO7 := Lib.hid ho7
             obtain ⟨a7, n7, c7, rfl⟩ := ho7.form'
             clear ho7 hg7 hat7))
      all_goals
        go_wp2
      all_goals
        go_ret
        refine ⟨.slice a7 n7 c7, rfl, ?_, HB7.out⟩
        have h := HO7.out
        rw [List.nil_append, HEQ.out] at h
        exact h
end Go.Proofs.Ytmfbabmejbppjaa
