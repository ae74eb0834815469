/-
  The walks of slices.IndexFunc and slices.ContainsFunc at lists of numbers.
-/
import Derived.Test.YtndcbnnbgedgcaaF25a
import Derived.Test.YtndcbnnbgedgcaaF26a
set_option linter.unusedVariables false
set_option linter.unusedSimpArgs false
namespace Go.Proofs.Ytndcbnnbgedgcaa
open Go.RowKit

/-- is there a number in a list that fulfils a condition? -/
def anyB (zs : List Int) (p : Int → Bool) : Bool := zs.any p
theorem anyB_succ {zs : List Int} {p : Int → Bool} {k : Nat} (h : k < zs.length) : anyB (zs.take (k + 1)) p = (anyB (zs.take k) p || p (nth zs k)) := by
  unfold anyB; rw [List.take_succ_eq_append_getElem h, nth_lt h, List.any_append]; simp
theorem anyB_of_take {zs : List Int} {p : Int → Bool} {k : Nat} (h : anyB (zs.take k) p = true) : anyB zs p = true := by
  unfold anyB at *
  rw [List.any_eq_true] at *
  obtain ⟨x, hx, hp⟩ := h
  exact ⟨x, List.mem_of_mem_take hx, hp⟩
theorem anyB_take_all {zs : List Int} {p : Int → Bool} {k : Nat} (h : zs.length ≤ k) : anyB (zs.take k) p = anyB zs p := by rw [List.take_of_length_le h]

set_option maxHeartbeats 1000000 in
/-- slices.IndexFunc: the index of the first number that fulfils a condition; below 0 if there is none -/
theorem indexf_any (B : Nat) (w : World) (v : Value) (zs : List Int) (g : FuncId) (first cap : Array Value) (d : Int → Prop) (p : Int → Bool) (hv : IsInts B w v zs) (hB : B ≤ w.heap.size) (hg : OkFn2 Try.prog g first cap w d p) (hdz : ∀ x ∈ zs, d x) :
    Calls Try.prog 83 #[v, .func (.func g) first cap] w fun e w' => ∃ i : Int, e = .returned (.int .i64 i) ∧ decide (0 ≤ i) = anyB zs p ∧ Below w.heap.size w w' := by
  have HG := Lib.hid hg.2
  have eg := hg.1
  obtain ⟨b, off, cp, ⟨a, rfl, hcap, hmax, ha⟩, hlen, hz, hc⟩ := hv
  have HC := Lib.hid hc
  have HZ := Lib.hid hdz
  clear hc hz hg hdz
  go_enter Try.func83, Try.ntmps83
  go_wp2
  go_loopw [8] (fun i wr => ∃ k : Nat, k ≤ zs.length ∧ i = .int .i64 k ∧ anyB (zs.take k) p = false ∧ Below w.heap.size w wr) (fun i _ => zs.length - (intOf i).toNat)
  case atStart => exact ⟨0, by omega, rfl, rfl, Below.refl _ _⟩
  case round =>
    obtain ⟨k, hk, rfl, h1, hbr⟩ := hrel
    have H1 := Lib.hid h1
    have HBR := Lib.hid hbr
    clear h1 hbr
    by_cases hlt : k < zs.length
    · obtain rfl : a = some ⟨b, off, none⟩ := by rcases ha with ha | ha; exact ha; omega
      have hcell := (HBR.out.cell (p := ⟨b, off + k, none⟩) (by have := (HC.out k hlt).1; show b < _; omega)).trans (HC.out k hlt).2
      have HS1 := Lib.hid (anyB_succ (p := p) hlt)
      have HX : Hid (d (nth zs k)) := Lib.hid (HZ.out _ (by rw [nth_eq_getElem hlt]; exact List.getElem_mem hlt))
      cases hp : p (nth zs k)
      · have HP := Lib.hid hp
        clear hp
        go_wp2_with (refine (HG.out wr (nth zs k) HBR.out HX.out).mono ?_; rintro e w7 ⟨rfl, hb7⟩; have HB7 := Lib.hid hb7; clear hb7; rw [HP.out])
        go_roundw
        case rel => exact ⟨k + 1, by omega, by go_num, by rw [HS1.out, H1.out, HP.out]; rfl, HBR.out.trans (HB7.out.mono HBR.out.size)⟩
        case measure => simp [intOf]; omega
      · have HP := Lib.hid hp
        clear hp
        go_wp2_with (refine (HG.out wr (nth zs k) HBR.out HX.out).mono ?_; rintro e w7 ⟨rfl, hb7⟩; have HB7 := Lib.hid hb7; clear hb7; rw [HP.out])
        go_ret
        exact ⟨k, rfl, by rw [anyB_of_take (k := k + 1) (by rw [HS1.out, HP.out]; simp)]; simp, HBR.out.trans (HB7.out.mono HBR.out.size)⟩
    · have HF : Hid (anyB zs p = false) := Lib.hid (by rw [← anyB_take_all (k := k) (by omega)]; exact H1.out)
      go_wp2
      go_ret
      exact ⟨-1, rfl, by rw [HF.out]; rfl, HBR.out⟩

/-- slices.ContainsFunc -/
theorem containsf_any (B : Nat) (w : World) (v : Value) (zs : List Int) (g : FuncId) (first cap : Array Value) (d : Int → Prop) (p : Int → Bool) (hv : IsInts B w v zs) (hB : B ≤ w.heap.size) (hg : OkFn2 Try.prog g first cap w d p) (hdz : ∀ x ∈ zs, d x) :
    Calls Try.prog 53 #[v, .func (.func g) first cap] w fun e w' => e = .returned (.bool (anyB zs p)) ∧ Below w.heap.size w w' := by
  have HC := Lib.hid (indexf_any B w v zs g first cap d p hv hB hg hdz)
  clear hg hv hdz
  go_enter Try.func53, Try.ntmps53
  go_wp2_with (go_at_call 83; refine HC.out.mono ?_; rintro e w5 ⟨i, rfl, hi, hb5⟩; have HI := Lib.hid hi; have HB5 := Lib.hid hb5; clear hi hb5)
  go_ret
  exact ⟨by rw [← HI.out]; rfl, HB5.out⟩

end Go.Proofs.Ytndcbnnbgedgcaa
