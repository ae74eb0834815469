/-
  Layer 31: the walk of promise.Since.
-/
import Derived.Test.YtndcbnnbgedgcaaP31g
import Derived.Shelf.Abstract
set_option linter.unusedVariables false
set_option linter.unusedSimpArgs false
namespace Go.Proofs.Ytndcbnnbgedgcaa
open Go.RowKit

def SinceAns (f : Flow) (s need : Int) (n : Int) (ok : Bool) (er : Int) : Prop :=
  er = reachE f s ∧ ((reachE f s ≠ 0 ∧ n = 0 ∧ ok = false) ∨ (reachE f s = 0 ∧ ∃ r : Nat, SearchAns (enoughK f s need) (f.lots.length + 1) r ∧ ((r ≤ f.lots.length ∧ n = r ∧ ok = true) ∨ (f.lots.length < r ∧ n = 0 ∧ ok = false))))

set_option maxHeartbeats 1000000 in
/-- promise.Since -/
theorem since_any (B : Nat) (w : World) (vs vl : Value) (f : Flow) (s need : Int) (hf : IsFlow B w vs vl f) (hB : B ≤ w.heap.size) (hs : I64 s) :
    Calls Try.prog 18 #[.agg #[vs, vl], .int .i64 s, .int .i64 need] w fun e w' => ∃ n ok er, e = .returned (.tuple #[.int .i64 n, .bool ok, .int .i64 er]) ∧ SinceAns f s need n ok er ∧ Below w.heap.size w w' := by
  have HF := Lib.hid hf
  obtain ⟨rfl, ⟨hs1, hs2⟩, hl⟩ := hf
  obtain ⟨b, off, cap, ⟨a, rfl, hcap, hmax, ha⟩, hlen, hc⟩ := hl
  clear hc ha
  have HC := Lib.hid (fun o o' o2 => crowd_any B (((w.alloc o).alloc o').alloc o2) _ _ f s (HF.out.below ((((Below.refl B w).alloc hB o).alloc (by simp; omega) o').alloc (by simp; omega) o2) (Nat.le_refl _)) (by simp; omega) hs)
  by_cases h1 : reachE f s = 0
  · have h1' : (reachE f s != 0) = false := by simpa using h1
    have H1 := Lib.hid h1
    clear h1
    go_enter Try.func18, Try.ntmps18
    go_wp2_with fail
    refine (HC.out _ _ _).mono ?_
    rintro e w5 ⟨rfl, hb5⟩
    have HX5 := Lib.hid ((((Box.new w #[.int .i64 f.senders, .slice a f.lots.length cap] 24).alloc (.cells #[.int .i64 s] 3)).alloc (.cells #[.int .i64 need] 3)).ext hb5)
    have HS5 := Lib.hid (((Box.new (w.alloc (.cells #[.int .i64 f.senders, .slice a f.lots.length cap] 24)) #[.int .i64 s] 3).alloc (.cells #[.int .i64 need] 3)).ext hb5)
    have HN5 := Lib.hid ((Box.new ((w.alloc (.cells #[.int .i64 f.senders, .slice a f.lots.length cap] 24)).alloc (.cells #[.int .i64 s] 3)) #[.int .i64 need] 3).ext hb5)
    have HW5 : Hid (Below w.heap.size w w5) := Lib.hid (((((Below.refl _ w).alloc (Nat.le_refl _) _).alloc (by simp) _).alloc (by simp; omega) _).trans (hb5.mono (by simp; omega)))
    simp only [World.size_alloc] at HS5 HN5 ⊢
    have HOK : Hid (OkPred Try.prog 39 #[.pointer (some ⟨w.heap.size, 0, none⟩), .pointer (some ⟨w.heap.size + 1, 0, none⟩), .pointer (some ⟨w.heap.size + 1 + 1, 0, none⟩)] w5 (f.lots.length + 1) (enoughK f s need)) := by
      refine Lib.hid ⟨enters_of Try.func39 (by kernel_rfl) rfl, fun W k hW hk => ?_⟩
      exact since1_any B w.heap.size (w.heap.size + 1) (w.heap.size + 1 + 1) W _ a cap f s need k (HF.out.below (HW5.out.trans (hW.mono HW5.out.size)) hB) (by have := HW5.out.size; have := hW.size; omega) hs (HX5.out.ext hW) (HS5.out.ext hW) (HN5.out.ext hW) (by omega)
    have HSR := Lib.hid (search_any w5 (f.lots.length + 1) _ _ _ HOK.out (by omega))
    have hsum : ((f.lots.length + 1 : Nat) : Int) = (f.lots.length : Int) + 1 := by omega
    rw [hsum] at HSR
    obtain ⟨z5, r5⟩ := HX5.out
    have HXE := Lib.hid (fun W hb => HX5.out.ext (w' := W) hb)
    clear hb5 HS5 HN5 HOK hsum
    have hmf := @run_makeFunc_any Try.prog
    go_wp2_with fail
    refine HSR.out.mono ?_
    rintro e w6 ⟨r, rfl, hans, hb6⟩
    have HA := Lib.hid hans
    have HX6 := Lib.hid (HXE.out _ hb6)
    have HW6 : Hid (Below w.heap.size w w6) := Lib.hid (HW5.out.trans (hb6.mono HW5.out.size))
    clear hans hb6 z5 r5
    obtain ⟨z6, r6⟩ := HX6.out
    by_cases hr : r ≤ f.lots.length
    · have hr' : decide ((f.lots.length : Int) < (r : Int)) = false := decide_eq_false (by omega)
      go_wp2
      refine bodyPost_ret (v := .tuple #[.int .i64 r, .bool true, .int .i64 0]) (by simp [results, Try.results18, go_sem]) rfl ?_
      exact ⟨_, _, _, rfl, ⟨H1.out.symm, Or.inr ⟨H1.out, r, HA.out, Or.inl ⟨hr, rfl, rfl⟩⟩⟩, HW6.out⟩
    · have hr' : decide ((f.lots.length : Int) < (r : Int)) = true := decide_eq_true (by omega)
      go_wp2
      refine bodyPost_ret (v := .tuple #[.int .i64 0, .bool false, .int .i64 0]) (by simp [results, Try.results18, go_sem]) rfl ?_
      exact ⟨_, _, _, rfl, ⟨H1.out.symm, Or.inr ⟨H1.out, r, HA.out, Or.inr ⟨by omega, rfl, rfl⟩⟩⟩, HW6.out⟩
  · have h1' : (reachE f s != 0) = true := by simpa using h1
    have H1 := Lib.hid h1
    clear h1
    go_enter Try.func18, Try.ntmps18
    go_wp2_with fail
    refine (HC.out _ _ _).mono ?_
    rintro e w5 ⟨rfl, hb5⟩
    have HW5 : Hid (Below w.heap.size w w5) := Lib.hid (((((Below.refl _ w).alloc (Nat.le_refl _) _).alloc (by simp) _).alloc (by simp; omega) _).trans (hb5.mono (by simp; omega)))
    clear hb5
    go_wp2
    refine bodyPost_ret (v := .tuple #[.int .i64 0, .bool false, .int .i64 (reachE f s)]) (by simp [results, Try.results18, go_sem]) rfl ?_
    exact ⟨_, _, _, rfl, ⟨rfl, Or.inl ⟨H1.out, rfl, rfl⟩⟩, HW5.out⟩

end Go.Proofs.Ytndcbnnbgedgcaa
