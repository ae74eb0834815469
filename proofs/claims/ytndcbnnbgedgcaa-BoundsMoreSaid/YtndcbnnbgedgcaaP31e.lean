/-
  Layer 31: the first lots of a flow; the walks of frankingref31.First and promise.Since$1.
-/
import Derived.Test.YtndcbnnbgedgcaaP31d
import Derived.StillTailTactics
set_option linter.unusedVariables false
set_option linter.unusedSimpArgs false
namespace Go.Proofs.Ytndcbnnbgedgcaa
open Go.RowKit

/-- the first k lots of a flow -/
def preF (f : Flow) (k : Nat) : Flow := ⟨f.senders, f.lots.take k⟩
theorem lotAt_take {ls : List Lot} {k j : Nat} (h : j < k) : lotAt (ls.take k) j = lotAt ls j := by
  unfold lotAt
  rw [List.getD_eq_getElem?_getD, List.getD_eq_getElem?_getD, List.getElem?_take, if_pos h]
theorem IsFlow.pre {B : Nat} {w : World} {vs : Value} {f : Flow} {a : Option Addr} {cap k : Nat} (h : IsFlow B w vs (.slice a f.lots.length cap) f) (hk : k ≤ f.lots.length) : IsFlow B w vs (.slice a k cap) (preF f k) := by
  obtain ⟨h1, h2, b, off, cap', ⟨a', hv, h3, h4, h5⟩, h6, h7⟩ := h
  cases hv
  have hl : (preF f k).lots.length = k := by simp [preF]; omega
  refine ⟨h1, h2, b, off, cap, ⟨a, by rw [hl], by omega, h4, ?_⟩, by omega, fun j hj => ?_⟩
  · rcases h5 with h5 | h5
    · exact Or.inl h5
    · exact Or.inr (by omega)
  · rw [hl] at hj
    have := h7 j (by omega)
    simp only [preF, lotAt_take hj]
    exact this

set_option maxHeartbeats 1000000 in
/-- frankingref31.First -/
theorem first_any (B : Nat) (w : World) (vs : Value) (a : Option Addr) (cap : Nat) (f : Flow) (k : Nat) (hf : IsFlow B w vs (.slice a f.lots.length cap) f) (hk : k ≤ f.lots.length) :
    Calls Try.prog 21 #[.agg #[vs, .slice a f.lots.length cap], .int .i64 k] w fun e w' => e = .returned (.agg #[vs, .slice a k cap]) ∧ Below w.heap.size w w' := by
  obtain ⟨rfl, ⟨hs1, hs2⟩, hl⟩ := hf
  obtain ⟨b, off, cap', ⟨a', hv, hcap, hmax, ha⟩, hlen, hc⟩ := hl
  cases hv
  clear hc
  go_enter Try.func21, Try.ntmps21
  go_wp2
  go_region
  have hB3 : Below w.heap.size w ((w.alloc (.cells #[.int .i64 f.senders, .slice a f.lots.length cap] 24)).alloc (.cells #[.int .i64 f.senders, .slice a k cap] 24)).drew :=
    ((((Below.refl _ w).alloc (Nat.le_refl _) _).alloc (by simp) _)).trans ((Drew.refl _ |>.drewN 1 |>.below _))
  have hx := Box.new (w.alloc (.cells #[.int .i64 f.senders, .slice a f.lots.length cap] 24)) #[.int .i64 f.senders, .slice a k cap] 24
  have hxd := hx.ext ((Drew.refl _ |>.drewN 1 |>.below _))
  rw [World.size_alloc] at hxd
  obtain ⟨zx, rx⟩ := hxd
  clear hx
  obtain ⟨w2, hw2⟩ : ∃ w2, ((w.alloc (.cells #[.int .i64 f.senders, .slice a f.lots.length cap] 24)).alloc (.cells #[.int .i64 f.senders, .slice a k cap] 24)).drew = w2 := ⟨_, rfl⟩
  have rx' : ∀ i, w2.cell? ⟨w.heap.size + 1, i, none⟩ = (#[.int .i64 f.senders, .slice a k cap] : Array Value)[i]? := by rw [← hw2]; exact rx
  rw [hw2] at hB3 ⊢
  clear hw2 rx zx
  have r0 := rx' 0
  have r1 := rx' 1
  clear rx'
  go_wp2
  refine bodyPost_ret (v := .agg #[.int .i64 f.senders, .slice a k cap]) ?_ rfl ⟨rfl, hB3⟩
  simp at r0 r1
  simp [results, Try.results21, go_sem, r0, r1]

end Go.Proofs.Ytndcbnnbgedgcaa
