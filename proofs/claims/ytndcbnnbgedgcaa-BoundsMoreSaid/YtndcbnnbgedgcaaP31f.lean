/-
  Layer 31: the walks of promise.Since$1, sort.Search.
-/
import Derived.Test.YtndcbnnbgedgcaaP31e
import Derived.Deep.RegionHeld3
set_option linter.unusedVariables false
set_option linter.unusedSimpArgs false
namespace Go.Proofs.Ytndcbnnbgedgcaa
open Go.RowKit

/-- the crowd after k lots -/
def crowdK (f : Flow) (s : Int) (k : Nat) : Int := (reachR (preF f k) s).length
def enoughK (f : Flow) (s need : Int) (k : Nat) : Bool := !decide (crowdK f s k < need)

set_option maxHeartbeats 1000000 in
set_option maxRecDepth 100000 in
/-- promise.Since$1 -/
theorem since1_any (B bf bs bn : Nat) (w : World) (vs : Value) (a : Option Addr) (cap : Nat) (f : Flow) (s need : Int) (k : Nat) (hf : IsFlow B w vs (.slice a f.lots.length cap) f) (hB : B ≤ w.heap.size) (hs : I64 s)
    (hxf : Box w bf #[vs, .slice a f.lots.length cap]) (hxs : Box w bs #[.int .i64 s]) (hxn : Box w bn #[.int .i64 need]) (hk : k ≤ f.lots.length) :
    Calls Try.prog 39 #[.int .i64 k, .pointer (some ⟨bf, 0, none⟩), .pointer (some ⟨bs, 0, none⟩), .pointer (some ⟨bn, 0, none⟩)] w fun e w' => e = .returned (.bool (enoughK f s need k)) ∧ Below w.heap.size w w' := by
  have hdr : Below w.heap.size w w.drew := (Drew.refl w |>.drewN 1 |>.below _)
  have HP := Lib.hid (fun W (hb : Below w.heap.size w W) => ((hf.pre hk).below hb hB))
  have HXN := Lib.hid hxn
  obtain ⟨rfl, ⟨hs1, hs2⟩, hl⟩ := hf
  obtain ⟨b, off, cap', ⟨a', hv, hcap, hmax, ha⟩, hlen, hc⟩ := hl
  cases hv
  clear hc
  have hrl : ((reachR (preF f k) s).length : Int) = crowdK f s k := rfl
  have HE : Hid (enoughK f s need k = !decide (crowdK f s k < need)) := Lib.hid rfl
  obtain ⟨c, hcc⟩ : ∃ c, crowdK f s k = c := ⟨_, rfl⟩
  rw [hcc] at hrl HE
  have HRL := Lib.hid hrl
  have HDR := Lib.hid hdr
  clear hcc hrl hdr hxn
  obtain ⟨z1, r1⟩ := hxf
  obtain ⟨z2, r2⟩ := hxs
  have r10 := r1 0
  have r11 := r1 1
  have r20 := r2 0
  simp at r10 r11 r20
  have HKP : Hid (∀ W, Below w.heap.size w W → W.cell? ⟨bf, 0, none⟩ = some (.int .i64 f.senders) ∧ W.cell? ⟨bf, 1, none⟩ = some (.slice a f.lots.length cap) ∧ W.cell? ⟨bs, 0, none⟩ = some (.int .i64 s) ∧ Below w.heap.size w W) :=
    Lib.hid fun W hb => ⟨(hb.cell (p := ⟨bf, 0, none⟩) z1).trans r10, (hb.cell (p := ⟨bf, 1, none⟩) z1).trans r11, (hb.cell (p := ⟨bs, 0, none⟩) z2).trans r20, hb⟩
  clear r1 r2
  have hk0 : (0 : Int) ≤ (k : Int) := by omega
  have hkc : (k : Int) ≤ (cap : Int) := by omega
  have hkn : k ≤ cap := by omega
  go_enter Try.func39, Try.ntmps39
  go_wp2
  go_region_held3 (fun W => W.cell? ⟨bf, 0, none⟩ = some (.int .i64 f.senders) ∧ W.cell? ⟨bf, 1, none⟩ = some (.slice a f.lots.length cap) ∧ W.cell? ⟨bs, 0, none⟩ = some (.int .i64 s) ∧ Below w.heap.size w W) (first | exact HKP.out _ HDR.out | exact HKP.out _ (by assumption))
    (first | (go_at_call 13; refine (crowd_any B _ _ _ (preF f k) s (HP.out _ (by assumption)) (by have := (‹Below w.heap.size w _›).size; omega) hs).mono ?_; rintro e w5 ⟨rfl, hb5⟩; rw [HRL.out]; have hb6 := (‹Below w.heap.size w _›).trans (hb5.mono (‹Below w.heap.size w _›).size)))
  have hb6 : Below w.heap.size w w5 := by assumption
  have HW5 := Lib.hid hb6
  have HXN5 := Lib.hid (HXN.out.ext HW5.out)
  obtain ⟨z3, r3⟩ := HXN5.out
  go_wp2_with (go_at_call 37; refine (less_any _ _ _).mono ?_; rintro e w6 ⟨rfl, rfl⟩)
  go_ret
  exact ⟨by rw [HE.out]; rfl, HW5.out⟩

end Go.Proofs.Ytndcbnnbgedgcaa
