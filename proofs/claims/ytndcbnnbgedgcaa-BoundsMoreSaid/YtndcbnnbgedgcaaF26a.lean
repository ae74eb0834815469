/-
  The walks of the sets of layer 26.
-/
import Derived.Test.YtndcbnnbgedgcaaRows
import Derived.Test.YtndcbnnbgedgcaaRange
import Derived.StillTailTactics
set_option linter.unusedVariables false
set_option linter.unusedSimpArgs false
namespace Go.Proofs.Ytndcbnnbgedgcaa
open Go.RowKit

def word (i j : Nat) : Int := ((64 * i + j : Nat) : Int)
/-- block b is a set of m words that holds the numbers S -/
def BitSet (w : World) (b m : Nat) (S : List Int) : Prop :=
  ∃ c t, w.heap[b]? = some (.cells c t (0, 0)) ∧ c.size = m ∧ ∀ i, i < m → ∃ n : Nat, c[i]? = some (.int .u64 n) ∧ n < 18446744073709551616 ∧ ∀ j, j < 64 → n.testBit j = hasB S (word i j)
theorem BitSet.lt {w : World} {b m : Nat} {S : List Int} (h : BitSet w b m S) : b < w.heap.size := by obtain ⟨c, t, h, _⟩ := h; exact (Array.getElem?_eq_some_iff.1 h).1
theorem BitSet.turned {X : Nat → Prop} {w w' : World} {b m : Nat} {S : List Int} (h : BitSet w b m S) (ht : Turned X w w') (hx : ¬ X b) : BitSet w' b m S := by
  have hl := h.lt
  obtain ⟨c, t, h, r⟩ := h
  exact ⟨c, t, (ht.block b hl hx).trans h, r⟩
theorem BitSet.below {B : Nat} {w w' : World} {b m : Nat} {S : List Int} (h : BitSet w b m S) (hb : Below B w w') (hB : b < B) : BitSet w' b m S := by
  obtain ⟨c, t, h, r⟩ := h
  exact ⟨c, t, (hb.block b hB).trans h, r⟩
theorem BitSet.ext {w w' : World} {b m : Nat} {S : List Int} (h : BitSet w b m S) (hb : Below w.heap.size w w') : BitSet w' b m S := h.below hb h.lt
theorem BitSet.alloc {w : World} {b m : Nat} {S : List Int} (h : BitSet w b m S) (o : Obj) : BitSet (w.alloc o) b m S := h.ext (box_below' w o)
theorem BitSet.grown {w w' : World} {b m : Nat} {S : List Int} {row : Option Nat} (h : BitSet w b m S) (hg : w.grownBy w' row) (hne : some b ≠ row) : BitSet w' b m S := by
  have hl := h.lt
  obtain ⟨c, t, h, r⟩ := h
  exact ⟨c, t, (hg.block b hl hne).trans h, r⟩

theorem word_split (x : Nat) : word (x / 64) (x % 64) = (x : Int) := by unfold word; congr 1; omega
theorem and_one (n : Nat) (hn : n < 18446744073709551616) (k : Nat) : (bits BinOp.and IntKind.u64 ((n : Int) / 2 ^ k) 1 == 1) = n.testBit k := by
  have e : ((n : Int) / 2 ^ k) = ((n / 2 ^ k : Nat) : Int) := by simp
  have h1 : n / 2 ^ k < 18446744073709551616 := Nat.lt_of_le_of_lt (Nat.div_le_self _ _) hn
  rw [e, show (1 : Int) = ((1 : Nat) : Int) from rfl, bits_and_u64_nat _ _ h1 (by omega)]
  rw [Nat.testBit_eq_decide_div_mod_eq, Nat.and_one_is_mod, Bool.eq_iff_iff]
  simp only [beq_iff_eq, decide_eq_true_eq]
  omega
theorem or_pow (n : Nat) (hn : n < 18446744073709551616) (k : Nat) (hk : k < 64) : bits BinOp.or IntKind.u64 (n : Int) (IntKind.u64.wrap (2 ^ k)) = ((n ||| 2 ^ k : Nat) : Int) := by
  have hp : 2 ^ k < 18446744073709551616 := by
    have : 2 ^ k < 2 ^ 64 := Nat.pow_lt_pow_right (by omega) hk
    omega
  have e : ((2 : Int) ^ k) = ((2 ^ k : Nat) : Int) := by simp
  have e2 : IntKind.u64.wrap ((2 : Int) ^ k) = ((2 ^ k : Nat) : Int) := by rw [e]; generalize (2 ^ k : Nat) = q at hp; exact IntWalk.u64_in _ (by omega)
  rw [e2, bits_or_u64_nat _ _ hn hp]

/-- set.has -/
theorem bhas_any (b m cap : Nat) (S : List Int) (x : Nat) (w : World) (hs : BitSet w b m S) (hx : x / 64 < m) (hm : m ≤ 1000000) :
    Calls Try.prog 78 #[.slice (some ⟨b, 0, none⟩) m cap, .int .i64 x] w fun e w' => e = .returned (.bool (hasB S x)) ∧ w' = w := by
  obtain ⟨c, t, hb, hcs, hw⟩ := hs
  obtain ⟨n, hn1, hn2, hn3⟩ := hw _ hx
  have HA := Lib.hid (and_one n hn2 (x % 64))
  have HB := Lib.hid (hn3 (x % 64) (by omega))
  have HW := Lib.hid (word_split x)
  have hc : w.cell? ⟨b, x / 64, none⟩ = some (.int .u64 n) := by simp only [World.cell?, hb]; simpa using hn1
  clear hn3 hw hb hcs hn1
  go_enter Try.func78, Try.ntmps78
  go_wp2
  go_ret
  refine ⟨?_, rfl⟩
  rw [← HW.out, ← HB.out, ← HA.out]
  rfl

set_option maxRecDepth 100000 in
/-- set.add -/
theorem badd_any (b m cap : Nat) (S : List Int) (x : Nat) (w : World) (hs : BitSet w b m S) (hx : x / 64 < m) (hm : m ≤ 1000000) :
    Calls Try.prog 95 #[.slice (some ⟨b, 0, none⟩) m cap, .int .i64 x] w fun e w' => e = .returned (.tuple #[]) ∧ BitSet w' b m (S ++ [(x : Int)]) ∧ w.grownBy w' (some b) ∧ w'.heap.size = w.heap.size := by
  obtain ⟨c, t, hb, hcs, hw⟩ := hs
  obtain ⟨n, hn1, hn2, hn3⟩ := hw _ hx
  have HO := Lib.hid (or_pow n hn2 (x % 64) (by omega))
  have HB := Lib.hid hb
  have HCS := Lib.hid hcs
  have HWW := Lib.hid hw
  have HN1 := Lib.hid hn1
  have HN3 := Lib.hid hn3
  have hc : w.cell? ⟨b, x / 64, none⟩ = some (.int .u64 n) := by simp only [World.cell?, hb]; simpa using hn1
  have hf : w.frozen? ⟨b, x / 64, none⟩ = false := by simp [World.frozen?, hb]
  clear hn3 hw hb hcs hn1
  go_enter Try.func95, Try.ntmps95
  go_wp2
  go_region
  go_end0
  have hdr : ∀ v : Value, w.grownBy (w.setCell ⟨b, x / 64, none⟩ v).drew (some b) := fun v => ⟨rfl, rfl, rfl, by simp [World.setCell, World.drew], (grown_setCell w ⟨b, x / 64, none⟩ v).block⟩
  refine ⟨rfl, ?_, hdr _, by simp [World.setCell, World.drew]⟩
  rw [HO.out]
  refine ⟨c.setIfInBounds (x / 64) (.int .u64 ((n ||| 2 ^ (x % 64) : Nat) : Int)), t, ?_, by simp [HCS.out], ?_⟩
  · have hb := HB.out
    show (w.setCell ⟨b, x / 64, none⟩ _).heap[b]? = _
    simp [World.setCell, Array.getElem?_modify, hb]
  · intro i hi
    by_cases e : i = x / 64
    · subst e
      refine ⟨n ||| 2 ^ (x % 64), by simp [HCS.out, hi], ?_, fun j hj => ?_⟩
      · have h1 : n ||| 2 ^ (x % 64) < 2 ^ 64 := Nat.or_lt_two_pow (by omega) (Nat.pow_lt_pow_right (by omega) (by omega))
        omega
      · rw [Nat.testBit_or, HN3.out j hj, hasB_snoc, Nat.testBit_two_pow]
        congr 1
        rw [Bool.eq_iff_iff]
        simp only [decide_eq_true_eq, beq_iff_eq, word]
        omega
    · obtain ⟨n', h1, h2, h3⟩ := HWW.out i hi
      refine ⟨n', by simp [Ne.symm e, h1], h2, fun j hj => ?_⟩
      rw [h3 j hj, hasB_snoc]
      have : ((x : Int) == word i j) = false := by simp only [beq_eq_false_iff_ne, ne_eq, word]; omega
      rw [this, Bool.or_false]

end Go.Proofs.Ytndcbnnbgedgcaa
namespace Go.Proofs.Ytndcbnnbgedgcaa
open Go.RowKit

theorem bhas_int (b m cap : Nat) (S : List Int) (x : Int) (w : World) (hs : BitSet w b m S) (h0 : 0 ≤ x) (hx : x < 64 * m) (hm : m ≤ 1000000) :
    Calls Try.prog 78 #[.slice (some ⟨b, 0, none⟩) m cap, .int .i64 x] w fun e w' => e = .returned (.bool (hasB S x)) ∧ w' = w := by
  obtain ⟨n, rfl⟩ := Int.eq_ofNat_of_zero_le h0
  exact bhas_any b m cap S n w hs (by omega) hm
theorem badd_int (b m cap : Nat) (S : List Int) (x : Int) (w : World) (hs : BitSet w b m S) (h0 : 0 ≤ x) (hx : x < 64 * m) (hm : m ≤ 1000000) :
    Calls Try.prog 95 #[.slice (some ⟨b, 0, none⟩) m cap, .int .i64 x] w fun e w' => e = .returned (.tuple #[]) ∧ BitSet w' b m (S ++ [x]) ∧ w.grownBy w' (some b) ∧ w'.heap.size = w.heap.size := by
  obtain ⟨n, rfl⟩ := Int.eq_ofNat_of_zero_le h0
  exact badd_any b m cap S n w hs (by omega) hm
theorem BitSet.same {w : World} {b m : Nat} {S T : List Int} (h : BitSet w b m S) (hst : ∀ y, hasB S y = hasB T y) : BitSet w b m T := by
  obtain ⟨c, t, h1, h2, h3⟩ := h
  refine ⟨c, t, h1, h2, fun i hi => ?_⟩
  obtain ⟨n, a1, a2, a3⟩ := h3 i hi
  exact ⟨n, a1, a2, fun j hj => by rw [a3 j hj, hst]⟩

end Go.Proofs.Ytndcbnnbgedgcaa
