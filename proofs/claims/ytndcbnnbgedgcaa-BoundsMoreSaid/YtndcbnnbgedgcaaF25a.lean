/-
  The walks of flows.different, counter, and the closures of flows.Check.
-/
import Derived.Test.YtndcbnnbgedgcaaRows
import Derived.Test.YtndcbnnbgedgcaaS25
import Derived.Test.YtndcbnnbgedgcaaMaps
set_option linter.unusedVariables false
set_option linter.unusedSimpArgs false
namespace Go.Proofs.Ytndcbnnbgedgcaa
open Go.RowKit

/-- a function value that answers whether a number fulfils a condition, in every world behind w -/
def OkFn (P : Program) (g : FuncId) (cap : Array Value) (w : World) (p : Int → Bool) : Prop :=
  (∀ args W, (callFunc g args).run P W = .ok (.enter g args) W) ∧
  ∀ W x, Below w.heap.size w W → I64 x → Calls P g (#[.int .i64 x] ++ cap) W fun e W' => e = .returned (.bool (p x)) ∧ Below W.heap.size W W'

theorem OkFn.below {P : Program} {g : FuncId} {cap : Array Value} {w w' : World} {p : Int → Bool} (h : OkFn P g cap w p) (hb : Below w.heap.size w w') : OkFn P g cap w' p :=
  ⟨h.1, fun W x hW hx => h.2 W x (hb.trans (hW.mono hb.size)) hx⟩

/-- the same for a function value with bound arguments -/
def OkFn2 (P : Program) (g : FuncId) (first cap : Array Value) (w : World) (d : Int → Prop) (p : Int → Bool) : Prop :=
  (∀ args W, (callFunc g args).run P W = .ok (.enter g args) W) ∧
  ∀ W x, Below w.heap.size w W → d x → Calls P g (first ++ #[.int .i64 x] ++ cap) W fun e W' => e = .returned (.bool (p x)) ∧ Below W.heap.size W W'

/-- do all numbers of a list fulfil a condition, and are they pairwise different? -/
def allB (zs : List Int) (p : Int → Bool) : Bool := zs.all p
theorem allB_succ {zs : List Int} {p : Int → Bool} {k : Nat} (h : k < zs.length) : allB (zs.take (k + 1)) p = (allB (zs.take k) p && p (nth zs k)) := by
  unfold allB; rw [List.take_succ_eq_append_getElem h, nth_lt h, List.all_append]; simp
theorem allB_take_false {zs : List Int} {p : Int → Bool} {k : Nat} (h : allB (zs.take k) p = false) : allB zs p = false := by
  unfold allB at *
  rw [List.all_eq_false] at *
  obtain ⟨x, hx, hp⟩ := h
  exact ⟨x, List.mem_of_mem_take hx, hp⟩
theorem allB_take_all {zs : List Int} {p : Int → Bool} {k : Nat} (h : zs.length ≤ k) : allB (zs.take k) p = allB zs p := by rw [List.take_of_length_le h]

set_option maxHeartbeats 1000000 in
/-- flows.different -/
theorem fdifferent_any (B : Nat) (w : World) (v : Value) (zs : List Int) (g : FuncId) (cap : Array Value) (p : Int → Bool) (hv : IsInts B w v zs) (hB : B ≤ w.heap.size) (hg : OkFn Try.prog g cap w p) :
    Calls Try.prog 47 #[v, .func (.func g) #[] cap] w fun e w' => e = .returned (.bool (diffB zs && allB zs p)) ∧ Below w.heap.size w w' := by
  have HG := Lib.hid hg.2
  have eg := hg.1
  obtain ⟨b, off, cp, ⟨a, rfl, hcap, hmax, ha⟩, hlen, hz, hc⟩ := hv
  have HC := Lib.hid hc
  have HZ := Lib.hid hz
  clear hc hz hg
  have hmm := @run_makeMap Try.prog
  go_enter Try.func47, Try.ntmps47
  go_wp2
  go_loopw [11] (fun i wr => ∃ k : Nat, k ≤ zs.length ∧ i = .int .i64 k ∧ diffB (zs.take k) = true ∧ allB (zs.take k) p = true ∧ SetMap wr w.heap.size (zs.take k) ∧ Below w.heap.size w wr) (fun i _ => zs.length - (intOf i).toNat)
  case atStart => exact ⟨0, by omega, rfl, rfl, rfl, SetMap.made w, box_below' _ _⟩
  case round =>
    obtain ⟨k, hk, rfl, h1, h2, h3, hbr⟩ := hrel
    have H1 := Lib.hid h1
    have H2 := Lib.hid h2
    have H3 := Lib.hid h3
    have HBR := Lib.hid hbr
    clear h1 h2 h3 hbr
    by_cases hlt : k < zs.length
    · obtain rfl : a = some ⟨b, off, none⟩ := by rcases ha with ha | ha; exact ha; omega
      have hcell := (HBR.out.cell (p := ⟨b, off + k, none⟩) (by have := (HC.out k hlt).1; show b < _; omega)).trans (HC.out k hlt).2
      have HS1 := Lib.hid (diffB_succ hlt)
      have HS2 := Lib.hid (allB_succ (p := p) hlt)
      have HT := Lib.hid (List.take_succ_eq_append_getElem hlt)
      have HX : Hid (I64 (nth zs k)) := Lib.hid (HZ.out _ (by rw [nth_eq_getElem hlt]; exact List.getElem_mem hlt))
      cases hm : hasB (zs.take k) (nth zs k)
      · have HM := Lib.hid hm
        clear hm
        cases hp : p (nth zs k)
        · have HP := Lib.hid hp
          have HF : Hid ((diffB zs && allB zs p) = false) := Lib.hid (by rw [allB_take_false (k := k + 1) (by rw [HS2.out, hp]; simp)]; simp)
          clear hp
          go_wp2_with (first
            | (at_lookup; refine wpList_lookup_set rfl _ _ rfl Try.underlying89 Try.underlying3 (Try.zeroValue4 _) rfl H3.out rfl ?_; rw [HM.out])
            | (refine (HG.out wr (nth zs k) HBR.out HX.out).mono ?_; rintro e w7 ⟨rfl, hb7⟩; have HB7 := Lib.hid hb7; clear hb7; rw [HP.out]))
          go_ret
          exact ⟨by rw [HF.out]; rfl, HBR.out.trans (HB7.out.mono HBR.out.size)⟩
        · have HP := Lib.hid hp
          clear hp
          go_wp2_with (first
            | (at_lookup; refine wpList_lookup_set rfl _ _ rfl Try.underlying89 Try.underlying3 (Try.zeroValue4 _) rfl H3.out rfl ?_; rw [HM.out])
            | (refine (HG.out wr (nth zs k) HBR.out HX.out).mono ?_; rintro e w7 ⟨rfl, hb7⟩; have HB7 := Lib.hid hb7; clear hb7; rw [HP.out])
            | (at_mapUpdate; refine wpList_update_set rfl _ _ _ rfl Try.underlying89 Try.underlying3 rfl (H3.out.ext HB7.out) rfl rfl ?_; intro w8 hs8 hg8 hz8; have HS8 := Lib.hid hs8; have HG8 := Lib.hid hg8; clear hs8 hg8 hz8))
          go_roundw
          case rel =>
            exact ⟨k + 1, by omega, by go_num, by rw [HS1.out, H1.out, HM.out]; rfl, by rw [HS2.out, H2.out, HP.out]; rfl,
              by rw [HT.out, ← nth_eq_getElem hlt]; exact HS8.out, (HBR.out.trans (HB7.out.mono HBR.out.size)).grown HG8.out (by have := HB7.out.size; have := HBR.out.size; omega) (fun q hq => by cases hq; exact Nat.le_refl _)⟩
          case measure => simp [intOf]; omega
      · have HM := Lib.hid hm
        have HF : Hid ((diffB zs && allB zs p) = false) := Lib.hid (by rw [diffB_take_false (k := k + 1) (by rw [HS1.out, hm]; simp)]; simp)
        clear hm
        go_wp2_with (at_lookup; refine wpList_lookup_set rfl _ _ rfl Try.underlying89 Try.underlying3 (Try.zeroValue4 _) rfl H3.out rfl ?_; rw [HM.out])
        go_ret
        exact ⟨by rw [HF.out]; rfl, HBR.out⟩
    · have HF : Hid ((diffB zs && allB zs p) = true) := Lib.hid (by rw [← diffB_take_all (k := k) (by omega), ← allB_take_all (k := k) (by omega), H1.out, H2.out]; rfl)
      go_wp2
      go_ret
      exact ⟨by rw [HF.out]; rfl, HBR.out⟩

end Go.Proofs.Ytndcbnnbgedgcaa
