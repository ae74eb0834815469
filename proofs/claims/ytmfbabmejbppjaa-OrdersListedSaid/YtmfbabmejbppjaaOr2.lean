/-
  Layer 18: the walks of index, slices.IndexFunc and ContainsFunc at names.
-/
import Derived.Test.YtmfbabmejbppjaaOr1
import Derived.Test.YtmfbabmejbppjaaOn1
set_option linter.unusedVariables false
set_option linter.unusedSimpArgs false
namespace Go.Proofs.Ytmfbabmejbppjaa
open Go.RowKit

abbrev bsOf (s : Str) : ByteArray := ⟨s.toArray⟩
theorem bsOf_inj {a b : Str} (h : bsOf a = bsOf b) : a = b := by
  have := congrArg (fun x : ByteArray => x.data.toList) h
  simpa using this
/-- what the map holds behind the first names -/
def slist (xs : List Str) : Nat → SAL
  | 0 => []
  | k + 1 => sset (slist xs k) (bsOf (strAt xs k)) (.int .i64 k)
theorem slook_slist (xs : List Str) (s : Str) : ∀ k, k ≤ xs.length → (slook (slist xs k) (bsOf s) = none ↔ s ∉ xs.take k) ∧ ((xs.take k).Nodup → ∀ j, j < k → xs[j]? = some s → slook (slist xs k) (bsOf s) = some (.int .i64 j))
  | 0, _ => ⟨by simp [slist, slook], fun _ j hj => by omega⟩
  | k + 1, hk => by
    obtain ⟨i1, i2⟩ := slook_slist xs s k (by omega)
    have ht : xs.take (k + 1) = xs.take k ++ [strAt xs k] := by rw [List.take_succ_eq_append_getElem (by omega), strAt_get (by omega)]
    simp only [slist, slook_sset]
    by_cases e : s = strAt xs k
    · subst e
      rw [if_pos rfl]
      refine ⟨by simp [ht], fun hnd j hj hjs => ?_⟩
      by_cases hjk : j < k
      · exfalso
        rw [ht] at hnd
        have := (List.nodup_append.1 hnd).2.2
        refine this (strAt xs k) ?_ (strAt xs k) (by simp) rfl
        exact List.mem_of_getElem? (i := j) (by rw [List.getElem?_take, if_pos hjk]; exact hjs)
      · obtain rfl : j = k := by omega
        rfl
    · have e2 : ¬ bsOf s = bsOf (strAt xs k) := fun h => e (bsOf_inj h)
      rw [if_neg e2, ht]
      refine ⟨by rw [i1]; simp [e], fun hnd j hj hjs => ?_⟩
      have hjk : j < k := by
        by_cases h : j < k
        · exact h
        · obtain rfl : j = k := by omega
          exfalso
          apply e
          rw [strAt_get (by omega)]
          exact ((List.getElem?_eq_some_iff.1 hjs).2).symm
      exact i2 (List.nodup_append.1 hnd).1 j hjk hjs
theorem slist_len (xs : List Str) : ∀ k, k ≤ xs.length → (slist xs k).length ≤ k ∧ ((slist xs k).length = k ↔ (xs.take k).Nodup)
  | 0, _ => by simp [slist]
  | k + 1, hk => by
    obtain ⟨i1, i2⟩ := slist_len xs k (by omega)
    have hs := (slook_slist xs (strAt xs k) k (by omega)).1
    have ht : xs.take (k + 1) = xs.take k ++ [strAt xs k] := by rw [List.take_succ_eq_append_getElem (by omega), strAt_get (by omega)]
    have key : ∀ (l : SAL) (x : ByteArray) (v : Value), (sset l x v).length = if slook l x = none then l.length + 1 else l.length := by
      intro l x v
      induction l with
      | nil => simp [sset, slook]
      | cons p r ih =>
        obtain ⟨a, u⟩ := p
        by_cases h : a = x
        · simp [sset, slook, h]
        · simp only [sset, slook, if_neg h, List.length_cons, ih]
          split <;> simp
    simp only [slist, key, hs]
    by_cases hm : strAt xs k ∈ xs.take k
    · rw [if_neg (by simpa using hm)]
      refine ⟨by omega, ?_⟩
      constructor
      · intro h; omega
      · intro h
        rw [ht] at h
        exact absurd rfl ((List.nodup_append.1 h).2.2 _ hm _ (by simp))
    · rw [if_pos hm]
      refine ⟨by omega, ?_⟩
      rw [ht, List.nodup_append]
      constructor
      · intro h
        refine ⟨i2.1 (by omega), by simp, fun a ha b hb => ?_⟩
        obtain rfl := List.mem_singleton.1 hb
        exact fun e => hm (e ▸ ha)
      · intro h
        have := i2.2 h.1
        omega

/-- a map of names, made by index -/
def NameMap (w : World) (r : Nat) (xs : List Str) : Prop := StrMap w r (slist xs xs.length)
theorem NameMap.ext {r : Nat} {w w' : World} {xs : List Str} (h : NameMap w r xs) (hb : Below w.heap.size w w') : NameMap w' r xs := StrMap.ext h hb
theorem NameMap.lt {r : Nat} {w : World} {xs : List Str} (h : NameMap w r xs) : r < w.heap.size := StrMap.lt h
theorem NameMap.look {xs : List Str} (hnd : xs.Nodup) (s : Str) : slook (slist xs xs.length) (bsOf s) = if idxI xs s < 0 then none else some (.int .i64 (idxI xs s)) := by
  obtain ⟨h1, h2⟩ := slook_slist xs s xs.length (Nat.le_refl _)
  rw [List.take_length] at h1 h2
  by_cases h : idxI xs s < 0
  · rw [if_pos h]
    exact h1.2 (idxI_none.1 h)
  · rw [if_neg h]
    obtain ⟨k, hk⟩ : ∃ k : Nat, idxI xs s = k := ⟨(idxI xs s).toNat, by omega⟩
    have h3 := (idxI_get hk).1
    rw [hk]
    exact h2 hnd k (List.getElem?_eq_some_iff.1 h3).1 h3

set_option maxHeartbeats 2000000 in
set_option maxRecDepth 100000 in
theorem index_any (B : Nat) (w : World) (v : Value) (xs : List Str) (hv : IsStrs B w v xs) (hB : B ≤ w.heap.size) (hn : xs.length ≤ 1000000) :
    Calls Try.prog 26 #[v] w fun e w' => ∃ r, e = .returned (.tuple #[.map (some r), .bool (decide xs.Nodup)]) ∧ NameMap w' r xs ∧ w.heap.size ≤ r ∧ Below w.heap.size w w' := by
  obtain ⟨a, c, rfl, hc1, hc2, hc3⟩ := hv.form
  have HV := Lib.hid hv
  have HM0 := Lib.hid (StrMap.made w)
  have hmm := @run_makeMap Try.prog
  clear hv
  go_enter Try.func26, Try.ntmps26
  go_wp2
  go_loopw [9] (fun i wr => ∃ k : Nat, k ≤ xs.length ∧ i = .int .i64 k ∧ StrMap wr w.heap.size (slist xs k) ∧ Below w.heap.size w wr) (fun i _ => xs.length - (intOf i).toNat)
  case atStart => exact ⟨0, by omega, rfl, HM0.out, (Below.refl _ _).alloc (Nat.le_refl _) _⟩
  case round =>
    obtain ⟨k, hk, rfl, hm, hbr⟩ := hrel
    have HM := Lib.hid hm
    have HBR := Lib.hid hbr
    have hz := hm.lt
    clear hm hbr
    by_cases hlt : k < xs.length
    · obtain ⟨b, off, rfl, bb, g0, gl⟩ := IsStrs.cell (HV.out.below strK HBR.out hB) hlt
      go_wp2_with (refine wpList_update_strs rfl (.tmp 14) (.tmp 15) (.tmp 16) rfl Try.underlying51 Try.underlying9 rfl HM.out rfl rfl ?_; intro w3 hm3 hg3 hz3; have HM3 := Lib.hid hm3; have HG3 := Lib.hid hg3; clear hm3 hg3)
      go_roundw
      case rel => exact ⟨k + 1, by omega, by go_num, HM3.out, HBR.out.grown HG3.out (by omega) (fun q hq => by injection hq with hq; omega)⟩
      case measure => simp [intOf]; omega
    · obtain rfl : k = xs.length := by omega
      obtain ⟨l1, l2⟩ := slist_len xs xs.length (Nat.le_refl _)
      rw [List.take_length] at l2
      have HE : Hid (((((slist xs xs.length).length : Int) == (xs.length : Int))) = decide xs.Nodup) := Lib.hid (by
        rw [Bool.eq_iff_iff, decide_eq_true_iff, ← l2]
        simp
        omega)
      go_wp2_with (refine wpList_len_strs rfl (.tmp 19) rfl Try.underlying51 rfl HM.out ?_)
      go_ret2
      exact ⟨w.heap.size, by rw [← HE.out]; rfl, HM.out, Nat.le_refl _, HBR.out⟩
end Go.Proofs.Ytmfbabmejbppjaa
