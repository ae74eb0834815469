/-
  Layer 3: the walks of lex.Same, its closure, slices.EqualFunc at tokens.
-/
import Derived.Test.YtagjiljhbdjlfaaDoorLx13
set_option linter.unusedVariables false
set_option linter.unusedSimpArgs false
namespace Go.Proofs.YtagjiljhbdjlfaaDoor
open Go.RowKit

set_option maxHeartbeats 1000000 in
set_option maxRecDepth 100000 in
theorem sameC_yes (t u : Tok) (w : World) (ht : okT t) (hu : okT u) (he : erase t = erase u) :
    Calls Tryd.prog 42 #[tokV t, tokV u] w fun e w' => e = .returned (.bool true) ∧ Below w.heap.size w w' := by
  obtain ⟨k, x, n, p⟩ := t
  obtain ⟨k', x', n', p'⟩ := u
  obtain ⟨rfl, rfl, rfl⟩ : k = k' ∧ x = x' ∧ n = n' := erase_eq.1 he
  obtain ⟨⟨k1, k2⟩, hx, ⟨n1, n2⟩, ⟨p1, p2⟩⟩ := ht
  obtain ⟨_, _, _, ⟨q1, q2⟩⟩ := hu
  simp only at k1 k2 hx n1 n2 p1 p2 q1 q2
  have HB := Lib.hid (((Below.refl _ w).alloc (Nat.le_refl _) (.cells #[.int .i64 k, strV x, .int .i64 n, .int .i64 p] 35)).alloc (by simp) (.cells #[.int .i64 k, strV x, .int .i64 n, .int .i64 p'] 35))
  clear he
  go_enter Tryd.func42, Tryd.ntmps42
  go_wp2
  go_ret
  exact ⟨by simp, HB.out⟩
set_option maxHeartbeats 2000000 in
set_option maxRecDepth 100000 in
theorem sameC_no (t u : Tok) (w : World) (ht : okT t) (hu : okT u) (he : erase t ≠ erase u) :
    Calls Tryd.prog 42 #[tokV t, tokV u] w fun e w' => e = .returned (.bool false) ∧ Below w.heap.size w w' := by
  obtain ⟨k, x, n, p⟩ := t
  obtain ⟨k', x', n', p'⟩ := u
  obtain ⟨⟨k1, k2⟩, hx, ⟨n1, n2⟩, ⟨p1, p2⟩⟩ := ht
  obtain ⟨⟨k1', k2'⟩, hx', ⟨n1', n2'⟩, ⟨q1, q2⟩⟩ := hu
  simp only at k1 k2 hx n1 n2 p1 p2 q1 q2 k1' k2' hx' n1' n2'
  have HB := Lib.hid (((Below.refl _ w).alloc (Nat.le_refl _) (.cells #[.int .i64 k, strV x, .int .i64 n, .int .i64 p] 35)).alloc (by simp) (.cells #[.int .i64 k', strV x', .int .i64 n', .int .i64 p'] 35))
  have hcase : k ≠ k' ∨ (k = k' ∧ x ≠ x') ∨ (k = k' ∧ x = x' ∧ n ≠ n') := by
    by_cases e1 : k = k'
    · by_cases e2 : x = x'
      · right; right; exact ⟨e1, e2, fun e3 => he (erase_eq.2 ⟨e1, e2, e3⟩)⟩
      · exact .inr (.inl ⟨e1, e2⟩)
    · exact .inl e1
  clear he
  rcases hcase with h | ⟨rfl, h⟩ | ⟨rfl, rfl, h⟩
  · have h' : (k == k') = false := by simpa using h
    clear h
    go_enter Tryd.func42, Tryd.ntmps42
    go_wp2
    go_ret
    exact ⟨rfl, HB.out⟩
  · have h1 : (x == x') = false := by simp [h]
    clear h
    go_enter Tryd.func42, Tryd.ntmps42
    go_wp2
    go_ret
    exact ⟨rfl, HB.out⟩
  · have h' : (n == n') = false := by simpa using h
    clear h
    go_enter Tryd.func42, Tryd.ntmps42
    go_wp2
    go_ret
    exact ⟨rfl, HB.out⟩

set_option maxHeartbeats 2000000 in
set_option maxRecDepth 100000 in
theorem eqfunc_any (B : Nat) (w : World) (v v' : Value) (xs ys : List Tok) (hB : B ≤ w.heap.size) (hv : IsToks B w v xs) (hv' : IsToks B w v' ys) :
    Calls Tryd.prog 41 #[v, v', .func (.func 42) #[] #[]] w fun e w' => e = .returned (.bool (sameT xs ys)) ∧ Below w.heap.size w w' := by
  obtain ⟨a, c, rfl, hc1, hc2, hc3⟩ := hv.form
  obtain ⟨a', c', rfl, hd1, hd2, hd3⟩ := hv'.form
  have HV := Lib.hid hv
  have HV' := Lib.hid hv'
  clear hv hv'
  by_cases hl : xs.length = ys.length
  · have HL := Lib.hid hl
    have hne2 : ((xs.length : Int) != (ys.length : Int)) = false := by rw [hl]; simp
    clear hl
    go_enter Tryd.func41, Tryd.ntmps41
    go_wp2
    go_loopw [17] (fun i wr => ∃ k : Nat, k ≤ xs.length ∧ i = .int .i64 k ∧ sameT (xs.take k) (ys.take k) = true ∧ Below w.heap.size w wr) (fun i _ => xs.length - (intOf i).toNat)
    case atStart => exact ⟨0, by omega, rfl, rfl, Below.refl _ _⟩
    case round =>
      obtain ⟨k, hk, rfl, hno, hd⟩ := hrel
      have HN := Lib.hid hno
      have HD := Lib.hid hd
      clear hno hd
      by_cases hlt : k < xs.length
      · have hlt' : k < ys.length := by rw [← HL.out]; exact hlt
        obtain ⟨b, off, rfl, bb, g0, g1, g2, g3⟩ := (HV.out.below HD.out hB).cells hlt
        obtain ⟨b', off', rfl, bb', g0', g1', g2', g3'⟩ := (HV'.out.below HD.out hB).cells hlt'
        have O1 := Lib.hid (HV.out.ok hlt)
        have O2 := Lib.hid (HV'.out.ok hlt')
        have hsz := HD.out.size
        have nb1 : ¬ b = wr.heap.size := by omega
        have nb2 : ¬ b' = wr.heap.size := by omega
        have nb3 : b' < wr.heap.size := by omega
        have HBB : Hid (∀ o1 o2 W, Below (wr.heap.size + 1 + 1) ((wr.alloc o1).alloc o2) W → Below w.heap.size w W) := Lib.hid fun o1 o2 W hW => (((HD.out.alloc hsz o1).alloc (by simp; omega) o2).trans (hW.mono (by omega)))
        by_cases he : erase (tokAt xs k) = erase (tokAt ys k)
        · have HT := Lib.hid (sameT_succ HN.out hlt hlt' he)
          have HE := Lib.hid he
          clear he
          go_wp2_with fail
          refine (sameC_yes (tokAt xs k) (tokAt ys k) _ O1.out O2.out HE.out).mono ?_
          rintro e w7 ⟨rfl, hb⟩
          simp only [World.size_alloc] at hb
          have HB7 := Lib.hid (HBB.out _ _ _ hb)
          clear hb
          go_wp2_with fail
          go_roundw
          case rel => exact ⟨k + 1, by omega, by go_num, HT.out, HB7.out⟩
          case measure => simp [intOf]; omega
        · have HT := Lib.hid (sameT_not hlt he)
          have HE := Lib.hid he
          clear he
          go_wp2_with fail
          refine (sameC_no (tokAt xs k) (tokAt ys k) _ O1.out O2.out HE.out).mono ?_
          rintro e w7 ⟨rfl, hb⟩
          simp only [World.size_alloc] at hb
          have HB7 := Lib.hid (HBB.out _ _ _ hb)
          clear hb
          go_wp2_with fail
          go_ret
          exact ⟨ret_bool' HT.out, HB7.out⟩
      · have HT := Lib.hid (sameT_all HN.out (by omega) (by have := HL.out; omega))
        go_wp2
        go_ret
        exact ⟨ret_bool' HT.out, HD.out⟩
  · have HT := Lib.hid (sameT_len hl)
    have hne2 : ((xs.length : Int) != (ys.length : Int)) = true := by simp; omega
    clear hl
    go_enter Tryd.func41, Tryd.ntmps41
    go_wp2
    go_ret
    exact ⟨ret_bool' HT.out, Below.refl _ _⟩

set_option maxRecDepth 100000 in
theorem same_any (B : Nat) (w : World) (v v' : Value) (xs ys : List Tok) (hB : B ≤ w.heap.size) (hv : IsToks B w v xs) (hv' : IsToks B w v' ys) :
    Calls Tryd.prog 18 #[v, v'] w fun e w' => e = .returned (.bool (sameT xs ys)) ∧ Below w.heap.size w w' := by
  have HV := Lib.hid hv
  have HV' := Lib.hid hv'
  clear hv hv'
  go_enter Tryd.func18, Tryd.ntmps18
  go_wp2_with fail
  refine (eqfunc_any B w v v' xs ys hB HV.out HV'.out).mono ?_
  rintro e w7 ⟨rfl, hb⟩
  have HB7 := Lib.hid hb
  clear hb
  go_wp2
  go_ret
  exact ⟨rfl, HB7.out⟩
end Go.Proofs.YtagjiljhbdjlfaaDoor
