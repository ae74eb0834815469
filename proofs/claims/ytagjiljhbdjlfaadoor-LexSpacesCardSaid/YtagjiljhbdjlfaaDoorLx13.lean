/-
  Layer 3: the walks of frankingref03.Same, Equal.
-/
import Derived.Test.YtagjiljhbdjlfaaDoorLx12
set_option linter.unusedVariables false
set_option linter.unusedSimpArgs false
namespace Go.Proofs.YtagjiljhbdjlfaaDoor
open Go.RowKit

theorem map_take_succ {xs : List Tok} {k : Nat} (h : k < xs.length) : (xs.take (k + 1)).map erase = (xs.take k).map erase ++ [erase (tokAt xs k)] := by
  rw [List.take_succ_eq_append_getElem h, List.map_append, tokAt_get h]; rfl
theorem sameT_succ {xs ys : List Tok} {k : Nat} (h : sameT (xs.take k) (ys.take k) = true) (h1 : k < xs.length) (h2 : k < ys.length) (he : erase (tokAt xs k) = erase (tokAt ys k)) : sameT (xs.take (k + 1)) (ys.take (k + 1)) = true := by
  rw [sameT_iff] at *
  rw [map_take_succ h1, map_take_succ h2, h, he]
theorem sameT_at {xs ys : List Tok} (h : sameT xs ys = true) {k : Nat} (h1 : k < xs.length) : erase (tokAt xs k) = erase (tokAt ys k) := by
  rw [sameT_iff] at h
  have hl : xs.length = ys.length := by have := congrArg List.length h; simpa using this
  have := congrArg (fun l => l[k]?) h
  simp only [List.getElem?_map] at this
  rw [List.getElem?_eq_getElem h1, List.getElem?_eq_getElem (by omega)] at this
  rw [tokAt_get h1, tokAt_get (by omega)]
  simpa using this
theorem sameT_not {xs ys : List Tok} {k : Nat} (h1 : k < xs.length) (he : erase (tokAt xs k) ≠ erase (tokAt ys k)) : sameT xs ys = false := by
  cases h : sameT xs ys with
  | false => rfl
  | true => exact absurd (sameT_at h h1) he
theorem sameT_all {xs ys : List Tok} {k : Nat} (h : sameT (xs.take k) (ys.take k) = true) (h1 : xs.length ≤ k) (h2 : ys.length ≤ k) : sameT xs ys = true := by
  rw [List.take_of_length_le h1, List.take_of_length_le h2] at h; exact h
theorem sameT_len {xs ys : List Tok} (h : xs.length ≠ ys.length) : sameT xs ys = false := by
  cases e : sameT xs ys with
  | false => rfl
  | true =>
    rw [sameT_iff] at e
    have := congrArg List.length e
    simp at this
    exact absurd this h
theorem erase_eq {a b : Tok} : erase a = erase b ↔ a.kind = b.kind ∧ a.text = b.text ∧ a.n = b.n := by
  obtain ⟨k, x, n, p⟩ := a
  obtain ⟨k', x', n', p'⟩ := b
  simp [erase]

/-- the cells of token k -/
theorem IsToks.cells {B : Nat} {w : World} {a : Option Addr} {c : Nat} {ts : List Tok} (h : IsToks B w (.slice a ts.length c) ts) {k : Nat} (hk : k < ts.length) : ∃ b off, a = some ⟨b, off, none⟩ ∧ b < B ∧
    w.cell? ⟨b, off + k * 4, none⟩ = some (.int .i64 (tokAt ts k).kind) ∧ w.cell? ⟨b, off + k * 4 + 1, none⟩ = some (strV (tokAt ts k).text) ∧ w.cell? ⟨b, off + k * 4 + 2, none⟩ = some (.int .i64 (tokAt ts k).n) ∧ w.cell? ⟨b, off + k * 4 + 3, none⟩ = some (.int .i64 (tokAt ts k).pos) := by
  obtain ⟨b, off, cap, ⟨a', he, hcap, hmax, ha⟩, h2, h3, h4⟩ := h
  injection he with e1 e2 e3
  subst e1
  rcases ha with ha | ha
  · obtain ⟨g1, g2, g3, g4⟩ := h4 k hk
    exact ⟨b, off, ha, g1.1, g1.2, g2.2, g3.2, g4.2⟩
  · omega
theorem IsToks.form {B : Nat} {w : World} {v : Value} {ts : List Tok} (h : IsToks B w v ts) : ∃ a c, v = .slice a ts.length c ∧ ts.length ≤ c ∧ c ≤ 9223372036854775807 ∧ ts.length ≤ 3518437208800 := by
  obtain ⟨b, off, cap, ⟨a', he, hcap, hmax, ha⟩, h2, h3, h4⟩ := h
  exact ⟨a', cap, he, hcap, hmax, h2⟩
theorem IsToks.ok {B : Nat} {w : World} {v : Value} {ts : List Tok} (h : IsToks B w v ts) {k : Nat} (hk : k < ts.length) : okT (tokAt ts k) := by
  obtain ⟨b, off, cap, _, h2, h3, h4⟩ := h
  rw [tokAt_get hk]
  exact h3 _ (List.getElem_mem hk)
theorem IsToks.drew {B : Nat} {w w' : World} {v : Value} {ts : List Tok} (h : IsToks B w v ts) (hd : Drew w w') : IsToks B w' v ts := h.below (hd.below B) (Nat.le_refl _)

set_option maxHeartbeats 2000000 in
set_option maxRecDepth 100000 in
theorem rsame_any (B : Nat) (w : World) (v v' : Value) (xs ys : List Tok) (hv : IsToks B w v xs) (hv' : IsToks B w v' ys) :
    Calls Tryd.prog 19 #[v, v'] w fun e w' => e = .returned (.bool (sameT xs ys)) ∧ Drew w w' := by
  obtain ⟨a, c, rfl, hc1, hc2, hc3⟩ := hv.form
  obtain ⟨a', c', rfl, hd1, hd2, hd3⟩ := hv'.form
  have HV := Lib.hid hv
  have HV' := Lib.hid hv'
  clear hv hv'
  by_cases hl : xs.length = ys.length
  · have HL := Lib.hid hl
    have hne2 : ((xs.length : Int) != (ys.length : Int)) = false := by rw [hl]; simp
    clear hl
    go_enter Tryd.func19, Tryd.ntmps19
    go_wp2
    go_loopw [5] (fun i wr => ∃ k : Nat, k ≤ xs.length ∧ i = .int .i64 k ∧ sameT (xs.take k) (ys.take k) = true ∧ Drew w wr) (fun i _ => xs.length - (intOf i).toNat)
    case atStart => exact ⟨0, by omega, rfl, rfl, Drew.refl _⟩
    case round =>
      obtain ⟨k, hk, rfl, hno, hd⟩ := hrel
      have HN := Lib.hid hno
      have HD := Lib.hid hd
      clear hno hd
      by_cases hlt : k < xs.length
      · have hlt' : k < ys.length := by rw [← HL.out]; exact hlt
        obtain ⟨b, off, rfl, _, g0, g1, g2, _⟩ := (HV.out.drew HD.out).cells hlt
        obtain ⟨b', off', rfl, _, g0', g1', g2', _⟩ := (HV'.out.drew HD.out).cells hlt'
        by_cases he : erase (tokAt xs k) = erase (tokAt ys k)
        · have HT := Lib.hid (sameT_succ HN.out hlt hlt' he)
          obtain ⟨e1, e2, e3⟩ := erase_eq.1 he
          rw [← e1] at g0'
          rw [← e2] at g1'
          rw [← e3] at g2'
          clear he e1 e2 e3
          go_wp2
          go_quiet (fail)
          go_wp2
          go_roundw
          case rel => exact ⟨k + 1, by omega, by go_num, HT.out, HD.out.drewN _⟩
          case measure => simp [intOf]; omega
        · have HT := Lib.hid (sameT_not hlt he)
          have hcase : (tokAt xs k).kind ≠ (tokAt ys k).kind ∨ ((tokAt xs k).kind = (tokAt ys k).kind ∧ (tokAt xs k).text ≠ (tokAt ys k).text) ∨ ((tokAt xs k).kind = (tokAt ys k).kind ∧ (tokAt xs k).text = (tokAt ys k).text ∧ (tokAt xs k).n ≠ (tokAt ys k).n) := by
            by_cases e1 : (tokAt xs k).kind = (tokAt ys k).kind
            · by_cases e2 : (tokAt xs k).text = (tokAt ys k).text
              · right; right
                exact ⟨e1, e2, fun e3 => he (erase_eq.2 ⟨e1, e2, e3⟩)⟩
              · exact .inr (.inl ⟨e1, e2⟩)
            · exact .inl e1
          clear he
          rcases hcase with h | ⟨e1, h⟩ | ⟨e1, e2, h⟩
          · have h' : ((tokAt xs k).kind != (tokAt ys k).kind) = true := by simpa using h
            clear h
            go_wp2
            go_quiet (fail)
            go_wp2
            go_ret
            exact ⟨ret_bool' HT.out, HD.out.drewN _⟩
          · rw [← e1] at g0'
            have h1 : (!(tokAt xs k).text == (tokAt ys k).text) = true := by simp [h]
            have h2 : ((tokAt xs k).text == (tokAt ys k).text) = false := by simp [h]
            clear h e1
            go_wp2
            go_quiet (fail)
            go_wp2
            go_ret
            exact ⟨ret_bool' HT.out, HD.out.drewN _⟩
          · rw [← e1] at g0'
            rw [← e2] at g1'
            have h' : ((tokAt xs k).n != (tokAt ys k).n) = true := by simpa using h
            clear h e1 e2
            go_wp2
            go_quiet (fail)
            go_wp2
            go_ret
            exact ⟨ret_bool' HT.out, HD.out.drewN _⟩
      · have HT := Lib.hid (sameT_all HN.out (by omega) (by have := HL.out; omega))
        go_wp2
        go_ret
        exact ⟨ret_bool' HT.out, HD.out⟩
  · have HT := Lib.hid (sameT_len hl)
    have hne2 : ((xs.length : Int) != (ys.length : Int)) = true := by simp; omega
    clear hl
    go_enter Tryd.func19, Tryd.ntmps19
    go_wp2
    go_ret
    exact ⟨ret_bool' HT.out, Drew.refl _⟩

def eqT (a b : List Tok) : Bool := decide (a = b)
def posTo (xs ys : List Tok) (k : Nat) : Prop := ∀ j, j < k → (tokAt xs j).pos = (tokAt ys j).pos
theorem eqT_of {xs ys : List Tok} (h : sameT xs ys = true) (hp : posTo xs ys xs.length) : eqT xs ys = true := by
  unfold eqT
  refine decide_eq_true ?_
  have hl : xs.length = ys.length := by have := congrArg List.length (sameT_iff.1 h); simpa using this
  refine List.ext_getElem hl fun i h1 h2 => ?_
  have e := erase_eq.1 (sameT_at h h1)
  have p := hp i h1
  rw [tokAt_get h1, tokAt_get h2] at *
  generalize xs[i] = x at *
  generalize ys[i] = y at *
  obtain ⟨k, t, n, q⟩ := x
  obtain ⟨k', t', n', q'⟩ := y
  simp at e p
  simp [e, p]
theorem eqT_not {xs ys : List Tok} (h : sameT xs ys = false) : eqT xs ys = false := by
  unfold eqT
  refine decide_eq_false ?_
  rintro rfl
  rw [sameT_refl] at h
  cases h
theorem eqT_pos {xs ys : List Tok} {k : Nat} (hp : (tokAt xs k).pos ≠ (tokAt ys k).pos) : eqT xs ys = false := by
  unfold eqT
  refine decide_eq_false ?_
  rintro rfl
  exact hp rfl

set_option maxHeartbeats 2000000 in
set_option maxRecDepth 100000 in
theorem equal_any (B : Nat) (w : World) (v v' : Value) (xs ys : List Tok) (hv : IsToks B w v xs) (hv' : IsToks B w v' ys) :
    Calls Tryd.prog 14 #[v, v'] w fun e w' => e = .returned (.bool (eqT xs ys)) ∧ Drew w w' := by
  obtain ⟨a, c, rfl, hc1, hc2, hc3⟩ := hv.form
  obtain ⟨a', c', rfl, hd1, hd2, hd3⟩ := hv'.form
  have HV := Lib.hid hv
  have HV' := Lib.hid hv'
  clear hv hv'
  cases hs : sameT xs ys with
  | false =>
    have HS := Lib.hid hs
    clear hs
    go_enter Tryd.func14, Tryd.ntmps14
    go_wp2_with fail
    refine (rsame_any B w _ _ xs ys HV.out HV'.out).mono ?_
    rintro e w1 ⟨rfl, hd⟩
    have HD := Lib.hid hd
    rw [HS.out]
    clear hd
    go_wp2
    go_ret
    exact ⟨ret_bool' (eqT_not HS.out), HD.out⟩
  | true =>
    have HS := Lib.hid hs
    have HL : Hid (xs.length = ys.length) := Lib.hid (by have := congrArg List.length (sameT_iff.1 hs); simpa using this)
    clear hs
    go_enter Tryd.func14, Tryd.ntmps14
    go_wp2_with fail
    refine (rsame_any B w _ _ xs ys HV.out HV'.out).mono ?_
    rintro e w1 ⟨rfl, hd⟩
    have HD := Lib.hid hd
    rw [HS.out]
    clear hd
    go_wp2
    go_loopw [5] (fun i wr => ∃ k : Nat, k ≤ xs.length ∧ i = .int .i64 k ∧ posTo xs ys k ∧ Drew w wr) (fun i _ => xs.length - (intOf i).toNat)
    case atStart => exact ⟨0, by omega, rfl, fun j hj => by omega, HD.out⟩
    case round =>
      obtain ⟨k, hk, rfl, hno, hd⟩ := hrel
      have HN := Lib.hid hno
      have HE := Lib.hid hd
      clear hno hd
      by_cases hlt : k < xs.length
      · have hlt' : k < ys.length := by rw [← HL.out]; exact hlt
        obtain ⟨b, off, rfl, _, _, _, _, g3⟩ := (HV.out.drew HE.out).cells hlt
        obtain ⟨b', off', rfl, _, _, _, _, g3'⟩ := (HV'.out.drew HE.out).cells hlt'
        by_cases he : (tokAt xs k).pos = (tokAt ys k).pos
        · have HP : Hid (posTo xs ys (k + 1)) := Lib.hid (fun j hj => by
            by_cases hjk : j < k
            · exact HN.out j hjk
            · obtain rfl : j = k := by omega
              exact he)
          have he' : ((tokAt xs k).pos != (tokAt ys k).pos) = false := by simpa using he
          clear he
          go_wp2
          go_quiet (fail)
          go_wp2
          go_roundw
          case rel => exact ⟨k + 1, by omega, by go_num, HP.out, HE.out.drewN _⟩
          case measure => simp [intOf]; omega
        · have HT := Lib.hid (eqT_pos he)
          have he' : ((tokAt xs k).pos != (tokAt ys k).pos) = true := by simpa using he
          clear he
          go_wp2
          go_quiet (fail)
          go_wp2
          go_ret
          exact ⟨ret_bool' HT.out, HE.out.drewN _⟩
      · obtain rfl : k = xs.length := by omega
        have HT := Lib.hid (eqT_of HS.out HN.out)
        go_wp2
        go_ret
        exact ⟨ret_bool' HT.out, HE.out⟩
end Go.Proofs.YtagjiljhbdjlfaaDoor
