/-
  The walks of the functions that flows.View calls: known, IsSorted, Index, Contains, ContainsFunc at lists of lists and at lots, and its closures.
-/
import Derived.Test.YtndcbnnbgedgcaaR26d
import Derived.Test.YtndcbnnbgedgcaaF26b
import Derived.Test.YtndcbnnbgedgcaaP31a
set_option linter.unusedVariables false
set_option linter.unusedSimpArgs false
namespace Go.Proofs.Ytndcbnnbgedgcaa
open Go.RowKit

theorem cless_any (w : World) (x y : Int) :
    Calls Try.prog 82 #[.int .i64 x, .int .i64 y] w fun e w' => e = .returned (.bool (decide (x < y))) ∧ w' = w := by
  go_enter Try.func82, Try.ntmps82
  go_wp2_with (go_at_call 93; refine (isnan_any _ _).mono ?_; rintro e w5 ⟨rfl, rfl⟩)
  go_ret
  exact ⟨rfl, rfl⟩

/-- is a list in order? -/
def srtB (l : List Int) : Bool := (List.range (l.length - 1)).all fun j => decide (nth l j ≤ nth l (j + 1))
theorem srtB_true {l : List Int} (h : ∀ j, j + 1 < l.length → nth l j ≤ nth l (j + 1)) : srtB l = true := by
  unfold srtB
  rw [List.all_eq_true]
  intro j hj
  have := List.mem_range.1 hj
  exact decide_eq_true (h j (by omega))
theorem srtB_false {l : List Int} {j : Nat} (hj : j + 1 < l.length) (h : nth l (j + 1) < nth l j) : srtB l = false := by
  unfold srtB
  rw [List.all_eq_false]
  exact ⟨j, List.mem_range.2 (by omega), by simp; omega⟩

set_option maxHeartbeats 1000000 in
/-- slices.IsSorted -/
theorem sorted_any (B : Nat) (w : World) (v : Value) (zs : List Int) (hv : IsInts B w v zs) :
    Calls Try.prog 50 #[v] w fun e w' => e = .returned (.bool (srtB zs)) ∧ Drew w w' := by
  obtain ⟨b, off, cap, ⟨a, rfl, hcap, hmax, ha⟩, hlen, hz, hc⟩ := hv
  have HC := Lib.hid hc
  clear hc hz
  go_enter Try.func50, Try.ntmps50
  go_wp2
  go_loopw [3] (fun i wr => ∃ k : Nat, k ≤ zs.length ∧ i = .int .i64 ((k : Int) - 1) ∧ (∀ j, k ≤ j + 1 → j + 1 < zs.length → nth zs j ≤ nth zs (j + 1)) ∧ Drew w wr) (fun i _ => (intOf i).toNat)
  case atStart => exact ⟨zs.length, Nat.le_refl _, rfl, fun j h1 h2 => by omega, Drew.refl _⟩
  case round =>
    obtain ⟨k, hk, rfl, hno, hd⟩ := hrel
    have HN := Lib.hid hno
    have HD := Lib.hid hd
    clear hno hd
    by_cases hlt : 2 ≤ k
    · obtain ⟨m, rfl⟩ : ∃ m, k = m + 2 := ⟨k - 2, by omega⟩
      obtain rfl : a = some ⟨b, off, none⟩ := by rcases ha with ha | ha; exact ha; omega
      have hcell := (HD.out.cell _).trans (HC.out m (by omega)).2
      have hcell' := (HD.out.cell _).trans (HC.out (m + 1) (by omega)).2
      have e1 : ((m + 2 : Nat) : Int) - 1 = (m : Int) + 1 := by omega
      have g1 : decide (0 < (m : Int) + 1) = true := decide_eq_true (by omega)
      have w1 : IntKind.i64.wrap ((m : Int) + 1 - 1) = (m : Int) := by rw [IntWalk.i64_in _ (by omega)]; omega
      have g2 : (0 : Int) ≤ (m : Int) + 1 := by omega
      have g3 : ((m : Int) + 1).toNat = m + 1 := by omega
      have g4 : (m : Int) + 1 < (zs.length : Int) := by omega
      have g5 : (m : Int) < (zs.length : Int) := by omega
      rw [e1]
      clear ha e1
      go_wp2
      go_quiet ((go_at_call 82; exact Calls.quiet_of_same (cless_any _ _ _)))
      by_cases he : nth zs (m + 1) < nth zs m
      · have HT := Lib.hid (srtB_false (l := zs) (j := m) (by omega) he)
        have HE := Lib.hid he
        clear he
        go_wp2
        · go_ret
          exact ⟨by rw [HT.out]; rfl, HD.out.drewN _⟩
        · exfalso
          have := HE.out
          omega
      · have HE := Lib.hid he
        clear he
        go_wp2
        go_roundw
        case rel => exact ⟨m + 1, by omega, by go_num, fun j h1 h2 => by
          by_cases e : j = m
          · subst e; have := HE.out; omega
          · exact HN.out j (by omega) h2, HD.out.drewN _⟩
        case measure => simp [intOf]; try omega
    · have HT := Lib.hid (srtB_true (l := zs) fun j hj => HN.out j (by omega) hj)
      have g1 : decide (0 < (k : Int) - 1) = false := decide_eq_false (by omega)
      go_wp2
      go_ret
      exact ⟨by rw [HT.out]; rfl, HD.out⟩

/-- the index of the first number of a list that is x; -1 if there is none -/
def idxI (l : List Int) (x : Int) : Int := if x ∈ l then (l.idxOf x : Int) else -1
theorem idxI_found {l : List Int} {x : Int} {k : Nat} (h : hasB (l.take k) x = false) (hk : k < l.length) (e : nth l k = x) : idxI l x = k := by
  have hm : x ∈ l := by rw [← e, nth_eq_getElem hk]; exact List.getElem_mem hk
  unfold idxI
  rw [if_pos hm]
  have h1 := List.idxOf_lt_length_of_mem hm
  have h2 : l[l.idxOf x] = x := List.getElem_idxOf h1
  have h3 : ¬ l.idxOf x < k := by
    intro hlt
    have : x ∈ l.take k := by
      rw [List.mem_take_iff_getElem]
      exact ⟨l.idxOf x, by omega, h2⟩
    unfold hasB at h
    simp at h
    exact h this
  have h4 : ¬ k < l.idxOf x := by
    intro hlt
    have h5 := List.not_of_lt_findIdx (p := (· == x)) (xs := l) (i := k) hlt
    rw [nth_eq_getElem hk] at e
    simp [e] at h5
  omega
theorem idxI_none {l : List Int} {x : Int} (h : hasB l x = false) : idxI l x = -1 := by
  unfold idxI hasB at *
  simp at h
  rw [if_neg h]
theorem idxI_has (l : List Int) (x : Int) : decide (0 ≤ idxI l x) = hasB l x := by
  unfold idxI hasB
  by_cases h : x ∈ l
  · rw [if_pos h]; simp [h]
  · rw [if_neg h]; simp [h]

set_option maxHeartbeats 1000000 in
/-- slices.Index -/
theorem sindex_any (B : Nat) (w : World) (v : Value) (zs : List Int) (x : Int) (hv : IsInts B w v zs) :
    Calls Try.prog 58 #[v, .int .i64 x] w fun e w' => e = .returned (.int .i64 (idxI zs x)) ∧ w' = w := by
  obtain ⟨b, off, cap, ⟨a, rfl, hcap, hmax, ha⟩, hlen, hz, hc⟩ := hv
  have HC := Lib.hid hc
  clear hc hz
  go_enter Try.func58, Try.ntmps58
  go_wp2
  go_loop [8] (fun i => ∃ k : Nat, k ≤ zs.length ∧ i = .int .i64 k ∧ hasB (zs.take k) x = false) (fun i => zs.length - (intOf i).toNat)
  case atStart => exact ⟨0, by omega, rfl, rfl⟩
  case round =>
    obtain ⟨k, hk, rfl, hno⟩ := hrel
    have HN := Lib.hid hno
    clear hno
    by_cases hlt : k < zs.length
    · obtain rfl : a = some ⟨b, off, none⟩ := by rcases ha with ha | ha; exact ha; omega
      have hcell := (HC.out k hlt).2
      have HT := Lib.hid (hasB_take_succ (n := x) hlt)
      clear ha
      by_cases he : nth zs k = x
      · have HX := Lib.hid (idxI_found HN.out hlt he)
        have he1 : (x == nth zs k) = true := by simp [he]
        have he2 : (nth zs k == x) = true := by simp [he]
        clear he
        go_wp2
        go_ret
        exact ⟨by rw [HX.out]; rfl, rfl⟩
      · have he1 : (x == nth zs k) = false := by simp; exact fun h => he h.symm
        have he2 : (nth zs k == x) = false := by simpa using he
        have HE2 := Lib.hid he2
        clear he
        go_wp2
        go_round
        case rel => exact ⟨k + 1, by omega, by go_num, by rw [HT.out, HN.out, HE2.out]; rfl⟩
        case measure => simp [intOf]; omega
    · have HX := Lib.hid (idxI_none (l := zs) (x := x) (by rw [← hasB_take_all (k := k) (by omega)]; exact HN.out))
      go_wp2
      go_ret
      exact ⟨by rw [HX.out]; rfl, rfl⟩
/-- slices.Contains -/
theorem scontains_any (B : Nat) (w : World) (v : Value) (zs : List Int) (x : Int) (hv : IsInts B w v zs) :
    Calls Try.prog 52 #[v, .int .i64 x] w fun e w' => e = .returned (.bool (hasB zs x)) ∧ w' = w := by
  have HC := Lib.hid (sindex_any B w v zs x hv)
  have HI := Lib.hid (idxI_has zs x)
  clear hv
  go_enter Try.func52, Try.ntmps52
  go_wp2_with (go_at_call 58; refine HC.out.mono ?_; rintro e w5 ⟨rfl, rfl⟩)
  go_ret
  exact ⟨by rw [← HI.out]; rfl, rfl⟩

def officeB (n : Int) : Bool := decide (0 ≤ n) && decide (n < 24)
theorem office_ok (w : World) : OkFn Try.prog 45 #[] w officeB := by
  refine ⟨fun args W => by simp [go_sem], fun W x _ _ => ?_⟩
  have HO : Hid (officeB x = (decide (0 ≤ x) && decide (x < 24))) := Lib.hid rfl
  go_enter Try.func45, Try.ntmps45
  go_wp2
  all_goals
    go_ret
    exact ⟨by rw [HO.out]; first | (simp_all; done) | (simp_all; omega), Below.refl _ _⟩

/-- is a list a line? -/
def lineB (l : List Int) : Bool := decide (l ≠ []) && (diffB l && allB l officeB)

/-- the closure that finds what is no line -/
theorem noline_any (B : Nat) (w : World) (v : Value) (zs : List Int) (c : Nat) (hv : IsInts B w v zs) (hB : B ≤ w.heap.size) (hc : w.cell? ⟨c, 0, none⟩ = some (.func (.func 45) #[] #[])) :
    Calls Try.prog 46 #[v, .pointer (some ⟨c, 0, none⟩)] w fun e w' => e = .returned (.bool (!lineB zs)) ∧ Below w.heap.size w w' := by
  have HV := Lib.hid hv
  obtain ⟨b, off, cap, ⟨a, rfl, hcap, hmax, ha⟩, hlen, hz, hcc⟩ := hv
  clear ha hcc hz
  by_cases h0 : zs.length = 0
  · have h0' : ((zs.length : Int) == 0) = true := by simpa using h0
    have HT : Hid (lineB zs = false) := Lib.hid (by unfold lineB; rw [List.eq_nil_of_length_eq_zero h0]; rfl)
    clear h0
    go_enter Try.func46, Try.ntmps46
    go_wp2
    go_ret
    exact ⟨by rw [HT.out]; rfl, Below.refl _ _⟩
  · have h0' : ((zs.length : Int) == 0) = false := by simp; intro e; exact h0 (by simp [e])
    have HT : Hid (lineB zs = (diffB zs && allB zs officeB)) := Lib.hid (by
      unfold lineB
      have hne : zs ≠ [] := fun e => h0 (by rw [e]; rfl)
      rw [decide_eq_true hne]; rfl)
    clear h0
    go_enter Try.func46, Try.ntmps46
    go_wp2_with (go_at_call 47; refine (fdifferent_any B w _ zs 45 #[] officeB HV.out hB (office_ok w)).mono ?_; rintro e w5 ⟨rfl, hb5⟩; have HB5 := Lib.hid hb5; clear hb5)
    go_ret
    exact ⟨by rw [HT.out, Bool.not_and]; rfl, HB5.out⟩

theorem stranger_any (B : Nat) (w : World) (v : Value) (zs : List Int) (x : Int) (c : Nat) (hv : IsInts B w v zs) (hc : w.cell? ⟨c, 0, none⟩ = some v) :
    Calls Try.prog 51 #[.int .i64 x, .pointer (some ⟨c, 0, none⟩)] w fun e w' => e = .returned (.bool (!hasB zs x)) ∧ w' = w := by
  have HC := Lib.hid (scontains_any B w v zs x hv)
  obtain ⟨b, off, cap, ⟨a, rfl, _⟩, _⟩ := hv
  go_enter Try.func51, Try.ntmps51
  go_wp2_with (go_at_call 52; refine HC.out.mono ?_; rintro e w5 ⟨rfl, rfl⟩)
  go_ret
  exact ⟨rfl, rfl⟩

/-! ### lists of lists -/
def anyRow (rows : List (List Int)) (p : List Int → Bool) : Nat → Bool
  | 0 => false
  | k + 1 => anyRow rows p k || p (rowAt rows k)
theorem anyRow_of {rows : List (List Int)} {p : List Int → Bool} {k m : Nat} (h : anyRow rows p k = true) (hk : k ≤ m) : anyRow rows p m = true := by
  induction hk with
  | refl => exact h
  | step _ ih => simp [anyRow, ih]

set_option maxHeartbeats 1000000 in
theorem indexrow_any (B : Nat) (w : World) (v : Value) (rows : List (List Int)) (c : Nat) (hv : IsMat B w v rows) (hB : B ≤ w.heap.size) (hcb : c < w.heap.size) (hc : w.cell? ⟨c, 0, none⟩ = some (.func (.func 45) #[] #[])) :
    Calls Try.prog 81 #[v, .func (.func 46) #[] #[.pointer (some ⟨c, 0, none⟩)]] w fun e w' => ∃ i : Int, e = .returned (.int .i64 i) ∧ decide (0 ≤ i) = anyRow rows (fun l => !lineB l) rows.length ∧ Below w.heap.size w w' := by
  obtain ⟨b, off, cp, ⟨a, rfl, hcap, hmax, ha⟩, hlen, hcc⟩ := hv
  have HC := Lib.hid hcc
  have HCC := Lib.hid hc
  have eg : ∀ args W, (callFunc 46 args).run Try.prog W = .ok (.enter 46 args) W := fun args W => by simp [go_sem]
  clear hcc hc
  go_enter Try.func81, Try.ntmps81
  go_wp2
  go_loopw [8] (fun i wr => ∃ k : Nat, k ≤ rows.length ∧ i = .int .i64 k ∧ anyRow rows (fun l => !lineB l) k = false ∧ Below w.heap.size w wr) (fun i _ => rows.length - (intOf i).toNat)
  case atStart => exact ⟨0, by omega, rfl, rfl, Below.refl _ _⟩
  case round =>
    obtain ⟨k, hk, rfl, h1, hbr⟩ := hrel
    have H1 := Lib.hid h1
    have HBR := Lib.hid hbr
    clear h1 hbr
    by_cases hlt : k < rows.length
    · obtain rfl : a = some ⟨b, off, none⟩ := by rcases ha with ha | ha; exact ha; omega
      obtain ⟨r, hcr, hr⟩ := HC.out k hlt
      have hcell := (HBR.out.cell (p := ⟨b, off + k, none⟩) (by have := hcr.1; show b < _; omega)).trans hcr.2
      have HR := Lib.hid (hr.below HBR.out hB)
      have HCW := Lib.hid ((HBR.out.cell (p := ⟨c, 0, none⟩) hcb).trans HCC.out)
      have HS : Hid (anyRow rows (fun l => !lineB l) (k + 1) = (anyRow rows (fun l => !lineB l) k || !lineB (rowAt rows k))) := Lib.hid rfl
      clear hcr hr
      cases hp : lineB (rowAt rows k)
      · have HP := Lib.hid hp
        clear hp
        go_wp2_with (go_at_call 46; refine (noline_any B wr r (rowAt rows k) c HR.out (by have := HBR.out.size; omega) HCW.out).mono ?_; rintro e w7 ⟨rfl, hb7⟩; have HB7 := Lib.hid hb7; clear hb7; rw [HP.out])
        go_ret
        exact ⟨k, rfl, by rw [anyRow_of (k := k + 1) (m := rows.length) (by rw [HS.out, HP.out]; simp) (by omega)]; simp, HBR.out.trans (HB7.out.mono HBR.out.size)⟩
      · have HP := Lib.hid hp
        clear hp
        go_wp2_with (go_at_call 46; refine (noline_any B wr r (rowAt rows k) c HR.out (by have := HBR.out.size; omega) HCW.out).mono ?_; rintro e w7 ⟨rfl, hb7⟩; have HB7 := Lib.hid hb7; clear hb7; rw [HP.out])
        go_roundw
        case rel => exact ⟨k + 1, by omega, by go_num, by rw [HS.out, H1.out, HP.out]; rfl, HBR.out.trans (HB7.out.mono HBR.out.size)⟩
        case measure => simp [intOf]; omega
    · obtain rfl : k = rows.length := by omega
      go_wp2
      go_ret
      exact ⟨-1, rfl, by rw [H1.out]; rfl, HBR.out⟩
theorem containsrow_any (B : Nat) (w : World) (v : Value) (rows : List (List Int)) (c : Nat) (hv : IsMat B w v rows) (hB : B ≤ w.heap.size) (hcb : c < w.heap.size) (hc : w.cell? ⟨c, 0, none⟩ = some (.func (.func 45) #[] #[])) :
    Calls Try.prog 49 #[v, .func (.func 46) #[] #[.pointer (some ⟨c, 0, none⟩)]] w fun e w' => e = .returned (.bool (anyRow rows (fun l => !lineB l) rows.length)) ∧ Below w.heap.size w w' := by
  have HC := Lib.hid (indexrow_any B w v rows c hv hB hcb hc)
  clear hv hc
  go_enter Try.func49, Try.ntmps49
  go_wp2_with (go_at_call 81; refine HC.out.mono ?_; rintro e w5 ⟨i, rfl, hi, hb5⟩; have HI := Lib.hid hi; have HB5 := Lib.hid hb5; clear hi hb5)
  go_ret
  exact ⟨by rw [← HI.out]; rfl, HB5.out⟩

/-! ### known -/
def anyUnk (ls : List Lot) : Nat → Bool
  | 0 => false
  | k + 1 => anyUnk ls k || !(lotAt ls k).known
theorem anyUnk_of {ls : List Lot} {k m : Nat} (h : anyUnk ls k = true) (hk : k ≤ m) : anyUnk ls m = true := by
  induction hk with
  | refl => exact h
  | step _ ih => simp [anyUnk, ih]
def knownB (f : Flow) : Bool := !anyUnk f.lots f.lots.length
theorem anyUnk_false {ls : List Lot} : ∀ {k : Nat}, anyUnk ls k = false → ∀ j, j < k → (lotAt ls j).known = true
  | 0, _, j, hj => by omega
  | k + 1, h, j, hj => by
    simp only [anyUnk, Bool.or_eq_false_iff] at h
    by_cases e : j = k
    · subst e; simpa using h.2
    · exact anyUnk_false h.1 j (by omega)
theorem knownB_all {f : Flow} (h : knownB f = true) : ∀ d ∈ f.lots, d.known = true := by
  intro d hd
  obtain ⟨j, hj, rfl⟩ := List.getElem_of_mem hd
  have := anyUnk_false (k := f.lots.length) (by unfold knownB at h; simpa using h) j hj
  have e : lotAt f.lots j = f.lots[j] := by unfold lotAt; rw [List.getD_eq_getElem?_getD, List.getElem?_eq_getElem hj]; rfl
  rwa [e] at this

theorem unk_any (w : World) (vi vp : Value) (k : Bool) :
    Calls Try.prog 80 #[.agg #[vi, .bool k, vp]] w fun e w' => e = .returned (.bool (!k)) ∧ Below w.heap.size w w' := by
  go_enter Try.func80, Try.ntmps80
  go_wp2
  go_ret
  exact ⟨rfl, box_below' _ _⟩

set_option maxHeartbeats 1000000 in
theorem indexunk_any (B : Nat) (w : World) (v : Value) (ls : List Lot) (hv : IsLots B w v ls) (hB : B ≤ w.heap.size) :
    Calls Try.prog 97 #[v, .func (.func 80) #[] #[]] w fun e w' => ∃ i : Int, e = .returned (.int .i64 i) ∧ decide (0 ≤ i) = anyUnk ls ls.length ∧ Below w.heap.size w w' := by
  obtain ⟨b, off, cp, ⟨a, rfl, hcap, hmax, ha⟩, hlen, hcc⟩ := hv
  have HC := Lib.hid hcc
  have eg : ∀ args W, (callFunc 80 args).run Try.prog W = .ok (.enter 80 args) W := fun args W => by simp [go_sem]
  clear hcc
  go_enter Try.func97, Try.ntmps97
  go_wp2
  go_loopw [8] (fun i wr => ∃ k : Nat, k ≤ ls.length ∧ i = .int .i64 k ∧ anyUnk ls k = false ∧ Below w.heap.size w wr) (fun i _ => ls.length - (intOf i).toNat)
  case atStart => exact ⟨0, by omega, rfl, rfl, Below.refl _ _⟩
  case round =>
    obtain ⟨k, hk, rfl, h1, hbr⟩ := hrel
    have H1 := Lib.hid h1
    have HBR := Lib.hid hbr
    clear h1 hbr
    by_cases hlt : k < ls.length
    · obtain rfl : a = some ⟨b, off, none⟩ := by rcases ha with ha | ha; exact ha; omega
      obtain ⟨vi, vk, vp, hc1, hc2, hc3, hl1, rfl, hl3⟩ := HC.out k hlt
      have hb0 : b < w.heap.size := by have := hc1.1; omega
      have cell1 := (HBR.out.cell (p := ⟨b, off + k * 3, none⟩) hb0).trans hc1.2
      have cell2 := (HBR.out.cell (p := ⟨b, off + k * 3 + 1, none⟩) hb0).trans hc2.2
      have cell3 := (HBR.out.cell (p := ⟨b, off + k * 3 + 2, none⟩) hb0).trans hc3.2
      have HS : Hid (anyUnk ls (k + 1) = (anyUnk ls k || !(lotAt ls k).known)) := Lib.hid rfl
      obtain ⟨kn, hkn⟩ : ∃ kn, (lotAt ls k).known = kn := ⟨_, rfl⟩
      rw [hkn] at HS cell2
      obtain ⟨b1, o1, c1, ⟨a1, rfl, _⟩, _⟩ := hl1
      obtain ⟨b3, o3, c3, ⟨a3, rfl, _⟩, _⟩ := hl3
      clear hc1 hc2 hc3 hkn
      cases kn
      · go_wp2_with (go_at_call 80; refine (unk_any _ _ _ _).mono ?_; rintro e w7 ⟨rfl, hb7⟩; have HB7 := Lib.hid hb7; clear hb7)
        go_ret
        exact ⟨k, rfl, by rw [anyUnk_of (k := k + 1) (m := ls.length) (by rw [HS.out]; simp) (by omega)]; simp, HBR.out.trans (HB7.out.mono HBR.out.size)⟩
      · go_wp2_with (go_at_call 80; refine (unk_any _ _ _ _).mono ?_; rintro e w7 ⟨rfl, hb7⟩; have HB7 := Lib.hid hb7; clear hb7)
        go_roundw
        case rel => exact ⟨k + 1, by omega, by go_num, by rw [HS.out, H1.out]; rfl, HBR.out.trans (HB7.out.mono HBR.out.size)⟩
        case measure => simp [intOf]; omega
    · obtain rfl : k = ls.length := by omega
      go_wp2
      go_ret
      exact ⟨-1, rfl, by rw [H1.out]; rfl, HBR.out⟩
theorem containsunk_any (B : Nat) (w : World) (v : Value) (ls : List Lot) (hv : IsLots B w v ls) (hB : B ≤ w.heap.size) :
    Calls Try.prog 79 #[v, .func (.func 80) #[] #[]] w fun e w' => e = .returned (.bool (anyUnk ls ls.length)) ∧ Below w.heap.size w w' := by
  have HC := Lib.hid (indexunk_any B w v ls hv hB)
  clear hv
  go_enter Try.func79, Try.ntmps79
  go_wp2_with (go_at_call 97; refine HC.out.mono ?_; rintro e w5 ⟨i, rfl, hi, hb5⟩; have HI := Lib.hid hi; have HB5 := Lib.hid hb5; clear hi hb5)
  go_ret
  exact ⟨by rw [← HI.out]; rfl, HB5.out⟩
theorem known_any (B : Nat) (w : World) (vs vl : Value) (f : Flow) (hf : IsFlow B w vs vl f) (hB : B ≤ w.heap.size) :
    Calls Try.prog 48 #[.agg #[vs, vl]] w fun e w' => e = .returned (.bool (knownB f)) ∧ Below w.heap.size w w' := by
  have HC := Lib.hid (fun o => containsunk_any B (w.alloc o) vl f.lots (hf.2.2.below (box_below hB o) (Nat.le_refl _)) (by simp; omega))
  obtain ⟨rfl, _, hl⟩ := hf
  obtain ⟨b, off, cap, ⟨a, rfl, _⟩, _⟩ := hl
  go_enter Try.func48, Try.ntmps48
  go_wp2_with (go_at_call 79; refine (HC.out _).mono ?_; rintro e w5 ⟨rfl, hb5⟩; have HB5 := Lib.hid hb5; clear hb5)
  go_ret
  exact ⟨rfl, (box_below (Nat.le_refl _) _).trans (HB5.out.mono (by simp))⟩

end Go.Proofs.Ytndcbnnbgedgcaa
