/-
  Layer 18: the walks of frankinglaw18.names, wish, sane (printed by tools/gensn18.py).
-/
import Derived.Test.YtmfbabmejbppjaaOr17
import Derived.Deep.RegionLaw
set_option linter.unusedVariables false
set_option linter.unusedSimpArgs false
namespace Go.Proofs.Ytmfbabmejbppjaa
open Go.RowKit

def exN : NamesD := ⟨[[120], [121]], [[98, 111]], [[115, 108, 111, 119]], [1]⟩
def exN2 : NamesD := ⟨[[120], [120]], [[98, 111]], [[115, 108, 111, 119]], [1]⟩
def exN0 : NamesD := ⟨[], [], [], []⟩
def exW (s : Str) : WishD := ⟨s, [120], [98, 111], [115, 108, 111, 119], 0, 9, 2, 7, [], false, 0⟩
def exLate : WishD := ⟨[97], [120], [98, 111], [115, 108, 111, 119], 9, 9, 2, 7, [], false, 0⟩
def exAg : WishD := ⟨[98], [120], [98, 111], [115, 108, 111, 119], 0, 9, 2, 7, [[121], [120]], false, 0⟩
def exO : OrderD := ⟨0, 0, 1, 0, 0, 9, 2, 7, [], false, 0⟩
def exO2 : OrderD := ⟨0, 0, 1, 0, 0, 9, 2, 7, [0, 1], false, 0⟩
def exZ : OrderD := ⟨0, 0, 0, 0, 0, 0, 0, 0, [], false, 0⟩
/-- what orderOf gives, with the sort by insertion (it reckons) -/
def orderF (n : NamesD) (w : WishD) : OrderD :=
  ⟨idxI n.offices w.frm, idxI n.people w.to, n.homes.getD (idxI n.people w.to).toNat 0, idxI n.classes w.cls, w.after, w.by_, w.crowd, w.pay, insAll (w.against.map (idxI n.offices)), w.back, w.els⟩
theorem orderF_eq (n : NamesD) : orderOf n = orderF n := by funext w; unfold orderOf orderF; rw [insAll_eq]
def resF (n : NamesD) (l : List WishD) : Int :=
  if checkN n ≠ 0 then checkN n
  else if 64 < l.length then 2
  else if !namesDiff l then 181
  else if !l.all (knownB n) then 180
  else if !(l.map (orderF n)).all (rightN n) then 182 else 0
theorem resF_eq (n : NamesD) (l : List WishD) : resE n l = resF n l := by unfold resE resF ordersOf; rw [orderF_eq]
theorem resF_L (n : NamesD) (l : List WishD) : resL n l = if resF n l = 0 then l.map (orderF n) else [] := by unfold resL ordersOf; rw [resF_eq, orderF_eq]
theorem ex1 : resE exN [exW [97]] = 0 ∧ resL exN [exW [97]] = [exO] := by rw [resF_eq, resF_L]; decide +kernel
theorem ex2 : resE exN0 [exW [97]] = 180 ∧ resL exN0 [exW [97]] = [] := by rw [resF_eq, resF_L]; decide +kernel
theorem ex3 : resE exN [exW [97], exW [97]] = 181 ∧ resL exN [exW [97], exW [97]] = [] := by rw [resF_eq, resF_L]; decide +kernel
theorem ex4 : resE exN [exLate] = 182 ∧ resL exN [exLate] = [] := by rw [resF_eq, resF_L]; decide +kernel
theorem ex5 : resE exN [exAg] = 0 ∧ resL exN [exAg] = [exO2] := by rw [resF_eq, resF_L]; decide +kernel
theorem ex6 : checkN exN0 = 0 ∧ checkN exN2 = 180 := by decide +kernel
theorem ex7 : rightB exO 2 1 1 = true ∧ rightB exZ 2 1 1 = false ∧ rightB exO 1 1 1 = false := by decide +kernel

theorem strsOf {w : World} {b : Nat} {xs : List Str} {c : Nat} (h : CellsN w b (xs.map strV).toArray) (hc : xs.length ≤ c) (hm : c ≤ 1000) (hx : ∀ x ∈ xs, x.length ≤ 1000) : IsStrs w.heap.size w (.slice (some ⟨b, 0, none⟩) xs.length c) xs := by
  refine ⟨b, 0, c, ⟨_, rfl, hc, by omega, Or.inl rfl⟩, by omega, fun j hj => ⟨[strV xs[j]], fun q u hq => ⟨h.lt, ?_⟩, ?_, ?_⟩⟩
  · rw [h.cell]
    match q, hq with
    | 0, hq => simp at hq; subst hq; simp [hj]
  · rw [List.getD_eq_getElem?_getD, List.getElem?_eq_getElem hj]; rfl
  · have := hx _ (List.getElem_mem hj)
    rw [List.getD_eq_getElem?_getD, List.getElem?_eq_getElem hj]
    simp only [Option.getD_some]
    omega
theorem intsOf {w : World} {b : Nat} {xs : List Int} {c : Nat} (h : CellsN w b (xs.map (Value.int .i64)).toArray) (hc : xs.length ≤ c) (hm : c ≤ 1000) (hx : ∀ x ∈ xs, I64 x) : IsInts w.heap.size w (.slice (some ⟨b, 0, none⟩) xs.length c) xs := by
  refine ⟨b, 0, c, ⟨_, rfl, hc, by omega, Or.inl rfl⟩, by omega, hx, fun j hj => ⟨h.lt, ?_⟩⟩
  rw [h.cell]
  simp [nth_eq_getElem hj, hj]
theorem noStrs {B : Nat} {w : World} : IsStrs B w (.slice none 0 0) [] := IsRecs.nil
theorem noInts' {B : Nat} {w : World} : IsInts B w (.slice none 0 0) [] :=
  ⟨0, 0, 0, ⟨_, rfl, by simp, by omega, Or.inr rfl⟩, by simp, by simp, fun j hj => by simp at hj⟩
theorem wish1 {w : World} {va : Value} {x : WishD} {t : TypeId} (hv : IsStrs (w.heap.size + 1) (w.alloc (.cells (wishC va x).toArray t)) va x.against) (hk : okW x) :
    IsWishes (w.heap.size + 1) (w.alloc (.cells (wishC va x).toArray t)) (.slice (some ⟨w.heap.size, 0, none⟩) 1 1) [x] := by
  refine ⟨w.heap.size, 0, 1, ⟨_, rfl, Nat.le_refl _, by omega, Or.inl rfl⟩, by simp, fun j hj => ?_⟩
  obtain rfl : j = 0 := by simpa using hj
  refine ⟨wishC va x, fun q u hq => ⟨by omega, ?_⟩, va, rfl, hv, hk⟩
  rw [World.cell?_alloc_at _ _ _ _ rfl]
  simpa using hq
theorem wish2 {w : World} {x y : WishD} {t : TypeId} (h1 : x.against = []) (h2 : y.against = []) (hx : okW x) (hy : okW y) :
    IsWishes (w.heap.size + 1) (w.alloc (.cells (wishC (.slice none 0 0) x ++ wishC (.slice none 0 0) y).toArray t)) (.slice (some ⟨w.heap.size, 0, none⟩) 2 2) [x, y] := by
  refine ⟨w.heap.size, 0, 2, ⟨_, rfl, Nat.le_refl _, by omega, Or.inl rfl⟩, by simp, fun j hj => ?_⟩
  have hj2 : j = 0 ∨ j = 1 := by simp at hj; omega
  rcases hj2 with rfl | rfl
  · refine ⟨wishC (.slice none 0 0) x, fun q u hq => ⟨by omega, ?_⟩, _, rfl, by show IsStrs _ _ _ x.against; rw [h1]; exact noStrs, hx⟩
    rw [World.cell?_alloc_at _ _ _ _ rfl]
    have hl := (List.getElem?_eq_some_iff.1 hq).1
    simp only [Nat.zero_mul, Nat.add_zero, Nat.zero_add, List.getElem?_toArray]
    rw [List.getElem?_append_left hl]; exact hq
  · refine ⟨wishC (.slice none 0 0) y, fun q u hq => ⟨by omega, ?_⟩, _, rfl, by show IsStrs _ _ _ y.against; rw [h2]; exact noStrs, hy⟩
    rw [World.cell?_alloc_at _ _ _ _ rfl]
    simp only [Nat.zero_add, Nat.one_mul, List.getElem?_toArray]
    rw [List.getElem?_append_right (by simp [wishC])]
    simpa [wishC] using hq
theorem order1 {w : World} {x : OrderD} {t : TypeId} (h : x.against = []) (hk : okO x) :
    IsOrders (w.heap.size + 1) (w.alloc (.cells (orderC (.slice none 0 0) x).toArray t)) (.slice (some ⟨w.heap.size, 0, none⟩) 1 1) [x] := by
  refine ⟨w.heap.size, 0, 1, ⟨_, rfl, Nat.le_refl _, by omega, Or.inl rfl⟩, by simp, fun j hj => ?_⟩
  obtain rfl : j = 0 := by simpa using hj
  refine ⟨orderC (.slice none 0 0) x, fun q u hq => ⟨by omega, ?_⟩, _, rfl, by show IsInts _ _ _ x.against; rw [h]; exact noInts', hk⟩
  rw [World.cell?_alloc_at _ _ _ _ rfl]
  simpa using hq
theorem okW_ex (s : Str) (a : Int) (l : List Str) (hs : s.length ≤ 1000) (ha : I64 a) : okW ⟨s, [120], [98, 111], [115, 108, 111, 119], a, 9, 2, 7, l, false, 0⟩ := by
  refine ⟨?_, ?_, ?_, ?_, ha, ?_, ?_, ?_, ?_⟩ <;> first | (simp only; omega) | (simp only; unfold I64; omega) | (simp; done)

/-- Resolve at names and wishes that lie anywhere -/
theorem res_law (w0 W : World) (v : NamesV) (n : NamesD) (vl : Value) (l : List WishD) (E : Int) (os : List OrderD) (hb : Below w0.heap.size w0 W) (hv : IsNames W.heap.size W v n) (hs : SmallN n) (hl : IsWishes W.heap.size W vl l)
    (hag : ∀ k, k < l.length → (wishAt l k).against.length ≤ 1000000) (hE : resE n l = E) (hO : resL n l = os) :
    Calls Try.prog 12 #[v.agg, vl] W fun e w' => ∃ a c, e = .returned (.tuple #[.slice a os.length c, .int .i64 E]) ∧ IsOrders w'.heap.size w' (.slice a os.length c) os ∧ Below w0.heap.size w0 w' := by
  refine (resolve_any W.heap.size W v n vl l (Nat.le_refl _) hv hs hl hag).mono ?_
  rintro e w' ⟨vr, rfl, ho, hb'⟩
  rw [hO] at ho
  obtain ⟨a, c, rfl⟩ := ho.form
  exact ⟨a, c, by rw [hE], ownOrds_is ho, hb.trans (hb'.mono hb.size)⟩

set_option maxHeartbeats 2000000 in
set_option maxRecDepth 100000 in
/-- frankinglaw18.names -/
theorem lawnames_any (w : World) : Calls Try.prog 21 #[] w fun e w' =>
    e = .returned (.agg #[.slice (some ⟨w.heap.size + 1, 0, none⟩) 2 2, .slice (some ⟨w.heap.size + 1 + 1, 0, none⟩) 1 1, .slice (some ⟨w.heap.size + 1 + 1 + 1, 0, none⟩) 1 1, .slice (some ⟨w.heap.size + 1 + 1 + 1 + 1, 0, none⟩) 1 1]) ∧
    CellsN w' (w.heap.size + 1) #[strV [120], strV [121]] ∧ CellsN w' (w.heap.size + 1 + 1) #[strV [98, 111]] ∧ CellsN w' (w.heap.size + 1 + 1 + 1) #[strV [115, 108, 111, 119]] ∧ CellsN w' (w.heap.size + 1 + 1 + 1 + 1) #[.int .i64 1] ∧ Below w.heap.size w w' := by
  go_enter Try.func21, Try.ntmps21
  go_wp2
  have hX := (((((Box.new w #[.slice (some ⟨w.heap.size + 1, 0, none⟩) 2 2, .slice (some ⟨w.heap.size + 1 + 1, 0, none⟩) 1 1, .slice (some ⟨w.heap.size + 1 + 1 + 1, 0, none⟩) 1 1, .slice (some ⟨w.heap.size + 1 + 1 + 1 + 1, 0, none⟩) 1 1] 25).alloc (.cells #[strV [120], strV [121]] 9)).alloc (.cells #[strV [98, 111]] 9)).alloc (.cells #[strV [115, 108, 111, 119]] 9)).alloc (.cells #[.int .i64 1] 3)).2
  have n0 := hX 0
  have n1 := hX 1
  have n2 := hX 2
  have n3 := hX 3
  simp at n0 n1 n2 n3
  refine bodyPost_ret (v := .agg #[.slice (some ⟨w.heap.size + 1, 0, none⟩) 2 2, .slice (some ⟨w.heap.size + 1 + 1, 0, none⟩) 1 1, .slice (some ⟨w.heap.size + 1 + 1 + 1, 0, none⟩) 1 1, .slice (some ⟨w.heap.size + 1 + 1 + 1 + 1, 0, none⟩) 1 1]) (by simp [results, Try.results21, go_sem, n0, n1, n2, n3]) rfl ⟨rfl, ?_, ?_, ?_, ?_, ?_⟩
  · have h := CellsN.new (w.alloc (.cells #[.slice (some ⟨w.heap.size + 1, 0, none⟩) 2 2, .slice (some ⟨w.heap.size + 1 + 1, 0, none⟩) 1 1, .slice (some ⟨w.heap.size + 1 + 1 + 1, 0, none⟩) 1 1, .slice (some ⟨w.heap.size + 1 + 1 + 1 + 1, 0, none⟩) 1 1] 25)) #[strV [120], strV [121]] 9
    rw [World.size_alloc] at h
    exact ((h.alloc _).alloc _).alloc _
  · have h := CellsN.new ((w.alloc (.cells #[.slice (some ⟨w.heap.size + 1, 0, none⟩) 2 2, .slice (some ⟨w.heap.size + 1 + 1, 0, none⟩) 1 1, .slice (some ⟨w.heap.size + 1 + 1 + 1, 0, none⟩) 1 1, .slice (some ⟨w.heap.size + 1 + 1 + 1 + 1, 0, none⟩) 1 1] 25)).alloc (.cells #[strV [120], strV [121]] 9)) #[strV [98, 111]] 9
    rw [World.size_alloc, World.size_alloc] at h
    exact (h.alloc _).alloc _
  · have h := CellsN.new (((w.alloc (.cells #[.slice (some ⟨w.heap.size + 1, 0, none⟩) 2 2, .slice (some ⟨w.heap.size + 1 + 1, 0, none⟩) 1 1, .slice (some ⟨w.heap.size + 1 + 1 + 1, 0, none⟩) 1 1, .slice (some ⟨w.heap.size + 1 + 1 + 1 + 1, 0, none⟩) 1 1] 25)).alloc (.cells #[strV [120], strV [121]] 9)).alloc (.cells #[strV [98, 111]] 9)) #[strV [115, 108, 111, 119]] 9
    rw [World.size_alloc, World.size_alloc, World.size_alloc] at h
    exact h.alloc _
  · have h := CellsN.new ((((w.alloc (.cells #[.slice (some ⟨w.heap.size + 1, 0, none⟩) 2 2, .slice (some ⟨w.heap.size + 1 + 1, 0, none⟩) 1 1, .slice (some ⟨w.heap.size + 1 + 1 + 1, 0, none⟩) 1 1, .slice (some ⟨w.heap.size + 1 + 1 + 1 + 1, 0, none⟩) 1 1] 25)).alloc (.cells #[strV [120], strV [121]] 9)).alloc (.cells #[strV [98, 111]] 9)).alloc (.cells #[strV [115, 108, 111, 119]] 9)) #[.int .i64 1] 3
    rw [World.size_alloc, World.size_alloc, World.size_alloc, World.size_alloc] at h
    exact h
  · exact ((((box_below' w _).alloc (by simp) _).alloc (by simp; omega) _).alloc (by simp; omega) _).alloc (by simp; omega) _
def exV (s : Nat) : NamesV := ⟨.slice (some ⟨s + 1, 0, none⟩) 2 2, .slice (some ⟨s + 1 + 1, 0, none⟩) 1 1, .slice (some ⟨s + 1 + 1 + 1, 0, none⟩) 1 1, .slice (some ⟨s + 1 + 1 + 1 + 1, 0, none⟩) 1 1⟩
theorem exN_is {w : World} {s : Nat} (h1 : CellsN w (s + 1) #[strV [120], strV [121]]) (h2 : CellsN w (s + 1 + 1) #[strV [98, 111]]) (h3 : CellsN w (s + 1 + 1 + 1) #[strV [115, 108, 111, 119]]) (h4 : CellsN w (s + 1 + 1 + 1 + 1) #[.int .i64 1]) : IsNames w.heap.size w (exV s) exN :=
  ⟨strsOf (xs := [[120], [121]]) h1 (by decide) (by omega) (by simp), strsOf (xs := [[98, 111]]) h2 (by decide) (by omega) (by simp), strsOf (xs := [[115, 108, 111, 119]]) h3 (by decide) (by omega) (by simp), intsOf (xs := [1]) h4 (by decide) (by omega) (by simp [I64])⟩
theorem exN2_is {w : World} {s : Nat} (h1 : CellsN w (s + 1) #[strV [120], strV [120]]) (h2 : CellsN w (s + 1 + 1) #[strV [98, 111]]) (h3 : CellsN w (s + 1 + 1 + 1) #[strV [115, 108, 111, 119]]) (h4 : CellsN w (s + 1 + 1 + 1 + 1) #[.int .i64 1]) : IsNames w.heap.size w (exV s) exN2 :=
  ⟨strsOf (xs := [[120], [120]]) h1 (by decide) (by omega) (by simp), strsOf (xs := [[98, 111]]) h2 (by decide) (by omega) (by simp), strsOf (xs := [[115, 108, 111, 119]]) h3 (by decide) (by omega) (by simp), intsOf (xs := [1]) h4 (by decide) (by omega) (by simp [I64])⟩
theorem exN0_is {w : World} {B : Nat} : IsNames B w ⟨.slice none 0 0, .slice none 0 0, .slice none 0 0, .slice none 0 0⟩ exN0 := ⟨noStrs, noStrs, noStrs, noInts'⟩
theorem exN_small : SmallN exN := ⟨by decide, by decide, by decide, by decide⟩
theorem exN2_small : SmallN exN2 := ⟨by decide, by decide, by decide, by decide⟩
theorem exN0_small : SmallN exN0 := ⟨by decide, by decide, by decide, by decide⟩

set_option maxHeartbeats 2000000 in
set_option maxRecDepth 100000 in
/-- frankinglaw18.wish -/
theorem lawwish_any (w : World) (s : Str) : Calls Try.prog 22 #[strV s] w fun e w' =>
    e = .returned (.agg #[strV s, strV [120], strV [98, 111], strV [115, 108, 111, 119], .int .i64 0, .int .i64 9, .int .i64 2, .int .i64 7, .slice none 0 0, .bool false, .int .i64 0]) ∧ Below w.heap.size w w' := by
  go_enter Try.func22, Try.ntmps22
  go_wp2
  have hX := (Box.new w #[strV s, strV [120], strV [98, 111], strV [115, 108, 111, 119], .int .i64 0, .int .i64 9, .int .i64 2, .int .i64 7, .slice none 0 0, .bool false, .int .i64 0] 41).2
  have n0 := hX 0
  have n1 := hX 1
  have n2 := hX 2
  have n3 := hX 3
  have n4 := hX 4
  have n5 := hX 5
  have n6 := hX 6
  have n7 := hX 7
  have n8 := hX 8
  have n9 := hX 9
  have n10 := hX 10
  simp at n0 n1 n2 n3 n4 n5 n6 n7 n8 n9 n10
  exact bodyPost_ret (v := .agg #[strV s, strV [120], strV [98, 111], strV [115, 108, 111, 119], .int .i64 0, .int .i64 9, .int .i64 2, .int .i64 7, .slice none 0 0, .bool false, .int .i64 0]) (by simp [results, Try.results22, go_sem, n0, n1, n2, n3, n4, n5, n6, n7, n8, n9, n10]) rfl ⟨rfl, box_below' w _⟩
end Go.Proofs.Ytmfbabmejbppjaa
