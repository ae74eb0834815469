/-
  Layer 18, plain: Resolve when two offices have changed their places.
-/
import Derived.Test.YtmfbabmejbppjaaOl6a
set_option linter.unusedVariables false
set_option linter.unusedSimpArgs false
namespace Go.Proofs.Ytmfbabmejbppjaa
open Go.RowKit

theorem risesB_iff {offs : Int} : ∀ {l : List Int} {last : Int}, risesB offs last l = true ↔ l.Pairwise (· < ·) ∧ ∀ a ∈ l, last < a ∧ a < offs
  | [], last => by simp [risesB]
  | a :: r, last => by
    simp only [risesB, Bool.and_eq_true, decide_eq_true_eq, risesB_iff (l := r) (last := a), List.pairwise_cons, List.mem_cons]
    constructor
    · rintro ⟨⟨h1, h2⟩, h3, h4⟩
      refine ⟨⟨fun b hb => (h4 b hb).1, h3⟩, ?_⟩
      rintro b (rfl | hb)
      · exact ⟨h1, h2⟩
      · have := h4 b hb; exact ⟨by omega, this.2⟩
    · rintro ⟨⟨h1, h3⟩, h4⟩
      exact ⟨h4 a (Or.inl rfl), h3, fun b hb => ⟨h1 b hb, (h4 b (Or.inr hb)).2⟩⟩
theorem lt_of_sorted : ∀ {l : List Int}, l.Pairwise (· ≤ ·) → l.Nodup → l.Pairwise (· < ·)
  | [], _, _ => List.Pairwise.nil
  | a :: r, h1, h2 => by
    obtain ⟨p1, p2⟩ := List.pairwise_cons.1 h1
    obtain ⟨q1, q2⟩ := List.pairwise_cons.1 h2
    exact List.pairwise_cons.2 ⟨fun b hb => by have := p1 b hb; have := q1 b hb; omega, lt_of_sorted p2 q2⟩
theorem rises_sort {offs : Int} {L : List Int} : risesB offs (-1) (sortI L) = true ↔ L.Nodup ∧ ∀ a ∈ L, 0 ≤ a ∧ a < offs := by
  rw [risesB_iff]
  have hp := sortI_perm L
  constructor
  · rintro ⟨h1, h2⟩
    refine ⟨hp.nodup_iff.1 (h1.imp (fun h => by omega)), fun a ha => ?_⟩
    have := h2 a (hp.mem_iff.2 ha)
    omega
  · rintro ⟨h1, h2⟩
    refine ⟨lt_of_sorted (sortI_sorted L) (hp.nodup_iff.2 h1), fun a ha => ?_⟩
    have := h2 a (hp.mem_iff.1 ha)
    omega
theorem nodup_map_inj {f : Int → Int} (hf : ∀ a b, f a = f b → a = b) : ∀ {l : List Int}, (l.map f).Nodup ↔ l.Nodup
  | [] => by simp
  | a :: r => by
    simp only [List.map_cons, List.nodup_cons, nodup_map_inj hf (l := r), List.mem_map]
    constructor
    · rintro ⟨h1, h2⟩; exact ⟨fun hm => h1 ⟨a, hm, rfl⟩, h2⟩
    · rintro ⟨h1, h2⟩; exact ⟨fun ⟨b, hb, e⟩ => h1 (hf b a e ▸ hb), h2⟩

def movedO (i j : Nat) (o : OrderD) : OrderD := { o with frm := movedI i j o.frm, dest := movedI i j o.dest, against := sortI (o.against.map (movedI i j)) }
section
variable {n : NamesD} {i j : Nat} (hi : i < n.offices.length) (hj : j < n.offices.length)
include hi hj
theorem idx_sign (hnd : n.offices.Nodup) (s : Str) : (0 ≤ idxI (swapL n.offices i j) s) ↔ (0 ≤ idxI n.offices s) := by
  rw [idx_swap hi hj hnd]
  have h2 := idxI_lt (l := n.offices) (s := s)
  by_cases h : idxI n.offices s < 0
  · rw [if_pos h]; omega
  · rw [if_neg h]
    have := (movedI_range hi hj (idxI n.offices s)).2 ⟨by omega, h2⟩
    omega
theorem knownB_moved (hnd : n.offices.Nodup) (x : WishD) : knownB (movedN n i j) x = knownB n x := by
  unfold knownB movedN
  simp only
  have e : x.against.all (fun s => decide (0 ≤ idxI (swapL n.offices i j) s)) = x.against.all (fun s => decide (0 ≤ idxI n.offices s)) := by
    congr 1
    funext s
    rw [decide_eq_decide]
    exact idx_sign hi hj hnd s
  have e2 : decide (0 ≤ idxI (swapL n.offices i j) x.frm) = decide (0 ≤ idxI n.offices x.frm) := by
    rw [decide_eq_decide]; exact idx_sign hi hj hnd x.frm
  rw [e, e2]
theorem orderOf_moved (hc : checkN n = 0) {x : WishD} (hk : knownB n x = true) : orderOf (movedN n i j) x = movedO i j (orderOf n x) := by
  obtain ⟨hnd, _, _, hh, _⟩ := checkN_ok hc
  unfold knownB at hk
  simp only [Bool.and_eq_true, decide_eq_true_eq, List.all_eq_true] at hk
  obtain ⟨⟨⟨hka, hk0⟩, hk1⟩, hk2⟩ := hk
  have hl1 := idxI_lt (l := n.people) (s := x.to)
  have e1 : idxI (swapL n.offices i j) x.frm = movedI i j (idxI n.offices x.frm) := by rw [idx_swap hi hj hnd, if_neg (by omega)]
  have e2 : (n.homes.map (movedI i j)).getD (idxI n.people x.to).toNat 0 = movedI i j (n.homes.getD (idxI n.people x.to).toNat 0) := by
    have hlt : (idxI n.people x.to).toNat < n.homes.length := by omega
    rw [List.getD_eq_getElem?_getD, List.getD_eq_getElem?_getD, List.getElem?_map, List.getElem?_eq_getElem hlt]
    rfl
  have e3 : sortI (x.against.map (idxI (swapL n.offices i j))) = sortI ((sortI (x.against.map (idxI n.offices))).map (movedI i j)) := by
    refine sortI_permEq ?_
    have h1 : x.against.map (idxI (swapL n.offices i j)) = (x.against.map (idxI n.offices)).map (movedI i j) := by
      rw [List.map_map]
      refine List.map_congr_left fun s hs => ?_
      have := hka s hs
      rw [idx_swap hi hj hnd, if_neg (by omega)]
      rfl
    rw [h1]
    exact ((sortI_perm _).map _).symm
  unfold orderOf movedN movedO
  simp only [e1, e2, e3]
theorem rightN_moved (hc : checkN n = 0) {x : WishD} (hk : knownB n x = true) : rightN (movedN n i j) (orderOf (movedN n i j) x) = rightN n (orderOf n x) := by
  rw [orderOf_moved hi hj hc hk]
  have hr : ∀ q : Int, (0 ≤ movedI i j q ∧ movedI i j q < (n.offices.length : Int)) ↔ (0 ≤ q ∧ q < n.offices.length) := movedI_range hi hj
  have h1 : risesB n.offices.length (-1) (movedO i j (orderOf n x)).against = risesB n.offices.length (-1) (orderOf n x).against := by
    unfold movedO orderOf
    simp only
    rw [Bool.eq_iff_iff, rises_sort, rises_sort, nodup_map_inj (fun a b => movedI_inj)]
    have hp := sortI_perm (x.against.map (idxI n.offices))
    rw [hp.nodup_iff]
    constructor
    · rintro ⟨a1, a2⟩
      exact ⟨a1, fun a ha => (hr a).1 (a2 _ (List.mem_map_of_mem (hp.mem_iff.2 ha)))⟩
    · rintro ⟨a1, a2⟩
      refine ⟨a1, fun a ha => ?_⟩
      obtain ⟨b, hb, rfl⟩ := List.mem_map.1 ha
      exact (hr b).2 (a2 b (hp.mem_iff.1 hb))
  have h2 := hr (orderOf n x).frm
  have h3 := hr (orderOf n x).dest
  have h4 : (movedI i j (orderOf n x).frm ≠ movedI i j (orderOf n x).dest) ↔ ((orderOf n x).frm ≠ (orderOf n x).dest) := ⟨fun h e => h (by rw [e]), fun h e => h (movedI_inj e)⟩
  have hl : (movedN n i j).offices.length = n.offices.length := swapL_len _ _ _
  unfold rightN rightB
  rw [hl, h1]
  generalize orderOf n x = o at h2 h3 h4 ⊢
  rw [Bool.eq_iff_iff]
  simp only [Bool.and_eq_true, decide_eq_true_eq]
  show ((((((((((((((((((0 ≤ movedI i j o.frm ∧ movedI i j o.frm < _) ∧ 0 ≤ movedI i j o.dest) ∧ movedI i j o.dest < _) ∧ 0 ≤ o.person) ∧ o.person < _) ∧ 0 ≤ o.cls) ∧ o.cls < _) ∧ _) ∧ _) ∧ _) ∧ _) ∧ _) ∧ _) ∧ _) ∧ _) ∧ _) ∧ movedI i j o.frm ≠ movedI i j o.dest) ∧ _) ↔ _
  constructor
  · rintro ⟨⟨⟨⟨⟨⟨⟨⟨⟨⟨⟨⟨⟨⟨⟨⟨⟨⟨a0, a1⟩, a2⟩, a3⟩, a4⟩, a5⟩, a6⟩, a7⟩, a8⟩, a9⟩, a10⟩, a11⟩, a12⟩, a13⟩, a14⟩, a15⟩, a16⟩, a17⟩, a18⟩
    obtain ⟨b0, b1⟩ := h2.1 ⟨a0, a1⟩
    obtain ⟨b2, b3⟩ := h3.1 ⟨a2, a3⟩
    exact ⟨⟨⟨⟨⟨⟨⟨⟨⟨⟨⟨⟨⟨⟨⟨⟨⟨⟨b0, b1⟩, b2⟩, b3⟩, a4⟩, a5⟩, a6⟩, a7⟩, a8⟩, a9⟩, a10⟩, a11⟩, a12⟩, a13⟩, a14⟩, a15⟩, a16⟩, h4.1 a17⟩, a18⟩
  · rintro ⟨⟨⟨⟨⟨⟨⟨⟨⟨⟨⟨⟨⟨⟨⟨⟨⟨⟨a0, a1⟩, a2⟩, a3⟩, a4⟩, a5⟩, a6⟩, a7⟩, a8⟩, a9⟩, a10⟩, a11⟩, a12⟩, a13⟩, a14⟩, a15⟩, a16⟩, a17⟩, a18⟩
    obtain ⟨b0, b1⟩ := h2.2 ⟨a0, a1⟩
    obtain ⟨b2, b3⟩ := h3.2 ⟨a2, a3⟩
    exact ⟨⟨⟨⟨⟨⟨⟨⟨⟨⟨⟨⟨⟨⟨⟨⟨⟨⟨b0, b1⟩, b2⟩, b3⟩, a4⟩, a5⟩, a6⟩, a7⟩, a8⟩, a9⟩, a10⟩, a11⟩, a12⟩, a13⟩, a14⟩, a15⟩, a16⟩, h4.2 a17⟩, a18⟩
theorem res_moved (l : List WishD) : resE (movedN n i j) l = resE n l ∧ resL (movedN n i j) l = (resL n l).map (movedO i j) := by
  have hcm := checkN_moved hi hj
  by_cases hc : checkN n = 0
  · obtain ⟨hnd, _⟩ := checkN_ok hc
    have hk : l.all (knownB (movedN n i j)) = l.all (knownB n) := by
      congr 1
      funext x
      exact knownB_moved hi hj hnd x
    by_cases hka : l.all (knownB n) = true
    · have hks := List.all_eq_true.1 hka
      have ho : ordersOf (movedN n i j) l = (ordersOf n l).map (movedO i j) := by
        unfold ordersOf
        rw [List.map_map]
        exact List.map_congr_left fun x hx => orderOf_moved hi hj hc (hks x hx)
      have hr : (ordersOf (movedN n i j) l).all (rightN (movedN n i j)) = (ordersOf n l).all (rightN n) := by
        unfold ordersOf
        rw [List.all_map, List.all_map, Bool.eq_iff_iff, List.all_eq_true, List.all_eq_true]
        constructor
        · intro h x hx
          have := h x hx
          simp only [Function.comp] at this ⊢
          rwa [rightN_moved hi hj hc (hks x hx)] at this
        · intro h x hx
          have := h x hx
          simp only [Function.comp] at this ⊢
          rwa [rightN_moved hi hj hc (hks x hx)]
      have he : resE (movedN n i j) l = resE n l := by
        unfold resE
        rw [hcm, hk, hr]
      refine ⟨he, ?_⟩
      unfold resL
      rw [he, ho]
      split <;> simp
    · have hka2 : l.all (knownB n) = false := by simpa using hka
      have he : resE (movedN n i j) l = resE n l := by
        unfold resE
        rw [hcm, hk, hka2]
        simp
      have hne : resE n l ≠ 0 := fun h => by
        have := (resE_zero h).2.2.2.1
        rw [hka2] at this
        cases this
      exact ⟨he, by rw [resL_nil (by rw [he]; exact hne), resL_nil hne]; rfl⟩
  · have he : resE (movedN n i j) l = resE n l := by rw [resE_check (by rw [hcm]; exact hc), resE_check hc, hcm]
    have hne : resE n l ≠ 0 := by rw [resE_check hc]; exact hc
    exact ⟨he, by rw [resL_nil (by rw [he]; exact hne), resL_nil hne]; rfl⟩
end
end Go.Proofs.Ytmfbabmejbppjaa
