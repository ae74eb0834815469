/-
  A region whose order is drawn, by an invariant over what the done operations have put into their slots (RegInv) and the frame put together at the end.
-/
import Derived.Test.YtfnmidddgjlipaaGreatDoorRegPut
set_option linter.unusedVariables false
set_option linter.unusedSimpArgs false
namespace Go.Proofs.YtfnmidddgjlipaaGreatDoor
open Go.RowKit

def dsInj : List (Option Nat) → Bool
  | [] => true
  | none :: r => dsInj r
  | some d :: r => !(r.contains (some d)) && dsInj r
def dsBd (n : Nat) : List (Option Nat) → Bool
  | [] => true
  | none :: r => dsBd n r
  | some d :: r => decide (d < n) && dsBd n r
theorem dsInj_at : ∀ {ds : List (Option Nat)}, dsInj ds = true → ∀ {i j d : Nat}, ds[i]? = some (some d) → ds[j]? = some (some d) → i = j
  | [], _, i, j, d, h, _ => by simp at h
  | none :: r, hi, 0, j, d, h, _ => by simp at h
  | none :: r, hi, i + 1, 0, d, _, h => by simp at h
  | none :: r, hi, i + 1, j + 1, d, h1, h2 => by
    have := dsInj_at (ds := r) hi (i := i) (j := j) (d := d) (by simpa using h1) (by simpa using h2)
    omega
  | some e :: r, hi, 0, 0, d, _, _ => rfl
  | some e :: r, hi, 0, j + 1, d, h1, h2 => by
    simp only [dsInj, Bool.and_eq_true, Bool.not_eq_true', List.contains_eq_mem, decide_eq_false_iff_not] at hi
    have e1 : e = d := by simpa using h1
    subst e1
    exact absurd (List.mem_of_getElem? (by simpa using h2)) hi.1
  | some e :: r, hi, i + 1, 0, d, h1, h2 => by
    simp only [dsInj, Bool.and_eq_true, Bool.not_eq_true', List.contains_eq_mem, decide_eq_false_iff_not] at hi
    have e1 : e = d := by simpa using h2
    subst e1
    exact absurd (List.mem_of_getElem? (by simpa using h1)) hi.1
  | some e :: r, hi, i + 1, j + 1, d, h1, h2 => by
    simp only [dsInj, Bool.and_eq_true] at hi
    have := dsInj_at (ds := r) hi.2 (i := i) (j := j) (d := d) (by simpa using h1) (by simpa using h2)
    omega
theorem dsBd_at : ∀ {ds : List (Option Nat)} {n : Nat}, dsBd n ds = true → ∀ {i d : Nat}, ds[i]? = some (some d) → d < n
  | [], n, _, i, d, h => by simp at h
  | none :: r, n, hi, 0, d, h => by simp at h
  | none :: r, n, hi, i + 1, d, h => dsBd_at (ds := r) hi (by simpa using h)
  | some e :: r, n, hi, 0, d, h => by
    simp only [dsBd, Bool.and_eq_true, decide_eq_true_eq] at hi
    have e1 : e = d := by simpa using h
    subst e1
    exact hi.1
  | some e :: r, n, hi, i + 1, d, h => by
    simp only [dsBd, Bool.and_eq_true] at hi
    exact dsBd_at (ds := r) hi.2 (by simpa using h)

/-- the frame a0 in which the done operations have put xs into their slots -/
structure FrameV (a0 : Act) (ds : List (Option Nat)) (L : Nat → Bool) (xs : Nat → Value) (a : Act) : Prop where
  defers : a.defers = a0.defers
  size : a.tmps.size = a0.tmps.size
  slot : ∀ i d, ds[i]? = some (some d) → L i = true → a.tmps.getD d undef = xs i
  out : ∀ t, ds.contains (some t) = false → a.tmps.getD t undef = a0.tmps.getD t undef
  rest : ∀ i d, ds[i]? = some (some d) → L i = false → a.tmps.getD d undef = a0.tmps.getD d undef
theorem FrameV.start (a0 : Act) (ds : List (Option Nat)) (xs : Nat → Value) : FrameV a0 ds (fun _ => false) xs a0 := ⟨rfl, rfl, (fun _ _ _ h => by cases h), (fun _ _ => rfl), (fun _ _ _ _ => rfl)⟩
theorem FrameV.put {a0 a : Act} {ds : List (Option Nat)} {L : Nat → Bool} {xs : Nat → Value} (h : FrameV a0 ds L xs a) (hi : dsInj ds = true) (hn : dsBd a0.tmps.size ds = true) {i : Nat} {o : Option Nat} (hd : ds[i]? = some o) (v : Value) : FrameV a0 ds (upd L i) (updV xs i v) (a.put o v) := by
  cases o with
  | none =>
    refine ⟨h.defers, h.size, fun j d hj hL => ?_, h.out, fun j d hj hL => ?_⟩
    · have hne : j ≠ i := fun e => by subst e; rw [hd] at hj; cases hj
      rw [updV_ne hne]
      refine h.slot j d hj ?_
      unfold upd at hL
      simpa [hne] using hL
    · refine h.rest j d hj ?_
      unfold upd at hL
      simp at hL
      exact hL.2
  | some d =>
    have hlt : d < a.tmps.size := by rw [h.size]; exact dsBd_at hn hd
    refine ⟨h.defers, ?_, fun j e hj hL => ?_, fun t ht => ?_, fun j e hj hL => ?_⟩
    · show (a.tmps.setIfInBounds d v).size = _
      rw [Array.size_setIfInBounds, h.size]
    · show (a.tmps.setIfInBounds d v).getD e undef = _
      rw [getD_setIf hlt]
      by_cases hne : j = i
      · subst hne
        rw [hd] at hj
        obtain rfl : d = e := by injection hj with hj; injection hj
        rw [if_pos rfl, updV_self]
      · rw [if_neg (fun e1 => hne (dsInj_at hi hj (by rw [e1]; exact hd))), updV_ne hne]
        refine h.slot j e hj ?_
        unfold upd at hL
        simpa [hne] using hL
    · show (a.tmps.setIfInBounds d v).getD t undef = _
      rw [getD_setIf hlt, if_neg, h.out t ht]
      rintro rfl
      have := List.mem_of_getElem? hd
      simp only [List.contains_eq_mem, decide_eq_false_iff_not] at ht
      exact ht this
    · show (a.tmps.setIfInBounds d v).getD e undef = _
      unfold upd at hL
      simp at hL
      rw [getD_setIf hlt, if_neg (fun e1 => hL.1 (dsInj_at hi hj (by rw [e1]; exact hd)))]
      exact h.rest j e hj hL.2
/-- the value of a done operation's slot -/
theorem FrameV.ev {a0 a : Act} {ds : List (Option Nat)} {L : Nat → Bool} {xs : Nat → Value} (h : FrameV a0 ds L xs a) (i : Nat) {d : Nat} (hd : ds[i]? = some (some d)) (hL : L i = true) : a.eval (.tmp d) = xs i := h.slot i d hd hL
/-- a slot that is none of the region's -/
theorem FrameV.lo {a0 a : Act} {ds : List (Option Nat)} {L : Nat → Bool} {xs : Nat → Value} (h : FrameV a0 ds L xs a) (t : Nat) (ht : ds.contains (some t) = false) : a.eval (.tmp t) = a0.eval (.tmp t) := h.out t ht

def putGo (xs : Nat → Value) : Nat → List (Option Nat) → Act → Act
  | _, [], a => a
  | k, d :: r, a => putGo xs (k + 1) r (a.put d (xs k))
theorem put_size (a : Act) (o : Option Nat) (v : Value) : (a.put o v).tmps.size = a.tmps.size := by
  cases o with
  | none => rfl
  | some d => show (a.tmps.setIfInBounds d v).size = _; rw [Array.size_setIfInBounds]
theorem put_defers (a : Act) (o : Option Nat) (v : Value) : (a.put o v).defers = a.defers := by cases o <;> rfl
theorem putGo_size (xs : Nat → Value) : ∀ (ds : List (Option Nat)) (k : Nat) (a : Act), (putGo xs k ds a).tmps.size = a.tmps.size ∧ (putGo xs k ds a).defers = a.defers
  | [], k, a => ⟨rfl, rfl⟩
  | d :: r, k, a => by
    obtain ⟨h1, h2⟩ := putGo_size xs r (k + 1) (a.put d (xs k))
    exact ⟨h1.trans (put_size _ _ _), h2.trans (put_defers _ _ _)⟩
theorem putGo_at (xs : Nat → Value) : ∀ (ds : List (Option Nat)) (k : Nat) (a : Act), dsInj ds = true → dsBd a.tmps.size ds = true → ∀ t,
    (∀ i, ds[i]? = some (some t) → (putGo xs k ds a).tmps.getD t undef = xs (k + i)) ∧ (ds.contains (some t) = false → (putGo xs k ds a).tmps.getD t undef = a.tmps.getD t undef)
  | [], k, a, _, _, t => ⟨fun i h => by simp at h, fun _ => rfl⟩
  | none :: r, k, a, hi, hn, t => by
    obtain ⟨h1, h2⟩ := putGo_at xs r (k + 1) (a.put none (xs k)) hi hn t
    refine ⟨fun i h => ?_, fun h => ?_⟩
    · match i, h with
      | 0, h => simp at h
      | i + 1, h => rw [show k + (i + 1) = k + 1 + i by omega]; exact h1 i (by simpa using h)
    · exact h2 (by simpa using h)
  | some d :: r, k, a, hi, hn, t => by
    simp only [dsInj, Bool.and_eq_true, Bool.not_eq_true'] at hi
    have hd : d < a.tmps.size := by simp only [dsBd, Bool.and_eq_true, decide_eq_true_eq] at hn; exact hn.1
    have hn2 : dsBd (a.put (some d) (xs k)).tmps.size r = true := by rw [put_size]; simp only [dsBd, Bool.and_eq_true] at hn; exact hn.2
    obtain ⟨h1, h2⟩ := putGo_at xs r (k + 1) (a.put (some d) (xs k)) hi.2 hn2 t
    refine ⟨fun i h => ?_, fun h => ?_⟩
    · match i, h with
      | 0, h =>
        obtain rfl : d = t := by simpa using h
        show (putGo xs (k + 1) r (a.put (some d) (xs k))).tmps.getD d undef = xs k
        rw [h2 hi.1]
        show (a.tmps.setIfInBounds d (xs k)).getD d undef = _
        rw [getD_setIf hd, if_pos rfl]
      | i + 1, h => rw [show k + (i + 1) = k + 1 + i by omega]; exact h1 i (by simpa using h)
    · have h' : t ≠ d ∧ r.contains (some t) = false := by simpa using h
      show (putGo xs (k + 1) r (a.put (some d) (xs k))).tmps.getD t undef = _
      rw [h2 h'.2]
      show (a.tmps.setIfInBounds d (xs k)).getD t undef = _
      rw [getD_setIf hd, if_neg h'.1]
theorem FrameV.final {a0 a : Act} {ds : List (Option Nat)} {L : Nat → Bool} {xs : Nat → Value} (h : FrameV a0 ds L xs a) (hi : dsInj ds = true) (hn : dsBd a0.tmps.size ds = true) (hL : ∀ i, i < ds.length → L i = true) : a = putGo xs 0 ds a0 := by
  obtain ⟨s1, s2⟩ := putGo_size xs ds 0 a0
  refine act_ext (h.defers.trans s2.symm) (h.size.trans s1.symm) fun t _ => ?_
  obtain ⟨p1, p2⟩ := putGo_at xs ds 0 a0 hi hn t
  by_cases hc : ds.contains (some t) = true
  · obtain ⟨i, hi'⟩ := List.getElem?_of_mem (by simpa using hc)
    rw [p1 i hi', h.slot i t hi' (hL i (List.getElem?_eq_some_iff.1 hi').1), Nat.zero_add]
  · have hc' : ds.contains (some t) = false := by simpa using hc
    rw [p2 hc', h.out t hc']

section
variable {P : Program} {ops : Array Oper} {Q : Exit → Act → World → Prop}
def VStep (P : Program) (ops : Array Oper) (Q : Exit → Act → World → Prop) (ds : List (Option Nat)) (a0 : Act) (J : (Nat → Bool) → World → (Nat → Value) → Prop) (i : Nat) (o : Oper) : Prop :=
  ∀ (L : Nat → Bool) (a' : Act) (w' : World) (xs : Nat → Value), L i = false → allOn L (depsOf o) → FrameV a0 ds L xs a' → J L w' xs →
    ∀ K : Act → World → Prop, Shut (∀ v w'', J (upd L i) w'' (updV xs i v) → K (a'.put o.dst v) w'') → if Region.wanted o (yielded ops a'.tmps) = true then Oper.wp P o a' w' K Q else K (a'.put o.dst undef) w'
def VSteps (P : Program) (ops : Array Oper) (Q : Exit → Act → World → Prop) (ds : List (Option Nat)) (a0 : Act) (J : (Nat → Bool) → World → (Nat → Value) → Prop) : Nat → List Oper → Prop
  | _, [] => True
  | k, o :: r => VStep P ops Q ds a0 J k o ∧ VSteps P ops Q ds a0 J (k + 1) r
theorem VSteps.inv {ds : List (Option Nat)} {a0 : Act} {J : (Nat → Bool) → World → (Nat → Value) → Prop} (hi : dsInj ds = true) (hn : dsBd a0.tmps.size ds = true) : ∀ {l : List Oper} {k : Nat}, (∀ i o, l[i]? = some o → ds[k + i]? = some o.dst) → VSteps P ops Q ds a0 J k l →
    InvSteps P ops Q (fun L a' w' => ∃ xs, FrameV a0 ds L xs a' ∧ J L w' xs) k l
  | [], _, _, _ => trivial
  | o :: r, k, hd, h => by
    refine ⟨?_, VSteps.inv hi hn (fun i o' ho => ?_) h.2⟩
    · intro L a' w' hL hdep hI K hK
      obtain ⟨xs, hf, hJ⟩ := hI
      exact h.1 L a' w' xs hL hdep hf hJ K (show ∀ v w'', J (upd L k) w'' (updV xs k v) → K (a'.put o.dst v) w'' from fun v w'' hJ' => hK.out _ _ ⟨_, hf.put hi hn (by simpa using hd 0 o rfl) v, hJ'⟩)
    · have := hd (i + 1) o' (by simpa using ho)
      rw [show k + 1 + i = k + (i + 1) by omega]
      exact this
/-- a region whose order is drawn, by what its slots hold -/
theorem wp_region_V {id : Nat} {l : List Oper} {a : Act} {w : World} (ds : List (Option Nat)) (J : (Nat → Bool) → World → (Nat → Value) → Prop) (hm : P.follows .mixedOrders = true) (hb : backB 0 l = true) (hds : l.map (·.dst) = ds) (hi : dsInj ds = true) (hn : dsBd a.tmps.size ds = true)
    (h0 : ∀ xs, J (fun _ => false) w.drew xs) (hs : VSteps P l.toArray Q ds a J 0 l) (he : ∀ (L : Nat → Bool) w' xs, (∀ i, i < ds.length → L i = true) → J L w' xs → Q .normal (putGo xs 0 ds a) w') : (Code.region id l.toArray true).wp P Q a w := by
  have hlen : ds.length = l.length := by rw [← hds]; simp
  refine wp_region_inv (fun a0 L a' w' => ∃ xs, FrameV a0 ds L xs a' ∧ J L w' xs) hm hb ⟨fun _ => undef, FrameV.start _ _ _, h0 _⟩ (VSteps.inv hi hn (fun i o ho => ?_) hs) ?_
  · rw [← hds, Nat.zero_add, List.getElem?_map, ho]; rfl
  · rintro L a' w' hL ⟨xs, hf, hJ⟩
    rw [hf.final hi hn (fun i h => hL i (by omega))]
    exact he L w' xs (fun i h => hL i (by omega)) hJ
end
/-- values that are known ahead -/
def ValsAt (V : List (Option Value)) (L : Nat → Bool) (xs : Nat → Value) : Prop := ∀ j v, V[j]? = some (some v) → L j = true → xs j = v
theorem ValsAt.none (V : List (Option Value)) (xs : Nat → Value) : ValsAt V (fun _ => false) xs := fun _ _ _ h => by cases h
theorem ValsAt.set {V : List (Option Value)} {L : Nat → Bool} {xs : Nat → Value} (h : ValsAt V L xs) {i : Nat} {v : Value} (hv : V[i]? = some (some v)) : ValsAt V (upd L i) (updV xs i v) := fun j u hj hL => by
  by_cases e : j = i
  · subst e
    rw [hj] at hv
    rw [updV_self]
    exact (Option.some.inj (Option.some.inj hv)).symm
  · rw [updV_ne e]
    refine h j u hj ?_
    unfold upd at hL
    simpa [e] using hL
theorem ValsAt.free {V : List (Option Value)} {L : Nat → Bool} {xs : Nat → Value} (h : ValsAt V L xs) {i : Nat} (hv : V[i]? = some Option.none) (v : Value) : ValsAt V (upd L i) (updV xs i v) := fun j u hj hL => by
  by_cases e : j = i
  · subst e
    rw [hj] at hv
    cases hv
  · rw [updV_ne e]
    refine h j u hj ?_
    unfold upd at hL
    simpa [e] using hL
theorem yielded_of {ops : Array Oper} {tmps : Array Value} {j d : Nat} {b : Bool} (hd : (ops[j]?).bind (·.dst) = some d) (h : tmps.getD d undef = .bool b) : yielded ops tmps j = some b := by
  have h1 : tmps[d]? = some (.bool b) := by
    rw [Array.getD_eq_getD_getElem?] at h
    cases e : tmps[d]? with
    | none => rw [e] at h; cases h
    | some v => rw [e] at h; simp at h; rw [h]
  unfold yielded
  rw [hd]
  simp [h1]
theorem wanted_yes {ops : Array Oper} {tmps : Array Value} {o : Oper} {j d : Nat} {b : Bool} (hg : o.guard = some (j, b)) (hd : (ops[j]?).bind (·.dst) = some d) (h : tmps.getD d undef = .bool b) : Region.wanted o (yielded ops tmps) = true := by
  unfold Region.wanted
  rw [hg]
  simp only
  rw [yielded_of hd h]
  simp
theorem wanted_no {ops : Array Oper} {tmps : Array Value} {o : Oper} {j d : Nat} {b b' : Bool} (hg : o.guard = some (j, b')) (hd : (ops[j]?).bind (·.dst) = some d) (h : tmps.getD d undef = .bool b) (hne : b ≠ b') : ¬ Region.wanted o (yielded ops tmps) = true := by
  unfold Region.wanted
  rw [hg]
  simp only
  rw [yielded_of hd h]
  simpa using hne
theorem upd_self (L : Nat → Bool) (i : Nat) : upd L i i = true := by unfold upd; simp
theorem upd_ne {L : Nat → Bool} {i j : Nat} (h : j ≠ i) : upd L i j = L j := by unfold upd; simp [h]
end Go.Proofs.YtfnmidddgjlipaaGreatDoor
