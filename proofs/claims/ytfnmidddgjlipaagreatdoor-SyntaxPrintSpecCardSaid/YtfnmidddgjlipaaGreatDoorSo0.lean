/-
  Layer 18 (orders), plain: names, wishes, orders, what Resolve answers. No program in sight.
-/
import Derived.Test.YtfnmidddgjlipaaGreatDoorLx0
set_option linter.unusedVariables false
set_option linter.unusedSimpArgs false
namespace Go.Proofs.YtfnmidddgjlipaaGreatDoor

abbrev Str := List UInt8
structure NamesD where
  offices : List Str
  people : List Str
  classes : List Str
  homes : List Int
structure WishD where
  name : Str
  frm : Str
  to : Str
  cls : Str
  after : Int
  by_ : Int
  crowd : Int
  pay : Int
  against : List Str
  back : Bool
  els : Int
instance : Inhabited WishD := ⟨⟨[], [], [], [], 0, 0, 0, 0, [], false, 0⟩⟩
structure OrderD where
  frm : Int
  person : Int
  dest : Int
  cls : Int
  after : Int
  by_ : Int
  crowd : Int
  pay : Int
  against : List Int
  back : Bool
  els : Int
deriving DecidableEq
instance : Inhabited OrderD := ⟨⟨0, 0, 0, 0, 0, 0, 0, 0, [], false, 0⟩⟩

def strAt (l : List Str) (k : Nat) : Str := l.getD k []
def wishAt (l : List WishD) (k : Nat) : WishD := l.getD k default
def orderAt (l : List OrderD) (k : Nat) : OrderD := l.getD k default
theorem strAt_get {l : List Str} {k : Nat} (h : k < l.length) : strAt l k = l[k] := by unfold strAt; rw [List.getD_eq_getElem?_getD, List.getElem?_eq_getElem h]; rfl
theorem wishAt_get {l : List WishD} {k : Nat} (h : k < l.length) : wishAt l k = l[k] := by unfold wishAt; rw [List.getD_eq_getElem?_getD, List.getElem?_eq_getElem h]; rfl
theorem orderAt_get {l : List OrderD} {k : Nat} (h : k < l.length) : orderAt l k = l[k] := by unfold orderAt; rw [List.getD_eq_getElem?_getD, List.getElem?_eq_getElem h]; rfl

/-- the index of a string in a list; -1: it is not there -/
def idxI : List Str → Str → Int
  | [], _ => -1
  | a :: r, s => if a = s then 0 else if idxI r s < 0 then -1 else idxI r s + 1
theorem idxI_ge (l : List Str) (s : Str) : -1 ≤ idxI l s := by
  induction l with
  | nil => simp [idxI]
  | cons a r ih => unfold idxI; split; · omega
                   split <;> omega
theorem idxI_none {l : List Str} {s : Str} : idxI l s < 0 ↔ s ∉ l := by
  induction l with
  | nil => simp [idxI]
  | cons a r ih =>
    unfold idxI
    by_cases h : a = s
    · subst h; simp
    · rw [if_neg h]
      have hge := idxI_ge r s
      by_cases h2 : idxI r s < 0
      · rw [if_pos h2]
        have := ih.1 h2
        simp [this]
        exact fun e => h e.symm
      · rw [if_neg h2]
        constructor
        · intro h3; omega
        · intro h3
          have h4 : s ∉ r := fun hm => h3 (List.mem_cons_of_mem _ hm)
          exact absurd (ih.2 h4) h2
theorem idxI_eq {s : Str} : ∀ {l : List Str} {k : Nat}, l[k]? = some s → (∀ j, j < k → l[j]? ≠ some s) → idxI l s = k
  | [], k, h, _ => by simp at h
  | a :: r, 0, h, _ => by
    have : a = s := by simpa using h
    subst this
    simp [idxI]
  | a :: r, k + 1, h, hn => by
    have h0 : ¬ a = s := fun e => hn 0 (by omega) (by simp [e])
    have ih := idxI_eq (s := s) (l := r) (k := k) (by simpa using h) (fun j hj hh => hn (j + 1) (by omega) (by simpa using hh))
    unfold idxI
    rw [if_neg h0, ih, if_neg (by omega)]
    omega
theorem idxI_get {s : Str} : ∀ {l : List Str} {k : Nat}, idxI l s = k → l[k]? = some s ∧ ∀ j, j < k → l[j]? ≠ some s
  | [], k, h => by simp [idxI] at h
  | a :: r, k, h => by
    unfold idxI at h
    by_cases h0 : a = s
    · rw [if_pos h0] at h
      obtain rfl : k = 0 := by omega
      exact ⟨by simp [h0], fun j hj => by omega⟩
    · rw [if_neg h0] at h
      by_cases h2 : idxI r s < 0
      · rw [if_pos h2] at h; omega
      · rw [if_neg h2] at h
        obtain ⟨m, rfl⟩ : ∃ m, k = m + 1 := ⟨k - 1, by omega⟩
        obtain ⟨i1, i2⟩ := idxI_get (s := s) (l := r) (k := m) (by omega)
        refine ⟨by simpa using i1, fun j hj => ?_⟩
        match j with
        | 0 => simpa using h0
        | j + 1 => simpa using i2 j (by omega)
theorem idxI_lt {l : List Str} {s : Str} : idxI l s < l.length := by
  have hge := idxI_ge l s
  by_cases h : idxI l s < 0
  · omega
  · obtain ⟨k, hk⟩ : ∃ k : Nat, idxI l s = k := ⟨(idxI l s).toNat, by omega⟩
    have := (List.getElem?_eq_some_iff.1 (idxI_get hk).1).1
    omega

/-- are all of them names, and different? -/
def namesOk (l : List Str) : Bool := l.all nameB && decide l.Nodup
def checkN (n : NamesD) : Int :=
  if decide (24 < n.offices.length) || decide (1024 < n.people.length) || decide (8 < n.classes.length) then 2
  else if namesOk n.offices && namesOk n.people && namesOk n.classes && decide (n.homes.length = n.people.length) && n.homes.all (fun h => decide (0 ≤ h) && decide (h < n.offices.length)) then 0 else 180

/-- rising strictly, between 0 and a bound -/
def risesB (offs : Int) : Int → List Int → Bool
  | _, [] => true
  | last, k :: r => decide (last < k) && decide (k < offs) && risesB offs k r
def rightB (o : OrderD) (offs peo cla : Int) : Bool :=
  decide (0 ≤ o.frm) && decide (o.frm < offs) && decide (0 ≤ o.dest) && decide (o.dest < offs) && decide (0 ≤ o.person) && decide (o.person < peo) && decide (0 ≤ o.cls) && decide (o.cls < cla) &&
  decide (0 ≤ o.after) && decide (o.after < o.by_) && decide (o.by_ < 2097152) && decide (1 ≤ o.crowd) && decide (o.crowd ≤ 64) && decide (0 ≤ o.pay) && decide (o.pay ≤ 1099511627776) &&
  decide (0 ≤ o.els) && decide (o.els ≤ 2) && decide (o.frm ≠ o.dest) && risesB offs (-1) o.against

def knownB (n : NamesD) (w : WishD) : Bool :=
  w.against.all (fun s => decide (0 ≤ idxI n.offices s)) && decide (0 ≤ idxI n.offices w.frm) && decide (0 ≤ idxI n.people w.to) && decide (0 ≤ idxI n.classes w.cls)
/-- a list with a further number in its place -/
def insI (l : List Int) (x : Int) : List Int := l.takeWhile (fun y => decide (y < x)) ++ x :: l.dropWhile (fun y => decide (y < x))
def insAll (l : List Int) : List Int := l.foldl insI []
def sortI (l : List Int) : List Int := l.mergeSort fun x y => decide (x ≤ y)
def orderOf (n : NamesD) (w : WishD) : OrderD :=
  ⟨idxI n.offices w.frm, idxI n.people w.to, n.homes.getD (idxI n.people w.to).toNat 0, idxI n.classes w.cls, w.after, w.by_, w.crowd, w.pay, sortI (w.against.map (idxI n.offices)), w.back, w.els⟩
def namesDiff (l : List WishD) : Bool := decide ((l.map (·.name)).Nodup)
def ordersOf (n : NamesD) (l : List WishD) : List OrderD := l.map (orderOf n)
def rightN (n : NamesD) (o : OrderD) : Bool := rightB o n.offices.length n.people.length n.classes.length
/-- the error of Resolve -/
def resE (n : NamesD) (l : List WishD) : Int :=
  if checkN n ≠ 0 then checkN n
  else if 64 < l.length then 2
  else if !namesDiff l then 181
  else if !l.all (knownB n) then 180
  else if !(ordersOf n l).all (rightN n) then 182 else 0
def resL (n : NamesD) (l : List WishD) : List OrderD := if resE n l = 0 then ordersOf n l else []

/-! ### sorting by insertion -/
theorem insI_perm (l : List Int) (x : Int) : (insI l x).Perm (x :: l) := by
  unfold insI
  have h := List.perm_middle (a := x) (l₁ := l.takeWhile (fun y => decide (y < x))) (l₂ := l.dropWhile (fun y => decide (y < x)))
  rw [List.takeWhile_append_dropWhile] at h
  exact h
theorem insI_sorted {l : List Int} (h : l.Pairwise (· ≤ ·)) (x : Int) : (insI l x).Pairwise (· ≤ ·) := by
  induction l with
  | nil => simp [insI]
  | cons a r ih =>
    obtain ⟨h1, h2⟩ := List.pairwise_cons.1 h
    unfold insI
    by_cases ha : a < x
    · have e : insI (a :: r) x = a :: insI r x := by unfold insI; simp [List.takeWhile_cons, List.dropWhile_cons, ha]
      show (insI (a :: r) x).Pairwise _
      rw [e]
      refine List.pairwise_cons.2 ⟨fun y hy => ?_, ih h2⟩
      rcases List.mem_cons.1 ((insI_perm r x).mem_iff.1 hy) with rfl | hy
      · omega
      · exact h1 y hy
    · have e : insI (a :: r) x = x :: a :: r := by unfold insI; simp [List.takeWhile_cons, List.dropWhile_cons, ha]
      show (insI (a :: r) x).Pairwise _
      rw [e]
      refine List.pairwise_cons.2 ⟨fun y hy => ?_, h⟩
      rcases List.mem_cons.1 hy with rfl | hy
      · omega
      · have := h1 y hy; omega
theorem foldl_ins : ∀ (l acc : List Int), acc.Pairwise (· ≤ ·) → (l.foldl insI acc).Pairwise (· ≤ ·) ∧ (l.foldl insI acc).Perm (acc ++ l)
  | [], acc, h => ⟨h, by simp⟩
  | x :: r, acc, h => by
    obtain ⟨i1, i2⟩ := foldl_ins r (insI acc x) (insI_sorted h x)
    refine ⟨i1, i2.trans ?_⟩
    have := (insI_perm acc x).append_right r
    refine this.trans ?_
    exact List.perm_middle.symm
theorem sorted_unique : ∀ {a b : List Int}, a.Pairwise (· ≤ ·) → b.Pairwise (· ≤ ·) → a.Perm b → a = b
  | [], b, _, _, h => (List.nil_perm.1 h).symm ▸ rfl
  | x :: a, [], _, _, h => absurd (List.perm_nil.1 h) (by simp)
  | x :: a, y :: b, ha, hb, h => by
    obtain ⟨a1, a2⟩ := List.pairwise_cons.1 ha
    obtain ⟨b1, b2⟩ := List.pairwise_cons.1 hb
    have hx : x = y := by
      have h1 : x ∈ y :: b := h.mem_iff.1 (by simp)
      have h2 : y ∈ x :: a := h.mem_iff.2 (by simp)
      rcases List.mem_cons.1 h1 with e | h1
      · exact e
      · rcases List.mem_cons.1 h2 with e | h2
        · exact e.symm
        · have := a1 y h2; have := b1 x h1; omega
    subst hx
    rw [sorted_unique a2 b2 (List.Perm.cons_inv h)]
theorem sortI_sorted (l : List Int) : (sortI l).Pairwise (· ≤ ·) := by
  have := List.pairwise_mergeSort (le := fun x y : Int => decide (x ≤ y)) (fun a b c h1 h2 => by simp at *; omega) (fun a b => by simp; omega) l
  exact this.imp (by simp)
theorem sortI_perm (l : List Int) : (sortI l).Perm l := List.mergeSort_perm l _
theorem insAll_eq (l : List Int) : insAll l = sortI l := by
  obtain ⟨h1, h2⟩ := foldl_ins l [] List.Pairwise.nil
  exact sorted_unique h1 (sortI_sorted l) (h2.trans (by simpa using (sortI_perm l).symm))
end Go.Proofs.YtfnmidddgjlipaaGreatDoor
