/-
  Layer 3, plain: texts stand at their places; gaps between them.
-/
import Derived.Test.YtagjiljhbdjlfaaDoorLn3
set_option linter.unusedVariables false
set_option linter.unusedSimpArgs false
namespace Go.Proofs.YtagjiljhbdjlfaaDoor

theorem tw_pre (p : UInt8 → Bool) (l : List UInt8) : l.take (l.takeWhile p).length = l.takeWhile p := (List.prefix_iff_eq_take.1 (List.takeWhile_prefix (l := l) p)).symm
theorem mem_tw' {p : UInt8 → Bool} {l : List UInt8} {c : UInt8} (h : c ∈ l.takeWhile p) : p c = true := List.all_eq_true.1 (List.all_takeWhile (p := p) (l := l)) c h
theorem step_txt_eq {l : List UInt8} {k : Nat} {t : Tok} (h : stepL l = some (k, some t)) : l.take k = txt t := by
  match l, h with
  | c :: r, h =>
    simp only [stepL] at h
    split at h
    · cases h
    · split at h
      · cases h
      · split at h
        · split at h
          · cases h; exact (tw_pre _ _).trans rfl
          · cases h
        · split at h
          · rename_i hd
            split at h
            · rename_i hn
              cases h
              have hall : ∀ x ∈ (c :: r).takeWhile isDig, isDig x = true := fun x hx => mem_tw' hx
              have hne : (c :: r).takeWhile isDig ≠ [] := by rw [List.takeWhile_cons, if_pos hd]; simp
              unfold numB at hn
              rw [Bool.and_eq_true] at hn
              have := (dec_eq_iff hall hne).2 hn.1
              show _ = (if (2 : Int) == 2 then Go.Lib.itoa _ else [])
              rw [if_pos (by rfl), itoa_nat (Int.natCast_nonneg _), Int.toNat_natCast, this]
              exact tw_pre _ _
            · cases h
          · split at h
            · cases h; simp [txt]
            · cases h

def gapC (b : UInt8) (nx : Option UInt8) (c : Bool) : Bool := b != 10 && (c || (b == 47 && nx == some 47))
def gapF : List UInt8 → Bool → Option Bool
  | [], c => some c
  | b :: r, c => if !gapC b r.head? c && !isSpc b then none else gapF r (gapC b r.head? c)

theorem gap_spc {b : UInt8} (h : isSpc b = true) (x : List UInt8) : gapF ([b] ++ x) false = gapF x false := by
  have h47 : (b == 47) = false := by
    cases e : (b == 47) with
    | false => rfl
    | true => obtain rfl : b = 47 := by simpa using e
              cases h
  have hc : gapC b x.head? false = false := by unfold gapC; rw [h47]; simp
  show gapF (b :: x) false = _
  simp [gapF, hc, h]
theorem gap_in : ∀ (p x : List UInt8), (∀ b ∈ p, (b != 10) = true) → gapF (p ++ x) true = gapF x true
  | [], x, _ => rfl
  | b :: p, x, h => by
    have hb := h b (by simp)
    have hc : ∀ o, gapC b o true = true := fun o => by unfold gapC; rw [hb]; rfl
    show gapF (b :: (p ++ x)) true = _
    simp only [gapF, hc]
    exact gap_in p x (fun c hc => h c (by simp [hc]))
theorem gap_com (p x : List UInt8) (h : ∀ b ∈ p, (b != 10) = true) : gapF (47 :: 47 :: p ++ x) false = gapF x true := by
  have h1 : gapC 47 (some 47) false = true := rfl
  have h2 : ∀ o, gapC 47 o true = true := fun o => rfl
  show gapF (47 :: 47 :: (p ++ x)) false = _
  simp only [gapF, List.head?_cons, h1, h2]
  exact gap_in p x h
theorem gap_line (x : List UInt8) (c : Bool) : gapF (10 :: x) c = gapF x false := by
  have h1 : gapC 10 x.head? c = false := rfl
  have h2 : isSpc 10 = true := rfl
  simp [gapF, h1, h2]

/-- what stands next: the next token's text at its place, behind a gap -/
def Next (l : List UInt8) (at_ : Nat) : List Tok → Prop
  | [] => ∃ c, gapF l false = some c
  | t :: r => ∃ g : Nat, t.pos = ((at_ + g : Nat) : Int) ∧ g + (txt t).length ≤ l.length ∧ gapF (l.take g) false = some false ∧ 0 < (txt t).length ∧ (l.drop g).take (txt t).length = txt t ∧
      lexA (l.drop (g + (txt t).length)) (at_ + g + (txt t).length) = (r, none)

theorem next_shift {p x : List UInt8} {at_ : Nat} {ts : List Tok} (hp : ∀ y, gapF (p ++ y) false = gapF y false) (h : Next x (at_ + p.length) ts) : Next (p ++ x) at_ ts := by
  cases ts with
  | nil =>
    obtain ⟨c, hc⟩ := h
    exact ⟨c, by rw [hp, hc]⟩
  | cons t r =>
    obtain ⟨g, h1, h2, h3, h4, h5, h6⟩ := h
    refine ⟨p.length + g, by rw [h1]; omega, by rw [List.length_append]; omega, ?_, h4, ?_, ?_⟩
    · rw [List.take_length_add_append, hp, h3]
    · rw [List.drop_length_add_append, h5]
    · rw [show p.length + g + (txt t).length = p.length + (g + (txt t).length) by omega, List.drop_length_add_append, show at_ + (p.length + g) + (txt t).length = at_ + p.length + g + (txt t).length by omega, h6]
theorem next_law : ∀ (n : Nat) (l : List UInt8) (at_ : Nat) (ts : List Tok), l.length ≤ n → lexA l at_ = (ts, none) → Next l at_ ts := by
  intro n
  induction n with
  | zero =>
    intro l at_ ts hl h
    obtain rfl : l = [] := List.length_eq_zero_iff.1 (by omega)
    rw [lexA_nil] at h
    cases h
    exact ⟨false, rfl⟩
  | succ n ih =>
    intro l at_ ts hl h
    cases hst : stepL l with
    | none =>
      by_cases hn : l = []
      · subst hn
        rw [lexA_nil] at h
        cases h
        exact ⟨false, rfl⟩
      · rw [lexA_bad hn hst] at h
        cases h
    | some q =>
      obtain ⟨k, o⟩ := q
      have hp := step_pos hst
      cases o with
      | some t =>
        rw [lexA_step hst] at h
        simp only [addTok] at h
        have e1 := step_txt_eq hst
        have e2 := step_len hst
        have e3 : txt { t with pos := (at_ : Int) } = txt t := rfl
        obtain ⟨h1, h2⟩ := Prod.mk.inj h
        subst h1
        refine ⟨0, by simp, by rw [e3, e2]; omega, rfl, by rw [e3, e2]; omega, by rw [e3, e2]; exact e1, ?_⟩
        rw [e3, e2, Nat.zero_add]
        show lexA (l.drop k) (at_ + 0 + k) = _
        rw [Nat.add_zero, ← h2]
      | none =>
        rw [lexA_step hst] at h
        simp only [addTok] at h
        match l, hst with
        | c :: r, hst =>
          by_cases hs : isSpc c = true
          · rw [step_spc hs] at hst
            cases hst
            have := ih r (at_ + 1) ts (by simp at hl; omega) h
            exact next_shift (p := [c]) (fun y => gap_spc hs y) this
          · have hs' : isSpc c = false := by simpa using hs
            by_cases hc : (c == 47 && r.head? == some 47) = true
            · have hst2 := hst
              simp only [stepL, hs', hc] at hst2
              simp at hst2
              subst hst2
              simp only [Bool.and_eq_true, beq_iff_eq] at hc
              obtain ⟨rfl, hr⟩ := hc
              match r, hr with
              | d :: r, hr =>
                obtain rfl : d = 47 := by simpa using hr
                have hsplit : (47 : UInt8) :: 47 :: r = 47 :: 47 :: r.takeWhile (fun c => c != 10) ++ r.dropWhile (fun c => c != 10) := by
                  rw [List.cons_append, List.cons_append, List.takeWhile_append_dropWhile]
                have hcl : comLen ((47 : UInt8) :: 47 :: r) = (r.takeWhile (fun c => c != 10)).length + 2 := by
                  unfold comLen
                  simp [List.takeWhile_cons]
                have hall : ∀ b ∈ r.takeWhile (fun c => c != 10), (b != 10) = true := fun b hb => mem_tw' (p := fun c => c != 10) hb
                have hdrop : ((47 : UInt8) :: 47 :: r).drop (comLen ((47 : UInt8) :: 47 :: r)) = r.dropWhile (fun c => c != 10) := by
                  rw [hcl]
                  conv => lhs; rw [hsplit]
                  rw [show (r.takeWhile (fun c => c != 10)).length + 2 = ((47 : UInt8) :: 47 :: r.takeWhile (fun c => c != 10)).length by simp, List.drop_left]
                rw [hdrop] at h
                cases hd : r.dropWhile (fun c => c != 10) with
                | nil =>
                  rw [hd, lexA_nil] at h
                  cases h
                  refine ⟨true, ?_⟩
                  rw [hsplit, hd, gap_com _ _ hall]
                  rfl
                | cons b x =>
                  have hb : b = 10 := by
                    have := List.head?_dropWhile_not (fun c : UInt8 => c != 10) r
                    rw [hd] at this
                    simpa using this
                  subst hb
                  rw [hd, lexA_spc rfl] at h
                  have hlen : x.length < r.length := by
                    have := congrArg List.length (List.takeWhile_append_dropWhile (p := fun c => c != 10) (l := r))
                    rw [hd] at this
                    simp at this
                    omega
                  have := ih x _ ts (by simp at hl; omega) h
                  rw [hsplit, hd]
                  have key := next_shift (p := 47 :: 47 :: r.takeWhile (fun c => c != 10) ++ [10]) (x := x) (at_ := at_) (ts := ts) (fun y => by
                    rw [List.append_assoc, gap_com _ _ hall]
                    exact gap_line y true) (by
                    have e : at_ + (47 :: 47 :: r.takeWhile (fun c => c != 10) ++ [(10 : UInt8)]).length = at_ + comLen ((47 : UInt8) :: 47 :: r) + 1 := by rw [hcl]; simp; omega
                    rw [e]
                    exact this)
                  rw [List.append_assoc] at key
                  exact key
            · have hc' : (c == 47 && r.head? == some 47) = false := by simpa using hc
              simp only [stepL, hs', hc'] at hst
              exfalso
              simp at hst
              repeat' split at hst
              all_goals cases hst
end Go.Proofs.YtagjiljhbdjlfaaDoor
