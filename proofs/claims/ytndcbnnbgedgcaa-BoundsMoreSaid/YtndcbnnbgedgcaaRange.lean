/-
  Loops over functions: what an iterator promises, and the rule for the loop.
-/
import Derived.Test.YtndcbnnbgedgcaaLib
import Derived.Test.YtndcbnnbgedgcaaMaps
import Derived.RangeFuncNested
import Derived.RangeFuncBound
import Derived.RangeFuncCalls
import Derived.RangeFuncLeaves
import Derived.Shelf.Abstract
import Derived.OwnWalkIn
import Derived.TacticsInMore
import Derived.LoopNIn
import Derived.LoopIn
import Derived.BigFrameIn
import Derived.Maps.OwnIn
set_option linter.unusedVariables false
set_option linter.unusedSimpArgs false
namespace Go.Proofs.Ytndcbnnbgedgcaa
open Go.RowKit

/-- between w and w' only blocks in X, and new ones, have turned -/
structure Turned (X : Nat → Prop) (w w' : World) : Prop where
  os : w'.os = w.os
  tape : w'.tape = w.tape
  output : w'.output = w.output
  size : w.heap.size ≤ w'.heap.size
  block : ∀ k, k < w.heap.size → ¬ X k → w'.heap[k]? = w.heap[k]?

theorem Turned.refl (X : Nat → Prop) (w : World) : Turned X w w := ⟨rfl, rfl, rfl, Nat.le_refl _, fun _ _ _ => rfl⟩
theorem Turned.trans {X : Nat → Prop} {a b c : World} (h : Turned X a b) (k : Turned X b c) : Turned X a c :=
  ⟨k.os.trans h.os, k.tape.trans h.tape, k.output.trans h.output, Nat.le_trans h.size k.size, fun i hi hx => (k.block i (Nat.lt_of_lt_of_le hi h.size) hx).trans (h.block i hi hx)⟩
theorem Turned.mono {X Y : Nat → Prop} {a b : World} (h : Turned X a b) (hx : ∀ k, k < a.heap.size → X k → Y k) : Turned Y a b :=
  ⟨h.os, h.tape, h.output, h.size, fun i hi hy => h.block i hi (fun hx' => hy (hx i hi hx'))⟩
theorem Turned.of_below {X : Nat → Prop} {a b : World} (h : Below a.heap.size a b) : Turned X a b := ⟨h.os, h.tape, h.output, h.size, fun k hk _ => h.block k hk⟩
theorem Turned.of_grown {X : Nat → Prop} {a b : World} {row : Option Nat} (h : a.grownBy b row) (hx : ∀ k, row = some k → X k) : Turned X a b :=
  ⟨h.os, h.tape, h.output, h.size, fun k hk hn => h.block k hk (fun e => hn (hx k e.symm))⟩
theorem Turned.below {X : Nat → Prop} {a b : World} {B : Nat} (h : Turned X a b) (hB : B ≤ a.heap.size) (hx : ∀ k, k < B → ¬ X k) : Below B a b :=
  ⟨h.os, h.tape, h.output, h.size, fun k hk => h.block k (by omega) (hx k hk)⟩
theorem Turned.putObj {X : Nat → Prop} (w : World) (r : Nat) (o : Obj) (hx : X r) : Turned X w (w.putObj r o) :=
  .of_grown (grownBy_putObj' w r o) (fun k e => by cases e; exact hx)
theorem Turned.cell {X : Nat → Prop} {a b : World} (h : Turned X a b) {p : Addr} (hp : p.block < a.heap.size) (hx : ¬ X p.block) : b.cell? p = a.cell? p := World.cell?_of_block (h.block _ hp hx)
theorem Box.turned {X : Nat → Prop} {a b : World} {k : Nat} {c : Array Value} (h : Box a k c) (ht : Turned X a b) (hx : ¬ X k) : Box b k c :=
  ⟨Nat.lt_of_lt_of_le h.1 ht.size, fun i => (ht.cell (p := ⟨k, i, none⟩) h.1 hx).trans (h.2 i)⟩
theorem Cell1.turned {X : Nat → Prop} {a b : World} {k : Nat} {v : Value} (h : Cell1 a k v) (ht : Turned X a b) (hx : ¬ X k) : Cell1 b k v := by
  have hl := h.lt
  obtain ⟨t, h⟩ := h
  exact ⟨t, (ht.block k hl hx).trans h⟩
theorem SetMap.turned {X : Nat → Prop} {a b : World} {k : Nat} {S : List Int} (h : SetMap a k S) (ht : Turned X a b) (hx : ¬ X k) : SetMap b k S := by
  obtain ⟨l, ⟨es, c, h1, h2⟩, h3⟩ := h
  exact ⟨l, ⟨es, c, (ht.block k (Array.getElem?_eq_some_iff.1 h1).1 hx).trans h1, h2⟩, h3⟩



/-- what an iterator value promises: its n elements are handed to yield in order; D: the blocks that it leans on -/
def IterC (P : Program) (gf : FuncId) (lb : Array Value) (n : Nat) (enc : Nat → World → Array Value → Prop) (D : Nat → Prop) (w : World) : Prop :=
  ∀ (l : Nat) (ob : Nat → Prop) (W : World) (J Jx : Nat → Nat → World → Prop),
    Turned (fun k => ¬ D k) w W → (∀ k, ob k → k < W.heap.size ∧ ¬ D k) →
    (∀ s i A B, W.heap.size ≤ s → J s i A → Turned (fun k => W.heap.size ≤ k ∧ k < s) A B → J s i B) →
    (∀ s i A B, W.heap.size ≤ s → Jx s i A → Turned (fun k => W.heap.size ≤ k ∧ k < s) A B → Jx s i B) →
    (∀ s W1, W.heap.size ≤ s → s ≤ W1.heap.size → Below W.heap.size W W1 → J s 0 W1) →
    (∀ s i W1 args, W.heap.size ≤ s → s ≤ W1.heap.size → i < n → J s i W1 → enc i W1 args → YieldAt Fence.wide 9 P l args W1 fun e W' =>
      (e = .returned (.bool true) ∧ J s (i + 1) W' ∧ Turned (fun k => ob k ∨ s ≤ k) W1 W') ∨ (e = .returned (.bool false) ∧ Jx s i W' ∧ Turned (fun k => ob k ∨ s ≤ k) W1 W')) →
    CallsIn Fence.wide 10 P gf (#[.func (.yield l) #[] #[]] ++ lb) W fun e W' => (∃ v, e = .returned v) ∧ ∃ s, W.heap.size ≤ s ∧ s ≤ W'.heap.size ∧ (J s n W' ∨ ∃ i, i < n ∧ Jx s i W')

/-- how a round may end -/
def rndPost (ob : Nat → Prop) (I : Nat → Nat → World → Prop) (Ix : Code → Nat → Nat → World → Prop) (s i : Nat) (W : World) : Exit → Act → World → Prop
  | .normal, _, W' => Turned (fun k => ob k ∨ s ≤ k) W W' ∧ I s (i + 1) W'
  | .ret, _, W' => Turned (fun k => ob k ∨ s ≤ k) W W' ∧ Ix .ret s i W'
  | .exit id, _, W' => Turned (fun k => ob k ∨ s ≤ k) W W' ∧ Ix (.exit id) s i W'
  | .goto t, _, W' => Turned (fun k => ob k ∨ s ≤ k) W W' ∧ Ix (.goto t) s i W'
  | .panic _, _, _ => False
  | .outgrown, _, _ => False

/-- the rule for a loop over a function -/
theorem range_law {P : Program} {g : Operand} {ps : Array Tmp} {assign body : Code} {Q : Exit → Act → World → Prop} {a : Act} {w : World}
    {gf : FuncId} {lb : Array Value} (hg : a.eval g = .func (.func gf) #[] lb) (eg : Enters P gf) {n : Nat} {enc : Nat → World → Array Value → Prop} {D : Nat → Prop} {w0 : World} (hseq : IterC P gf lb n enc D w0)
    (hw0 : Turned (fun k => ¬ D k) w0 w) (hD : ∀ k, D k → k < w0.heap.size) (ob : Nat → Prop) (hob : ∀ k, ob k → k < w.heap.size ∧ ¬ D k)
    (hps : ∀ i W args, enc i W args → args.size = ps.size) (henc : ∀ i A B args, enc i A args → Turned (fun k => w.heap.size ≤ k ∧ k < w.heap.size + 2) A B → enc i B args)
    (I : Nat → Nat → World → Prop) (Ix : Code → Nat → Nat → World → Prop)
    (hI : ∀ s i A B, w.heap.size ≤ s → I s i A → Turned (fun k => w.heap.size ≤ k ∧ k < s) A B → I s i B)
    (hIx : ∀ c s i A B, w.heap.size ≤ s → Ix c s i A → Turned (fun k => w.heap.size ≤ k ∧ k < s) A B → Ix c s i B)
    (h0 : ∀ s W1, w.heap.size ≤ s → s ≤ W1.heap.size → Below w.heap.size w W1 → I s 0 W1)
    (hround : ∀ (l s i : Nat) (W : World) (args : Array Value), w.heap.size + 2 ≤ s → s ≤ W.heap.size → i < n → I s i W → enc i W args →
      assign.wpIn (Fence.wide.inRound l) 9 P (Exit.then (fun a₁ W₁ => Below W.heap.size W W₁ ∧ ∀ W₂, Turned (fun k => w.heap.size ≤ k ∧ k < w.heap.size + 2) W₁ W₂ → body.wpIn (Fence.wide.inRound l) 9 P (rndPost ob I Ix s i W₂) a₁ W₂) (fun _ _ _ => False)) { tmps := (ps.zip args).foldl (fun t (p, v) => t.setIfInBounds p v) a.tmps, defers := [] } W)
    (hdone : ∀ (d s : Nat) (W : World), w.heap.size ≤ d → d < s → s ≤ W.heap.size → I s n W → W.heap[d]? = some (.deferred (some [])) → Q .normal { a with defers := { target := .collected d, args := #[] } :: a.defers } W)
    (hstop : ∀ (d s i : Nat) (c : Code) (W : World), w.heap.size ≤ d → d < s → s ≤ W.heap.size → i < n → Ix c s i W → W.heap[d]? = some (.deferred (some [])) → c.wpIn Fence.wide 11 P Q { a with defers := { target := .collected d, args := #[] } :: a.defers } W) :
    (Code.rangeFunc g ps assign body).wpIn Fence.wide 11 P Q a w := by
  refine wpIn_rangeFunc ?_
  intro fn hfn
  obtain ⟨rec, hrec⟩ : ∃ rec : LoopState → Option Code → Loop, rec = fun st pe => { state := st, pending := pe, fn, tmps := a.tmps, params := ps, assign, body, defers := w.heap.size } := ⟨_, rfl⟩
  obtain ⟨W1, hW1⟩ : ∃ W1, (w.alloc (.deferred (some []))).alloc (.loop (rec .ready none)) = W1 := ⟨_, rfl⟩
  have hL1 : W1.heap[w.heap.size + 1]? = some (.loop (rec .ready none)) := by
    rw [← hW1]; have := World.alloc_heap_new (w.alloc (.deferred (some []))) (.loop (rec .ready none)); rwa [World.size_alloc] at this
  have hK1 : W1.heap[w.heap.size]? = some (.deferred (some [])) := by
    rw [← hW1]; exact (Below.heap_alloc _ _ _ (by simp)).trans (World.alloc_heap_new w _)
  have hb1 : Below w.heap.size w W1 := by
    rw [← hW1]; exact ((Below.refl _ w).alloc (Nat.le_refl _) _).alloc (by simp) _
  have hs1 : W1.heap.size = w.heap.size + 2 := by rw [← hW1]; simp
  refine ⟨w.heap.size + 1, [{ target := .collected w.heap.size, args := #[] }], W1, { target := .fn (.func gf) lb, args := #[.func (.yield (w.heap.size + 1)) #[] #[]] }, W1, gf,
    #[.func (.yield (w.heap.size + 1)) #[] #[]] ++ lb, W1, ?_, ?_, ?_, ?_, fun _ => by omega, ?_⟩
  · rw [← hW1, hrec]; exact run_enterLoop_outer _ _ _ _ _
  · simp only [resolve, hg]
    simp [go_sem]
  · intro f' _; trivial
  · simp [invoke, go_sem]; exact eg _ _
  · -- the loop's two blocks beside what the caller's invariant says
    have stay : ∀ {s : Nat} {A B : World}, W1.heap.size ≤ s → Turned (fun k => W1.heap.size ≤ k ∧ k < s) A B → ∀ {k : Nat} {o : Obj}, k < w.heap.size + 2 → A.heap[k]? = some o → B.heap[k]? = some o := by
      intro s A B hs ht k o hk ho
      exact (ht.block k (Array.getElem?_eq_some_iff.1 ho).1 (by omega)).trans ho
    refine (hseq (w.heap.size + 1) (fun k => ob k ∨ k = w.heap.size ∨ k = w.heap.size + 1) W1
      (fun s i W => s ≤ W.heap.size ∧ I s i W ∧ W.heap[w.heap.size + 1]? = some (.loop (rec .ready none)) ∧ W.heap[w.heap.size]? = some (.deferred (some [])))
      (fun s i W => s ≤ W.heap.size ∧ ∃ c, Ix c s i W ∧ W.heap[w.heap.size + 1]? = some (.loop (rec .done (some c))) ∧ W.heap[w.heap.size]? = some (.deferred (some [])))
      (hw0.trans (Turned.of_below hb1))
      (fun k hk => by
        rcases hk with hk | rfl | rfl
        · exact ⟨by have := (hob k hk).1; omega, (hob k hk).2⟩
        · exact ⟨by omega, fun hd => by have := hD _ hd; have := hw0.size; omega⟩
        · exact ⟨by omega, fun hd => by have := hD _ hd; have := hw0.size; omega⟩)
      (fun s i A B hs hj ht => ⟨Nat.le_trans hj.1 ht.size, hI s i A B (by omega) hj.2.1 (ht.mono fun k _ hk => ⟨by omega, hk.2⟩), stay hs ht (by omega) hj.2.2.1, stay hs ht (by omega) hj.2.2.2⟩)
      (fun s i A B hs hj ht => by
        obtain ⟨h, c, hc, hl, hk⟩ := hj
        exact ⟨Nat.le_trans h ht.size, c, hIx c s i A B (by omega) hc (ht.mono fun k _ hk => ⟨by omega, hk.2⟩), stay hs ht (by omega) hl, stay hs ht (by omega) hk⟩)
      (fun s W2 hs hs2 hb2 => ⟨hs2, h0 s W2 (by omega) hs2 (hb1.trans (hb2.mono hb1.size)), (hb2.block _ (by omega)).trans hL1, (hb2.block _ (by omega)).trans hK1⟩)
      ?_).mono ?_
    · -- one round
      rintro s i W args hs hsW hi ⟨_, hiI, hl, hk⟩ hen
      have hlt : w.heap.size + 1 < W.heap.size := (Array.getElem?_eq_some_iff.1 hl).1
      have hy := run_yield (P := P) (args := args) hl (by rw [hrec]; exact hps i W args hen)
      rw [hrec] at hy
      have hrd := hround (w.heap.size + 1) s i W args (by omega) hsW hi hiI hen
      refine ⟨fn, _, assign, body, hy, roundIn_of_wpIn hfn (wpIn_mono hrd ?_)⟩
      rintro e a2 W2 hq
      cases e with
      | normal =>
        obtain ⟨hb2, hbody⟩ := hq
        have hl2 := (hb2.block _ hlt).trans hl
        have hk2 := (hb2.block _ (by omega)).trans hk
        have hlt2 : w.heap.size + 1 < W2.heap.size := (Array.getElem?_eq_some_iff.1 hl2).1
        have hbz : Turned (fun k => w.heap.size ≤ k ∧ k < w.heap.size + 2) W2 (W2.putObj (w.heap.size + 1) (.loop { rec .ready none with state := .busy })) := Turned.putObj _ _ _ ⟨by omega, by omega⟩
        have hl3 : (W2.putObj (w.heap.size + 1) (.loop { rec .ready none with state := .busy })).heap[w.heap.size + 1]? = some (.loop { rec .ready none with state := .busy }) := World.putObj_heap_same hlt2
        have hk3 : (W2.putObj (w.heap.size + 1) (.loop { rec .ready none with state := .busy })).heap[w.heap.size]? = some (.deferred (some [])) := (World.putObj_heap_other (by omega)).trans hk2
        refine ⟨_, run_beginRound hl2 (by rw [hrec]), wpIn_mono (hbody _ hbz) ?_⟩
        have fin : ∀ (jump : Option Code) (W3 : World), Turned (fun k => ob k ∨ s ≤ k) (W2.putObj (w.heap.size + 1) (.loop { rec .ready none with state := .busy })) W3 →
            (Instr.endRound (w.heap.size + 1) jump).run P W3 = .ok (.bool jump.isNone) (W3.putObj (w.heap.size + 1) (.loop (rec (if jump.isNone then .ready else .done) jump))) ∧
            (W3.putObj (w.heap.size + 1) (.loop (rec (if jump.isNone then .ready else .done) jump))).heap[w.heap.size + 1]? = some (.loop (rec (if jump.isNone then .ready else .done) jump)) ∧
            (W3.putObj (w.heap.size + 1) (.loop (rec (if jump.isNone then .ready else .done) jump))).heap[w.heap.size]? = some (.deferred (some [])) ∧
            Turned (fun k => (ob k ∨ k = w.heap.size ∨ k = w.heap.size + 1) ∨ s ≤ k) W (W3.putObj (w.heap.size + 1) (.loop (rec (if jump.isNone then .ready else .done) jump))) ∧
            Turned (fun k => w.heap.size ≤ k ∧ k < s) W3 (W3.putObj (w.heap.size + 1) (.loop (rec (if jump.isNone then .ready else .done) jump))) ∧ s ≤ W3.heap.size := fun jump W3 ht => by
          have nob : ∀ {k : Nat}, w.heap.size ≤ k → ¬ ob k := fun hk hx => by have := (hob _ hx).1; omega
          have q1 := (ht.block _ (by simpa using hlt2) (by rintro (h | h); exact nob (by omega) h; omega)).trans hl3
          have q2 := (ht.block _ (by simp; omega) (by rintro (h | h); exact nob (by omega) h; omega)).trans hk3
          have := run_endRound (P := P) jump q1
          have hz3 := ht.size
          simp at hz3
          have hz2 := hb2.size
          rw [hrec] at this ⊢
          refine ⟨this, World.putObj_heap_same (Array.getElem?_eq_some_iff.1 q1).1, (World.putObj_heap_other (by omega)).trans q2, ?_, Turned.putObj _ _ _ ⟨by omega, by omega⟩, by omega⟩
          have t1 : Turned (fun k => (ob k ∨ k = w.heap.size ∨ k = w.heap.size + 1) ∨ s ≤ k) W W2 := Turned.of_below hb2
          have t2 : Turned (fun k => (ob k ∨ k = w.heap.size ∨ k = w.heap.size + 1) ∨ s ≤ k) W2 (W2.putObj (w.heap.size + 1) (.loop { rec .ready none with state := .busy })) := hbz.mono fun k _ hk => by omega
          have t3 : Turned (fun k => (ob k ∨ k = w.heap.size ∨ k = w.heap.size + 1) ∨ s ≤ k) (W2.putObj (w.heap.size + 1) (.loop { rec .ready none with state := .busy })) W3 := ht.mono fun k _ hk => by
            rcases hk with hk | hk
            · exact Or.inl (Or.inl hk)
            · exact Or.inr hk
          rw [hrec] at t2 t3
          exact t1.trans (t2.trans (t3.trans (Turned.putObj _ _ _ (by omega))))
        rintro e a3 W3 hp
        cases e with
        | normal =>
          obtain ⟨ht3, hi3⟩ := hp
          obtain ⟨hr, hl4, hk4, ht4, ht5, hs3⟩ := fin none W3 ht3
          exact ⟨_, _, hr, .inl ⟨rfl, ⟨by simpa using hs3, hI s (i + 1) _ _ (by omega) hi3 ht5, hl4, hk4⟩, ht4⟩⟩
        | ret =>
          obtain ⟨ht3, hi3⟩ := hp
          obtain ⟨hr, hl4, hk4, ht4, ht5, hs3⟩ := fin (some .ret) W3 ht3
          exact ⟨_, _, hr, .inr ⟨rfl, ⟨by simpa using hs3, .ret, hIx _ s i _ _ (by omega) hi3 ht5, hl4, hk4⟩, ht4⟩⟩
        | exit id =>
          obtain ⟨ht3, hi3⟩ := hp
          obtain ⟨hr, hl4, hk4, ht4, ht5, hs3⟩ := fin (some (.exit id)) W3 ht3
          exact ⟨_, _, hr, .inr ⟨rfl, ⟨by simpa using hs3, .exit id, hIx _ s i _ _ (by omega) hi3 ht5, hl4, hk4⟩, ht4⟩⟩
        | goto t =>
          obtain ⟨ht3, hi3⟩ := hp
          obtain ⟨hr, hl4, hk4, ht4, ht5, hs3⟩ := fin (some (.goto t)) W3 ht3
          exact ⟨_, _, hr, .inr ⟨rfl, ⟨by simpa using hs3, .goto t, hIx _ s i _ _ (by omega) hi3 ht5, hl4, hk4⟩, ht4⟩⟩
        | panic ch => exact hp.elim
        | outgrown => exact hp.elim
      | ret => exact hq
      | exit id => exact hq
      | goto t => exact hq
      | panic ch => exact hq
      | outgrown => exact hq
    · -- behind the iterator
      rintro e W2 ⟨⟨v, rfl⟩, s, hs, hsW, (⟨_, hi, hl, hk⟩ | ⟨i, hin, _, c, hi, hl, hk⟩)⟩
      · have ht : Turned (fun k => w.heap.size ≤ k ∧ k < s) W2 (W2.putObj (w.heap.size + 1) (.loop { rec .ready none with state := .exhausted })) := Turned.putObj _ _ _ ⟨by omega, by omega⟩
        exact ⟨none, _, by have := run_endLoop (P := P) hl (by rw [hrec]; simp); rw [hrec] at this; exact this, hdone _ s _ (Nat.le_refl _) (by omega) (by simpa using hsW) (hI s n _ _ (by omega) hi (by rw [hrec] at ht; exact ht)) ((World.putObj_heap_other (by omega)).trans hk)⟩
      · have ht : Turned (fun k => w.heap.size ≤ k ∧ k < s) W2 (W2.putObj (w.heap.size + 1) (.loop { rec .done (some c) with state := .exhausted })) := Turned.putObj _ _ _ ⟨by omega, by omega⟩
        exact ⟨some c, _, by have := run_endLoop (P := P) hl (by rw [hrec]; simp); rw [hrec] at this; exact this, hstop _ s i c _ (Nat.le_refl _) (by omega) (by simpa using hsW) hin (hIx c s i _ _ (by omega) hi (by rw [hrec] at ht; exact ht)) ((World.putObj_heap_other (by omega)).trans hk)⟩

end Go.Proofs.Ytndcbnnbgedgcaa
