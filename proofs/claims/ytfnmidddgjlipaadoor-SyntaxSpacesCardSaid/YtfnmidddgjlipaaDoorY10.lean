/-
  Layer 17: an order in five parts (plain); wishes of the call's own in memory.
-/
import Derived.Test.YtfnmidddgjlipaaDoorY9
import Derived.Test.YtfnmidddgjlipaaDoorRecS
set_option linter.unusedVariables false
set_option linter.unusedSimpArgs false
namespace Go.Proofs.YtfnmidddgjlipaaDoor
open Go.RowKit

/-- the part k of an order: what is read so far, the offices against -/
def partP (k : Nat) (x : WishD) (ag : List Str) (l : List Tok) : PR (WishD × List Str) := match k with
  | 0 => match pWho x l with
    | .error e => .error e
    | .ok (y, r) => .ok ((y, ag), r)
  | 1 => match pWhen x l with
    | .error e => .error e
    | .ok (y, r) => .ok ((y, ag), r)
  | 2 => match pAgainst l with
    | .error e => .error e
    | .ok (a, r) => .ok ((x, a), r)
  | 3 => match pPay x l with
    | .error e => .error e
    | .ok (y, r) => .ok ((y, ag), r)
  | _ => match pOther x l with
    | .error e => .error e
    | .ok (y, r) => .ok ((y, ag), r)
def partsF : Nat → Nat → WishD → List Str → List Tok → PR WishD
  | 0, _, x, ag, l => match pTake sSemi l with
    | none => .error l
    | some r => .ok ({ x with against := ag }, r)
  | f + 1, k, x, ag, l => match partP k x ag l with
    | .error e => .error e
    | .ok ((x', ag'), r) => partsF f (k + 1) x' ag' r
theorem parts_succ (f k : Nat) (x : WishD) (ag : List Str) (l : List Tok) : partsF (f + 1) k x ag l = match partP k x ag l with
    | .error e => .error e
    | .ok ((x', ag'), r) => partsF f (k + 1) x' ag' r := rfl
theorem parts_zero (k : Nat) (x : WishD) (ag : List Str) (l : List Tok) : partsF 0 k x ag l = match pTake sSemi l with
    | none => .error l
    | some r => .ok ({ x with against := ag }, r) := rfl
theorem bind_err {α β : Type} {p : List Tok → PR α} {q : α → List Tok → PR β} {l e : List Tok} (h : p l = .error e) : pBind p q l = .error e := by unfold pBind; rw [h]
theorem bind_ok {α β : Type} {p : List Tok → PR α} {q : α → List Tok → PR β} {l r : List Tok} {x : α} (h : p l = .ok (x, r)) : pBind p q l = q x r := by unfold pBind; rw [h]
theorem who_eq (x : WishD) (l : List Tok) : pWho x l = (pBind (pWN wLetter) fun a => pBind (pWN wFrom) fun b => pBind (pWN wTo) fun c => pBind (pWN wClass) fun d => pPure (⟨a, b, c, d, x.after, x.by_, x.crowd, x.pay, x.against, x.back, x.els⟩ : WishD)) l := by
  unfold pWho
  rw [whoF_succ, show whoW 0 = wLetter from rfl]
  cases h0 : pWN wLetter l with
  | error e => rw [bind_err h0]
  | ok v =>
    obtain ⟨a, r0⟩ := v
    rw [bind_ok h0]
    simp only
    rw [whoF_succ, show whoW (0 + 1) = wFrom from rfl]
    cases h1 : pWN wFrom r0 with
    | error e => rw [bind_err h1]
    | ok v =>
      obtain ⟨b, r1⟩ := v
      rw [bind_ok h1]
      simp only
      rw [whoF_succ, show whoW (0 + 1 + 1) = wTo from rfl]
      cases h2 : pWN wTo r1 with
      | error e => rw [bind_err h2]
      | ok v =>
        obtain ⟨c, r2⟩ := v
        rw [bind_ok h2]
        simp only
        rw [whoF_succ, show whoW (0 + 1 + 1 + 1) = wClass from rfl]
        cases h3 : pWN wClass r2 with
        | error e => rw [bind_err h3]
        | ok v =>
          obtain ⟨d, r3⟩ := v
          rw [bind_ok h3]
          rfl
theorem when_eq (x : WishD) (l : List Tok) : pWhen x l = (pBind (pWM wAfter clockM) fun i => pBind (pWM wBy clockM) fun j => pBind (pWM wCrowd crowdM) fun k => pPure { x with after := i, by_ := j, crowd := k }) l := by
  unfold pWhen
  rw [whenF_succ, show whenW 0 = wAfter from rfl, show whenM 0 = clockM from rfl]
  cases h0 : pWM wAfter clockM l with
  | error e => rw [bind_err h0]
  | ok v =>
    obtain ⟨a, r0⟩ := v
    rw [bind_ok h0]
    simp only
    rw [whenF_succ, show whenW (0 + 1) = wBy from rfl, show whenM (0 + 1) = clockM from rfl]
    cases h1 : pWM wBy clockM r0 with
    | error e => rw [bind_err h1]
    | ok v =>
      obtain ⟨b, r1⟩ := v
      rw [bind_ok h1]
      simp only
      rw [whenF_succ, show whenW (0 + 1 + 1) = wCrowd from rfl, show whenM (0 + 1 + 1) = crowdM from rfl]
      cases h2 : pWM wCrowd crowdM r1 with
      | error e => rw [bind_err h2]
      | ok v =>
        obtain ⟨c, r2⟩ := v
        rw [bind_ok h2]
        rfl
theorem pif_none {α : Type} {s : Str} {p q : List Tok → PR α} {l : List Tok} (h : pTake s l = none) : pIf s p q l = q l := by unfold pIf; rw [h]
theorem pif_some {α : Type} {s : Str} {p q : List Tok → PR α} {l r : List Tok} (h : pTake s l = some r) : pIf s p q l = p r := by unfold pIf; rw [h]
theorem want_none {s : Str} {l : List Tok} (h : pTake s l = none) : pWant s l = .error l := by unfold pWant; rw [h]
theorem want_some {s : Str} {l r : List Tok} (h : pTake s l = some r) : pWant s l = .ok ((), r) := by unfold pWant; rw [h]
theorem pay_eq (x : WishD) (l : List Tok) : pPay x l = (pBind (pWM wPay payM) fun n => pBind pBack fun b => pPure { x with pay := n, back := b }) l := by
  unfold pPay
  cases h0 : pWM wPay payM l with
  | error e => rw [bind_err h0]
  | ok v =>
    obtain ⟨a, r0⟩ := v
    rw [bind_ok h0]
    simp only
    cases h1 : pTake wBack r0 with
    | none =>
      rw [bind_ok (show pBack r0 = .ok (false, r0) from by unfold pBack; rw [pif_none h1]; rfl)]
      rfl
    | some r =>
      rw [bind_ok (show pBack r0 = .ok (true, r) from by unfold pBack; rw [pif_some h1]; rfl)]
      rfl
theorem other_eq (x : WishD) (h : x.els = 0) (l : List Tok) : pOther x l = (pBind pElse fun n => pPure { x with els := n }) l := by
  unfold pOther
  cases h1 : pTake wElse l with
  | none =>
    rw [bind_ok (show pElse l = .ok (0, l) from by unfold pElse; rw [pif_none h1]; rfl)]
    cases x; cases h; rfl
  | some r =>
    simp only
    cases h2 : pTake wHold r with
    | some r' =>
      rw [bind_ok (show pElse l = .ok (1, r') from by unfold pElse; rw [pif_some h1, pif_some h2]; rfl)]
      rfl
    | none =>
      simp only
      cases h3 : pTake wForward r with
      | none =>
        rw [bind_err (show pElse l = .error r from by unfold pElse; rw [pif_some h1, pif_none h2, bind_err (want_none h3)])]
      | some r' =>
        rw [bind_ok (show pElse l = .ok (2, r') from by unfold pElse; rw [pif_some h1, pif_none h2, bind_ok (want_some h3)]; rfl)]
        rfl
/-- five parts and the last sign: an order -/
theorem order_parts (l : List Tok) : pOrder l = partsF 5 0 default [] l := by
  unfold pOrder
  rw [parts_succ]
  unfold partP
  simp only
  rw [who_eq]
  cases e0 : pWN wLetter l with
  | error s => rw [bind_err e0, bind_err (by unfold pBody; rw [bind_err e0])]
  | ok v =>
  obtain ⟨a, r0⟩ := v
  rw [bind_ok e0]
  cases e1 : pWN wFrom r0 with
  | error s => rw [bind_err e1, bind_err (by unfold pBody; rw [bind_ok e0, bind_err e1])]
  | ok v =>
  obtain ⟨b, r1⟩ := v
  rw [bind_ok e1]
  cases e2 : pWN wTo r1 with
  | error s => rw [bind_err e2, bind_err (by unfold pBody; rw [bind_ok e0, bind_ok e1, bind_err e2])]
  | ok v =>
  obtain ⟨c, r2⟩ := v
  rw [bind_ok e2]
  cases e3 : pWN wClass r2 with
  | error s => rw [bind_err e3, bind_err (by unfold pBody; rw [bind_ok e0, bind_ok e1, bind_ok e2, bind_err e3])]
  | ok v =>
  obtain ⟨d, r3⟩ := v
  rw [bind_ok e3]
  unfold pPure
  simp only
  rw [parts_succ]
  unfold partP
  simp only
  rw [when_eq]
  cases e4 : pWM wAfter clockM r3 with
  | error s => rw [bind_err e4, bind_err (by unfold pBody; rw [bind_ok e0, bind_ok e1, bind_ok e2, bind_ok e3, bind_err e4])]
  | ok v =>
  obtain ⟨i, r4⟩ := v
  rw [bind_ok e4]
  cases e5 : pWM wBy clockM r4 with
  | error s => rw [bind_err e5, bind_err (by unfold pBody; rw [bind_ok e0, bind_ok e1, bind_ok e2, bind_ok e3, bind_ok e4, bind_err e5])]
  | ok v =>
  obtain ⟨j, r5⟩ := v
  rw [bind_ok e5]
  cases e6 : pWM wCrowd crowdM r5 with
  | error s => rw [bind_err e6, bind_err (by unfold pBody; rw [bind_ok e0, bind_ok e1, bind_ok e2, bind_ok e3, bind_ok e4, bind_ok e5, bind_err e6])]
  | ok v =>
  obtain ⟨k, r6⟩ := v
  rw [bind_ok e6]
  unfold pPure
  simp only
  rw [parts_succ]
  unfold partP
  simp only
  cases e7 : pAgainst r6 with
  | error s => simp only; rw [bind_err (by unfold pBody; rw [bind_ok e0, bind_ok e1, bind_ok e2, bind_ok e3, bind_ok e4, bind_ok e5, bind_ok e6, bind_err e7])]
  | ok v =>
  obtain ⟨ag, r7⟩ := v
  simp only
  rw [parts_succ]
  unfold partP
  simp only
  rw [pay_eq]
  cases e8 : pWM wPay payM r7 with
  | error s => rw [bind_err e8, bind_err (by unfold pBody; rw [bind_ok e0, bind_ok e1, bind_ok e2, bind_ok e3, bind_ok e4, bind_ok e5, bind_ok e6, bind_ok e7, bind_err e8])]
  | ok v =>
  obtain ⟨n, r8⟩ := v
  rw [bind_ok e8]
  cases e9 : pBack r8 with
  | error s => rw [bind_err e9, bind_err (by unfold pBody; rw [bind_ok e0, bind_ok e1, bind_ok e2, bind_ok e3, bind_ok e4, bind_ok e5, bind_ok e6, bind_ok e7, bind_ok e8, bind_err e9])]
  | ok v =>
  obtain ⟨bk, r9⟩ := v
  rw [bind_ok e9]
  unfold pPure
  simp only
  rw [parts_succ]
  unfold partP
  simp only
  rw [other_eq _ rfl]
  cases e10 : pElse r9 with
  | error s => rw [bind_err e10, bind_err (by unfold pBody; rw [bind_ok e0, bind_ok e1, bind_ok e2, bind_ok e3, bind_ok e4, bind_ok e5, bind_ok e6, bind_ok e7, bind_ok e8, bind_ok e9, bind_err e10])]
  | ok v =>
  obtain ⟨el, r10⟩ := v
  rw [bind_ok e10]
  unfold pPure
  simp only
  rw [parts_zero]
  have hb : pBody l = .ok (⟨a, b, c, d, i, j, k, n, ag, bk, el⟩, r10) := by unfold pBody; rw [bind_ok e0, bind_ok e1, bind_ok e2, bind_ok e3, bind_ok e4, bind_ok e5, bind_ok e6, bind_ok e7, bind_ok e8, bind_ok e9, bind_ok e10]; rfl
  rw [bind_ok hb]
  cases e11 : pTake sSemi r10 with
  | none => first | rw [bind_err (want_none e11)] | done
  | some r => rw [bind_ok (want_some e11)]; first | rfl | done

/-! ### wishes of the call's own -/
def IsStrsS (S : Nat → Prop) (w : World) (v : Value) (xs : List Str) : Prop :=
  ∃ b off cap, SliceV v xs.length b off cap ∧ xs.length ≤ 8796093022208 ∧ ∀ j, j < xs.length → S b ∧ w.cell? ⟨b, off + j, none⟩ = some (strV (xs.getD j [])) ∧ (xs.getD j []).length ≤ 140737488351232
theorem IsStrsS.keep {S : Nat → Prop} {w w' : World} {v : Value} {xs : List Str} (h : IsStrsS S w v xs) (hk : ∀ q, S q → w'.heap[q]? = w.heap[q]?) : IsStrsS S w' v xs := by
  obtain ⟨b, off, cap, h1, h2, h4⟩ := h
  exact ⟨b, off, cap, h1, h2, fun j hj => ⟨(h4 j hj).1, (World.cell?_of_block (a := ⟨b, off + j, none⟩) (hk b (h4 j hj).1)).trans (h4 j hj).2.1, (h4 j hj).2.2⟩⟩
theorem IsStrsS.strs {S : Nat → Prop} {w : World} {v : Value} {xs : List Str} {B : Nat} (h : IsStrsS S w v xs) (hS : ∀ q, S q → q < B) : IsStrs B w v xs := by
  obtain ⟨b, off, cap, h1, h2, h4⟩ := h
  refine ⟨b, off, cap, h1, h2, fun j hj => ⟨[strV (xs.getD j [])], fun q u hq => ?_, rfl, (h4 j hj).2.2⟩⟩
  match q, hq with
  | 0, hq =>
    simp at hq
    subst hq
    have := (h4 j hj).2.1
    exact ⟨hS b (h4 j hj).1, by simpa using this⟩
theorem OwnStrs.strsS {C : Nat} {w : World} {v : Value} {xs : List Str} (h : OwnStrs C w v xs) (hC : C ≤ w.heap.size) : IsStrsS (fun q => v.ownBlock = some q) w v xs := by
  obtain ⟨b, off, cap, h1, h2, h4⟩ := OwnRecs.isRecs strK h hC
  refine ⟨b, off, cap, h1, h2, fun j hj => ?_⟩
  obtain ⟨c, hc, hr, hlen⟩ := h4 j hj
  have hb : v.ownBlock = some b := by
    obtain ⟨vals, ⟨_, k1⟩, k2, _⟩ := h
    obtain ⟨a, e, _, _, ha⟩ := h1
    rcases k1 with ⟨rfl, hn⟩ | ⟨g, cap', cur, rfl, rest⟩
    · omega
    · cases e
      rcases ha with ha | ha
      · cases ha; rfl
      · omega
  refine ⟨hb, ?_, hlen⟩
  have := hc 0 (strV (xs.getD j [])) (by rw [hr]; rfl)
  simpa using this.2
def wishRS (S : Nat → Prop) (w : World) (c : List Value) (x : WishD) : Prop := ∃ va, c = wishC va x ∧ IsStrsS S w va x.against ∧ okW x
theorem isStrsS_one {S : Nat → Prop} {w : World} {v : Value} {xs : List Str} (h : IsStrsS S w v xs) : v.oneCell' = true := by
  obtain ⟨b, off, cap, ⟨a, rfl, _⟩, _⟩ := h; rfl
theorem wishSK : RecS 11 wishRS := by
  refine ⟨?_, ?_, ?_⟩
  · rintro S w c d ⟨va, rfl, _⟩; rfl
  · rintro S w c d ⟨va, rfl, h, _⟩ u hu
    simp only [wishC, List.mem_cons, List.not_mem_nil, or_false] at hu
    rcases hu with rfl | rfl | rfl | rfl | rfl | rfl | rfl | rfl | rfl | rfl | rfl
    all_goals first | rfl | exact isStrsS_one h
  · rintro S w w' c d ⟨va, e, h, ho⟩ hk; exact ⟨va, e, h.keep hk, ho⟩
abbrev OwnWs := OwnDeep 48 11 wishRS 1034834473200 (default : WishD)
theorem ownWs_is {C : Nat} {w : World} {v : Value} {xs : List WishD} (h : OwnWs C w v xs) : IsWishes w.heap.size w v xs :=
  OwnDeep.isRecs wishSK (fun S c d hS ⟨va, e, h1, h2⟩ => ⟨va, e, h1.strs hS, h2⟩) h
theorem src_wish {w : World} {va : Value} {o : WishD} {C D : Nat} {g : Option Nat} {t : TypeId} (hv : OwnStrs D w va o.against) (hD : D ≤ w.heap.size) (hk : okW o) (hC : C ≤ D) (hg : ∀ q, g = some q → va.ownBlock ≠ some q) :
    SrcDeep 11 wishRS default C g (w.alloc (.cells (wishC va o).toArray t)) (.slice (some ⟨w.heap.size, 0, none⟩) 1 1) [o] := by
  refine srcDeep_one wishSK (cs := wishC va o) (fun q u hq => ?_) (S := fun q => va.ownBlock = some q) (fun q hq => ?_) ⟨va, rfl, OwnStrs.strsS (OwnRecs.below strK hv (box_below' w _) hD) (by simp; omega), hk⟩
  · rw [World.cell?_alloc_at _ _ _ _ rfl]
    simpa using hq
  · have h1 := hv.lt q hq
    exact ⟨by omega, by simp; omega, fun e => hg q e hq⟩
theorem wish_inf : (Tryd.prog.info? 48).map (fun i => (i.zero, i.size, i.bytes)) = some (some (.agg #[.string ByteArray.empty, .string ByteArray.empty, .string ByteArray.empty, .string ByteArray.empty, .int .i64 0, .int .i64 0, .int .i64 0, .int .i64 0, .slice none 0 0, .bool false, .int .i64 0]), 11, 136) := by kernel_rfl
end Go.Proofs.YtfnmidddgjlipaaDoor
