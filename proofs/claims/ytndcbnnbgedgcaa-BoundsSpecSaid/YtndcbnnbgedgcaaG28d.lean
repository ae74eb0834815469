/-
  Texts that stood one after the other, joined by a program (each part's own remark stands at its head below).
-/
import Derived.Test.YtndcbnnbgedgcaaG28c
import Derived.Test.YtndcbnnbgedgcaaG28b
import Derived.StillTailTactics
import Derived.Test.YtndcbnnbgedgcaaF25c
/-
  The walks of bounds.web.sides, bounds.product.
-/
set_option linter.unusedVariables false
set_option linter.unusedSimpArgs false
namespace Go.Proofs.Ytndcbnnbgedgcaa
open Go.RowKit

theorem bool_info : (Try.prog.info? 4).map (fun i => (i.zero, i.size, i.bytes)) = some (some (.bool false), 1, 1) := by kernel_rfl

/-- block b is a row of n truth values -/
def BoolRow (w : World) (b n : Nat) (p : Nat → Bool) : Prop := ∃ c t, w.heap[b]? = some (.cells c t (0, 0)) ∧ c.size = n ∧ ∀ i, i < n → c[i]? = some (.bool (p i))
theorem BoolRow.lt {w : World} {b n : Nat} {p : Nat → Bool} (h : BoolRow w b n p) : b < w.heap.size := by obtain ⟨c, t, h, _⟩ := h; exact (Array.getElem?_eq_some_iff.1 h).1
theorem BoolRow.grown {w w' : World} {b n : Nat} {p : Nat → Bool} {row : Option Nat} (h : BoolRow w b n p) (hg : w.grownBy w' row) (hne : some b ≠ row) : BoolRow w' b n p := by
  have hl := h.lt
  obtain ⟨c, t, h, r⟩ := h
  exact ⟨c, t, (hg.block b hl hne).trans h, r⟩
theorem BoolRow.ext {w w' : World} {b n : Nat} {p : Nat → Bool} (h : BoolRow w b n p) (hb : Below w.heap.size w w') : BoolRow w' b n p :=
  h.grown (row := none) ⟨hb.os, hb.tape, hb.output, hb.size, fun k hk _ => hb.block k hk⟩ (by simp)
theorem BoolRow.alloc {w : World} {b n : Nat} {p : Nat → Bool} (h : BoolRow w b n p) (o : Obj) : BoolRow (w.alloc o) b n p := h.ext (box_below' w o)
theorem BoolRow.cell {w : World} {b n i : Nat} {p : Nat → Bool} (h : BoolRow w b n p) (hi : i < n) : w.cell? ⟨b, i, none⟩ = some (.bool (p i)) := by
  obtain ⟨c, t, h, _, r⟩ := h
  simp only [World.cell?, h]
  exact r i hi
theorem BoolRow.free {w : World} {b n i : Nat} {p : Nat → Bool} (h : BoolRow w b n p) : w.frozen? ⟨b, i, none⟩ = false := by
  obtain ⟨c, t, h, _⟩ := h
  simp [World.frozen?, h]
theorem BoolRow.same {w : World} {b n : Nat} {p q : Nat → Bool} (h : BoolRow w b n p) (e : ∀ i, i < n → p i = q i) : BoolRow w b n q := by
  obtain ⟨c, t, h, hs, r⟩ := h
  exact ⟨c, t, h, hs, fun i hi => by rw [r i hi, e i hi]⟩
theorem BoolRow.set {w : World} {b n m : Nat} {p : Nat → Bool} (h : BoolRow w b n p) (hm : m < n) : BoolRow (w.setCell ⟨b, m, none⟩ (.bool true)) b n (fun i => p i || ((m : Int) == (i : Int))) := by
  obtain ⟨c, t, h, hs, r⟩ := h
  refine ⟨c.setIfInBounds m (.bool true), t, by simp [World.setCell, Array.getElem?_modify, h], by simp [hs], fun i hi => ?_⟩
  by_cases e : i = m
  · subst e
    simp [hs, hi]
  · rw [Array.getElem?_setIfInBounds_ne (fun h => e h.symm), r i hi]
    have : ((m : Int) == (i : Int)) = false := by simp; omega
    simp only [this, Bool.or_false]
/-- make([]bool, m) -/
theorem wpList_make_bools {ops : Array Oper} {rest : List Oper} {o : Oper} {a : Act} {w : World} {Q : Exit → Act → World → Prop} (hgd : o.guard = none) (l c : Operand) (hop : o.op = Op.makeSlice 106 l c)
    {m : Nat} (hl : a.eval l = .int .i64 (m : Int)) (hc : a.eval c = .int .i64 (m : Int)) (hm : m ≤ 100000)
    (h : ∀ w', BoolRow w' w.heap.size m (fun _ => false) → Below w.heap.size w w' → w'.heap.size = w.heap.size + 1 → wpList Try.prog ops Q rest (a.put o.dst (.slice (some ⟨w.heap.size, 0, none⟩) m m)) w') : wpList Try.prog ops Q (o :: rest) a w := by
  obtain ⟨i0, hi, hz0, hz1, hz2⟩ := info_parts bool_info
  refine wpList_plain hgd fun K hK => ?_
  have hr := run_make (P := Try.prog) w 106 4 i0 (.bool false) Try.underlying106 hi hz0 .i64 .i64 m m (by omega) (by omega) (by rw [hz2]; omega) (by omega)
  simp only [Int.toNat_natCast, hz1, Nat.mul_one] at hr
  unfold Oper.wp
  simp only [execOp, hop, hl, hc]
  simp [hr, Result.andThen]
  refine hK _ _ (h _ ⟨_, _, heap_alloc_new w _, by simp [madeCells], fun i hi => ?_⟩ (box_below' w _) (by simp))
  simp [madeCells, hi, Value.cells, Nat.mod_one]

/-- two slices that do not lie in one block -/
def Asunder (v v' : Value) : Prop := ∀ k, v.ownBlock = some k → v'.ownBlock = some k → False
theorem Asunder.ne {v v' : Value} (h : Asunder v v') : v'.ownBlock = none ∨ v'.ownBlock ≠ v.ownBlock := by
  cases hv : v'.ownBlock with
  | none => exact Or.inl rfl
  | some k => exact Or.inr fun e => h k e.symm hv
theorem Asunder.symm {v v' : Value} (h : Asunder v v') : Asunder v' v := fun k a b => h k b a
theorem Asunder.next {v v' u : Value} {n : Nat} (h : Asunder v u) (hat : v'.ownBlock = v.ownBlock ∨ v'.ownBlock = some n) (hu : ∀ k, u.ownBlock = some k → k < n) : Asunder v' u := by
  intro k a b
  rcases hat with e | e
  · exact h k (by rw [← e]; exact a) b
  · rw [e] at a
    injection a with a
    have := hu k b
    omega

/-- what holds at the head of the loop of web.sides -/
def SidesRel (w : World) (cs : Array Value) (f : Flow) (k : Nat) (p : Nat → Bool) (v1 v2 : Value) (wr : World) : Prop :=
  OwnInts (w.heap.size + 2) wr v1 (lastL f k) ∧ OwnInts (w.heap.size + 2) wr v2 (firstL f k) ∧ Asunder v1 v2 ∧ BoolRow wr (w.heap.size + 1) f.lots.length p ∧ Box wr w.heap.size cs ∧ Below w.heap.size w wr
theorem SidesRel.ext {w : World} {cs : Array Value} {f : Flow} {k : Nat} {p : Nat → Bool} {v1 v2 : Value} {wr w' : World} (h : SidesRel w cs f k p v1 v2 wr) (hb : Below wr.heap.size wr w') : SidesRel w cs f k p v1 v2 w' :=
  ⟨h.1.below hb, h.2.1.below hb, h.2.2.1, h.2.2.2.1.ext hb, h.2.2.2.2.1.ext hb, h.2.2.2.2.2.trans (hb.mono h.2.2.2.2.2.size)⟩

/-- an append to the first list -/
theorem SidesRel.last {w : World} {cs : Array Value} {f : Flow} {p : Nat → Bool} {v1 v2 v' : Value} {wr w' : World} {o : Obj} {l1 l2 : List Int}
    (h1 : OwnInts (w.heap.size + 2) wr v1 l1) (h2 : OwnInts (w.heap.size + 2) wr v2 l2) (h3 : Asunder v1 v2) (h4 : BoolRow wr (w.heap.size + 1) f.lots.length p) (h5 : Box wr w.heap.size cs) (h6 : Below w.heap.size w wr)
    (hz : w.heap.size + 1 < wr.heap.size) (hg : (wr.alloc o).grownBy w' v1.ownBlock) (hat : v'.ownBlock = v1.ownBlock ∨ v'.ownBlock = some (wr.alloc o).heap.size) :
    OwnInts (w.heap.size + 2) w' v2 l2 ∧ Asunder v' v2 ∧ BoolRow w' (w.heap.size + 1) f.lots.length p ∧ Box w' w.heap.size cs ∧ Below w.heap.size w w' := by
  have hr : ∀ j, v1.ownBlock = some j → w.heap.size + 2 ≤ j := fun j hj => (h1.1.lt j hj).1
  refine ⟨(h2.alloc o).kept hg h3.ne, h3.next hat (fun j hj => by have := (h2.1.lt j hj).2; simp; omega), (h4.alloc o).grown hg (fun e => by have := hr _ e.symm; omega), (h5.alloc o).grown hg (fun e => by have := hr _ e.symm; omega), ?_⟩
  exact (h6.alloc (by omega) o).grown hg (by simp; omega) (fun j hj => by have := hr j hj; omega)

set_option maxHeartbeats 4000000 in
set_option maxRecDepth 100000 in
/-- web.sides -/
theorem sides_any (B : Nat) (w : World) (vs vl vo vw : Value) (f : Flow) (hw : IsWeb B w vs vl vo vw f) (hB : B ≤ w.heap.size) (h0 : checkE f = 0) :
    Calls Try.prog 62 #[.agg #[vs, vl, vo, vw]] w fun e w' => ∃ v1 v2, e = .returned (.tuple #[v1, v2]) ∧ OwnInts w.heap.size w' v1 (lastL f f.lots.length) ∧ OwnInts w.heap.size w' v2 (firstL f f.lots.length) ∧ Below w.heap.size w w' := by
  have HWB := Lib.hid hw
  have H0 := Lib.hid h0
  have hck := checkE_ok h0
  have HV := Lib.hid hck.2.2.2.2
  have HBF := Lib.hid (fun k (hk : k ≤ f.lots.length) => before_bd h0 hk)
  obtain ⟨hk1, hk2, hk3, hk4, _⟩ := hck
  obtain ⟨⟨rfl, ⟨hs1, hs2⟩, b, off, cap, ⟨a, rfl, hcap, hmax, ha⟩, hlen, hc⟩, ⟨b', off', cap', ⟨a', rfl, hcap', hmax', ha'⟩, hlen', hz', hc'⟩, bm, rfl, hbm, hmap⟩ := hw
  have HC := Lib.hid hc
  have HC' := Lib.hid hc'
  have HA := Lib.hid ha
  have HA' := Lib.hid ha'
  have HOLN := Lib.hid (outsTo_len f f.lots.length)
  have HU := Lib.hid (fun x => unkTo_lt f x f.lots.length)
  clear hc hc' ha ha' hz' hmap h0 hk4
  obtain ⟨no, hno⟩ : ∃ n, (outsTo f f.lots.length).length = n := ⟨_, rfl⟩
  rw [hno] at HWB HA' HOLN hcap' hlen' HC'
  rw [hno]
  clear hno
  obtain ⟨cs, hcs⟩ : ∃ cs : Array Value, cs = #[.int .i64 f.senders, .slice a f.lots.length cap, .slice a' no cap', .map (some bm)] := ⟨_, rfl⟩
  have HCS := Lib.hid hcs
  have HX0 := Lib.hid (Box.new w #[.int .i64 f.senders, .slice a f.lots.length cap, .slice a' no cap', .map (some bm)] 81)
  have HR0 : Hid (∀ W, BoolRow W (w.heap.size + 1) f.lots.length (fun _ => false) → Below (w.heap.size + 1) (w.alloc (.cells #[.int .i64 f.senders, .slice a f.lots.length cap, .slice a' no cap', .map (some bm)] 81)) W → SidesRel w cs f 0 (fun m => hitTo f m 0) (.slice none 0 0) (.slice none 0 0) W) := Lib.hid fun W h hb => by
    refine ⟨OwnInts.nil _ _, OwnInts.nil _ _, fun k a _ => by simp [Value.ownBlock] at a, h, ?_, (box_below' w _).trans (hb.mono (by omega))⟩
    rw [hcs]
    exact HX0.out.below hb (by omega)
  clear hcs
  go_enter Try.func62, Try.ntmps62
  go_wp2_with (at_make; refine wpList_make_bools (m := f.lots.length) rfl _ _ rfl rfl rfl (by omega) ?_; intro w3 hr3 hb3 hz3; have HR3 := Lib.hid hr3; have HB3 := Lib.hid hb3; have HX3 := Lib.hid (HX0.out.below hb3 (by simp)); obtain ⟨z3, r3⟩ := HX3.out; clear hr3 hb3 hz3)
  have HREL : Hid (SidesRel w cs f 0 (fun m => hitTo f m 0) (.slice none 0 0) (.slice none 0 0) w3) := Lib.hid (HR0.out w3 (by have h := HR3.out; simp only [World.size_alloc] at h; exact h) (HB3.out.mono (by simp)))
  clear z3 r3
  go_loopw [2, 3, 19] (fun v1 v2 vi wr => ∃ k : Nat, k ≤ f.lots.length ∧ vi = .int .i64 k ∧ SidesRel w cs f k (fun m => hitTo f m k) v1 v2 wr) (fun _ _ vi _ => f.lots.length - (intOf vi).toNat)
  case atStart => exact ⟨0, by omega, rfl, HREL.out⟩
  case round =>
    obtain ⟨k, hk, rfl, hrel⟩ := hrel
    have HRR := Lib.hid hrel
    clear hrel HREL
    have hzr := HRR.out.2.2.2.1.lt
    by_cases hlt : k < f.lots.length
    · obtain rfl : a = some ⟨b, off, none⟩ := by rcases HA.out with ha | ha; exact ha; omega
      obtain rfl : a' = some ⟨b', off', none⟩ := by rcases HA'.out with ha | ha; exact ha; have := HOLN.out; omega
      obtain ⟨vi, vk, vp, hc1, hc2, hc3, hl1, rfl, hl3⟩ := HC.out k hlt
      obtain ⟨bp, op, cp, ⟨ap, rfl, _⟩, _⟩ := hl3
      obtain ⟨bi, oi, ci, ⟨ai, rfl, _⟩, _⟩ := hl1
      have HBL := Lib.hid HRR.out.2.2.2.2.2
      have hbb : b < w.heap.size := by have := hc1.1; omega
      have e1 := (HBL.out.cell (p := ⟨b, off + k * 3, none⟩) hbb).trans hc1.2
      have e2 := (HBL.out.cell (p := ⟨b, off + k * 3 + 1, none⟩) hbb).trans hc2.2
      have e3 := (HBL.out.cell (p := ⟨b, off + k * 3 + 2, none⟩) hbb).trans hc3.2
      have hbbr : b < wr.heap.size := by have := HBL.out.size; omega
      have HCO := Lib.hid (HC'.out k (by have := HOLN.out; omega))
      rw [outsTo_at f hlt] at HCO
      have hbf := HBF.out k hk
      have hbf1 := HBF.out (k + 1) (by omega)
      simp only [beforeI] at hbf1
      have HSL : Hid (lastL f (k + 1) = if !(lotAt f.lots k).known && lastB f k then lastL f k ++ [(k : Int)] else lastL f k) := Lib.hid rfl
      have HSF : Hid (firstL f (k + 1) = if !(lotAt f.lots k).known && firstB f k then firstL f k ++ [(k : Int)] else firstL f k) := Lib.hid rfl
      have HSH : Hid (∀ m, hitTo f m (k + 1) = (hitTo f m k || (!(lotAt f.lots k).known && comesTo f m k (lotAt f.lots k).ins.length))) := Lib.hid fun m => rfl
      have HLB : Hid (lastB f k = lastTo f k (lotAt f.lots k).ins.length) := Lib.hid rfl
      have HFB : Hid (firstB f k = !hitTo f k k) := Lib.hid rfl
      have HHA := Lib.hid (hitTo_at HV.out hlt)
      have HLL := Lib.hid (lastL_len f k)
      have HFL := Lib.hid (firstL_len f k)
      have HLS : Hid (∀ i, lastTo f k (i + 1) = (lastTo f k i && decide (unkI f (beforeI f k + i) < 0))) := Lib.hid fun i => rfl
      have HCT : Hid (∀ m i, comesTo f m k (i + 1) = (comesTo f m k i || (unkI f (beforeI f k + i) == (m : Int)))) := Lib.hid fun m i => rfl
      obtain ⟨kn, hkn⟩ : ∃ x, (lotAt f.lots k).known = x := ⟨_, rfl⟩
      obtain ⟨n, hn⟩ : ∃ x, (lotAt f.lots k).ins.length = x := ⟨_, rfl⟩
      obtain ⟨np, hnp⟩ : ∃ x, (lotAt f.lots k).perm.length = x := ⟨_, rfl⟩
      obtain ⟨bv, hbv⟩ : ∃ x, beforeI f k = x := ⟨_, rfl⟩
      rw [hkn] at e2 HSL HSF HSH
      rw [hn] at e1 hbf1 HSH HLB
      rw [hnp] at e3
      rw [hbv] at hbf hbf1 HCO HLS HCT
      clear hc1 hc2 hc3 hkn hn hnp hbv
      cases kn
      · obtain ⟨ho1, ho2, has, hbo, hbx, hbl⟩ := HRR.out
        have HR4 : Hid (SidesRel w cs f k (fun m => hitTo f m k || comesTo f m k 0) u2 u3 (wr.alloc (.cells #[.slice ai n ci, .bool false, .slice ap np cp] 45))) := Lib.hid (by
          have h := HRR.out.ext (box_below' wr (.cells #[.slice ai n ci, .bool false, .slice ap np cp] 45))
          exact ⟨h.1, h.2.1, h.2.2.1, h.2.2.2.1.same (fun i _ => by simp [comesTo]), h.2.2.2.2⟩)
        clear ho1 ho2 has hbo hbx hbl
        go_wp2
        clear e1 e2 e3
        go_loopw [7, 29] (fun ve vi wr => ∃ i : Nat, i ≤ n ∧ vi = .int .i64 i ∧ ve = .bool (lastTo f k i) ∧ SidesRel w cs f k (fun m => hitTo f m k || comesTo f m k i) u2 u3 wr) (fun _ vi _ => n - (intOf vi).toNat)
        case atStart => exact ⟨0, by omega, rfl, rfl, HR4.out⟩
        case round =>
          obtain ⟨i, hi, rfl, rfl, hrel⟩ := hrel
          have HRI := Lib.hid hrel
          clear hrel HR4 HRR
          by_cases hin : i < n
          · obtain ⟨ho1, ho2, has, hbo, hbx, hbl⟩ := HRI.out
            have HBI := Lib.hid hbl
            have HBO := Lib.hid hbo
            rw [HCS.out] at hbx
            obtain ⟨zr, rr⟩ := hbx
            have b0 := rr 0
            have b1 := rr 1
            have b2 := rr 2
            have b3 := rr 3
            simp at b0 b1 b2 b3
            have oc := (hbl.cell (p := ⟨b', off' + k, none⟩) (by have := HCO.out.1; show b' < _; omega)).trans HCO.out.2
            have hob : b' < wr.heap.size := by have := HCO.out.1; have := hbl.size; omega
            have hk0 : (0 : Int) ≤ (k : Int) := Int.natCast_nonneg _
            have hk1' : (k : Int) < (no : Int) := by have := HOLN.out; omega
            have hwr : IntKind.i64.wrap (bv + (i : Int)) = bv + (i : Int) := by rw [IntWalk.i64_in _ (by omega)]
            have HUX := Lib.hid (HU.out (bv + (i : Int)))
            have HCU : Hid (Calls Try.prog 86 #[.agg #[.int .i64 f.senders, .slice (some ⟨b, off, none⟩) f.lots.length cap, .slice (some ⟨b', off', none⟩) no cap', .map (some bm)], .int .i64 (bv + (i : Int))] wr.drew fun e w' => e = .returned (.int .i64 (unkI f (bv + (i : Int)))) ∧ Below wr.heap.size wr w') := Lib.hid (by
              refine (wunknown_any B wr.drew _ _ _ _ f (bv + (i : Int)) (HWB.out.below ((Below.drew hbl)) hB) (by have := hbl.size; simp; omega) H0.out).mono ?_
              rintro e w' ⟨rfl, hb⟩
              exact ⟨rfl, ((Below.refl _ wr).drew).trans (hb.mono (by simp))⟩)
            obtain ⟨u, hu⟩ : ∃ x, unkI f (bv + (i : Int)) = x := ⟨_, rfl⟩
            have HLI := Lib.hid (HLS.out i)
            have HCI := Lib.hid (fun m => HCT.out m i)
            unfold unkI at hu
            rw [hu] at HUX
            have hu' : unkI f (bv + (i : Int)) = u := hu
            rw [hu'] at HCU HLI HCI
            clear ho1 ho2 has hbo hbl rr hu hu'
            go_wp2
            go_still_tail 8, (by kernel_rfl)
            change wpList _ _ _ _ _ wr.drew
            by_cases hup : 0 ≤ u
            · obtain ⟨m0, rfl⟩ := Int.eq_ofNat_of_zero_le hup
              have hm0 : m0 < f.lots.length := by have := HUX.out.2; omega
              have HL0 : Hid (lastTo f k (i + 1) = false) := Lib.hid (by rw [HLI.out, decide_eq_false (by omega)]; simp)
              go_wp2_with (go_at_call 86; refine HCU.out.mono ?_; rintro e w5 ⟨rfl, hb5⟩; have HB5 := Lib.hid hb5; have HO5 := Lib.hid (HBO.out.ext hb5); have q1 := HO5.out.cell hm0; have q2 := HO5.out.free (i := m0); clear hb5)
              go_roundw
              case rel =>
                have h := HRI.out.ext HB5.out
                have hg := grown_setCell w5 ⟨w.heap.size + 1, m0, none⟩ (.bool true)
                refine ⟨i + 1, by omega, by go_num, by rw [HL0.out], h.1.kept hg (Or.inr fun e => by have := (h.1.1.lt (w.heap.size + 1) e).1; omega), h.2.1.kept hg (Or.inr fun e => by have := (h.2.1.1.lt (w.heap.size + 1) e).1; omega), h.2.2.1, ?_, h.2.2.2.2.1.grown hg (by simp), h.2.2.2.2.2.setCell (by show w.heap.size ≤ w.heap.size + 1; omega) _⟩
                exact (HO5.out.set hm0).same (fun m _ => by simp only [HCI.out m, Bool.or_assoc])
              case measure => simp [intOf]; omega
            · have hneg : decide (0 ≤ u) = false := decide_eq_false hup
              have HL0 : Hid (lastTo f k (i + 1) = lastTo f k i) := Lib.hid (by rw [HLI.out, decide_eq_true (by omega : u < 0)]; simp)
              go_wp2_with (go_at_call 86; refine HCU.out.mono ?_; rintro e w5 ⟨rfl, hb5⟩; have HB5 := Lib.hid hb5; clear hb5)
              go_roundw
              case rel =>
                have h := HRI.out.ext HB5.out
                exact ⟨i + 1, by omega, by go_num, by rw [HL0.out], h.1, h.2.1, h.2.2.1, h.2.2.2.1.same (fun m _ => by
                  have : (u == (m : Int)) = false := by simp; omega
                  simp only [HCI.out m, this, Bool.or_false]), h.2.2.2.2⟩
              case measure => simp [intOf]; omega
          · obtain rfl : i = n := by omega
            rw [← HLB.out]
            have HR5 : Hid (SidesRel w cs f k (fun m => hitTo f m (k + 1)) u2 u3 wr) := Lib.hid ⟨HRI.out.1, HRI.out.2.1, HRI.out.2.2.1, HRI.out.2.2.2.1.same (fun m _ => by simp only [HSH.out m]; simp), HRI.out.2.2.2.2⟩
            clear HRI
            have hr0 := HR5.out.2.2.2.1.cell hlt
            simp only [HHA.out] at hr0
            have hzr5 := HR5.out.2.2.2.1.lt
            obtain ⟨hv2, hv3⟩ : (∃ a n c, u2 = .slice a n c) ∧ (∃ a n c, u3 = .slice a n c) := ⟨HR5.out.1.form', HR5.out.2.1.form'⟩
            obtain ⟨hb, hhb⟩ : ∃ x, hitTo f k k = x := ⟨_, rfl⟩
            rw [hhb] at hr0 HFB
            obtain ⟨lb, hlb⟩ : ∃ x, lastB f k = x := ⟨_, rfl⟩
            rw [hlb] at HSL ⊢
            rw [HFB.out] at HSF
            have HHB := Lib.hid hhb
            clear hhb hlb
            cases lb
            · cases hb
              · go_wp2_with (at_builtin; refine append_intsA rfl (.tmp 57) (.tmp 59) rfl (B := w.heap.size + 2) (v := u3) (vx := .slice (some ⟨wr.heap.size, 0, none⟩) 1 1) [(k : Int)] rfl (HR5.out.2.1.alloc _) rfl (src_one (World.cell?_alloc_at _ _ _ _ rfl) rfl) (by unfold I64; simp; omega) (by have := HLL.out; have := HFL.out; simp; omega) (by simp; omega) ?_; intro v7 w7 ho7 hg7 hat7; have HO7 := Lib.hid ho7; have HG7 := Lib.hid hg7; have HAT7 := Lib.hid hat7; have HX7 := Lib.hid (SidesRel.last HR5.out.2.1 HR5.out.1 HR5.out.2.2.1.symm HR5.out.2.2.2.1 HR5.out.2.2.2.2.1 HR5.out.2.2.2.2.2 hzr5 hg7 hat7); clear ho7 hg7 hat7)
                go_roundw
                case rel => exact ⟨k + 1, by omega, by go_num, by rw [HSL.out]; exact HX7.out.1, by rw [HSF.out]; exact HO7.out, HX7.out.2.1.symm, HX7.out.2.2.1, HX7.out.2.2.2.1, HX7.out.2.2.2.2⟩
                case measure => simp [intOf]; omega
              · go_wp2
                go_roundw
                case rel => exact ⟨k + 1, by omega, by go_num, by rw [HSL.out]; exact HR5.out.1, by rw [HSF.out]; exact HR5.out.2.1, HR5.out.2.2⟩
                case measure => simp [intOf]; omega
            · cases hb
              · go_wp2_with (first
                  | (at_builtin; refine append_intsA rfl (.tmp 48) (.tmp 50) rfl (B := w.heap.size + 2) (v := u2) (vx := .slice (some ⟨wr.heap.size, 0, none⟩) 1 1) [(k : Int)] rfl (HR5.out.1.alloc _) rfl (src_one (World.cell?_alloc_at _ _ _ _ rfl) rfl) (by unfold I64; simp; omega) (by have := HLL.out; have := HFL.out; simp; omega) (by simp; omega) ?_; intro v6 w6 ho6 hg6 hat6; have HO6 := Lib.hid ho6; have HG6 := Lib.hid hg6; have HAT6 := Lib.hid hat6; have HX6 := Lib.hid (SidesRel.last HR5.out.1 HR5.out.2.1 HR5.out.2.2.1 HR5.out.2.2.2.1 HR5.out.2.2.2.2.1 HR5.out.2.2.2.2.2 hzr5 hg6 hat6); have hr6 := HX6.out.2.2.1.cell hlt; rw [HHA.out, HHB.out] at hr6; have hz6 : w.heap.size + 1 < w6.heap.size := HX6.out.2.2.1.lt; clear ho6 hg6 hat6)
                  | (at_builtin; refine append_intsA rfl (.tmp 57) (.tmp 59) rfl (B := w.heap.size + 2) (v := u3) (vx := .slice (some ⟨w6.heap.size, 0, none⟩) 1 1) [(k : Int)] rfl (HX6.out.1.alloc _) rfl (src_one (World.cell?_alloc_at _ _ _ _ rfl) rfl) (by unfold I64; simp; omega) (by have := HLL.out; have := HFL.out; simp; omega) (by simp; omega) ?_; intro v8 w8 ho8 hg8 hat8; have HO8 := Lib.hid ho8; have HG8 := Lib.hid hg8; have HAT8 := Lib.hid hat8; have HX8 := Lib.hid (SidesRel.last HX6.out.1 HO6.out HX6.out.2.1.symm HX6.out.2.2.1 HX6.out.2.2.2.1 HX6.out.2.2.2.2 hz6 hg8 hat8); clear ho8 hg8 hat8))
                go_roundw
                case rel => exact ⟨k + 1, by omega, by go_num, by rw [HSL.out]; exact HX8.out.1, by rw [HSF.out]; exact HO8.out, HX8.out.2.1.symm, HX8.out.2.2.1, HX8.out.2.2.2.1, HX8.out.2.2.2.2⟩
                case measure => simp [intOf]; omega
              · go_wp2_with (at_builtin; refine append_intsA rfl (.tmp 48) (.tmp 50) rfl (B := w.heap.size + 2) (v := u2) (vx := .slice (some ⟨wr.heap.size, 0, none⟩) 1 1) [(k : Int)] rfl (HR5.out.1.alloc _) rfl (src_one (World.cell?_alloc_at _ _ _ _ rfl) rfl) (by unfold I64; simp; omega) (by have := HLL.out; have := HFL.out; simp; omega) (by simp; omega) ?_; intro v6 w6 ho6 hg6 hat6; have HO6 := Lib.hid ho6; have HG6 := Lib.hid hg6; have HAT6 := Lib.hid hat6; have HX6 := Lib.hid (SidesRel.last HR5.out.1 HR5.out.2.1 HR5.out.2.2.1 HR5.out.2.2.2.1 HR5.out.2.2.2.2.1 HR5.out.2.2.2.2.2 hzr5 hg6 hat6); have hr6 := HX6.out.2.2.1.cell hlt; rw [HHA.out, HHB.out] at hr6; have hz6 : w.heap.size + 1 < w6.heap.size := HX6.out.2.2.1.lt; clear ho6 hg6 hat6)
                go_roundw
                case rel => exact ⟨k + 1, by omega, by go_num, by rw [HSL.out]; exact HO6.out, by rw [HSF.out]; exact HX6.out.1, HX6.out.2.1, HX6.out.2.2.1, HX6.out.2.2.2.1, HX6.out.2.2.2.2⟩
                case measure => simp [intOf]; omega
      · have HR5 : Hid (SidesRel w cs f (k + 1) (fun m => hitTo f m (k + 1)) u2 u3 (wr.alloc (.cells #[.slice ai n ci, .bool true, .slice ap np cp] 45))) := Lib.hid (by
          have h := HRR.out.ext (box_below' wr (.cells #[.slice ai n ci, .bool true, .slice ap np cp] 45))
          exact ⟨by rw [HSL.out]; exact h.1, by rw [HSF.out]; exact h.2.1, h.2.2.1, h.2.2.2.1.same (fun m _ => by simp only [HSH.out m]; simp), h.2.2.2.2⟩)
        go_wp2
        go_roundw
        case rel => exact ⟨k + 1, by omega, by go_num, HR5.out⟩
        case measure => simp [intOf]; omega
    · obtain rfl : k = f.lots.length := by omega
      go_wp2
      go_ret2
      exact ⟨_, _, rfl, HRR.out.1.mono (by omega), HRR.out.2.1.mono (by omega), HRR.out.2.2.2.2.2⟩

end Go.Proofs.Ytndcbnnbgedgcaa

/-
  The walks of bounds.product, Lower.
-/
set_option linter.unusedVariables false
set_option linter.unusedSimpArgs false
namespace Go.Proofs.Ytndcbnnbgedgcaa
open Go.RowKit

set_option maxHeartbeats 2000000 in
set_option maxRecDepth 100000 in
/-- bounds.product -/
theorem bproduct_any (B : Nat) (w : World) (vs vl vx : Value) (f : Flow) (l : List Int) (hf : IsFlow B w vs vl f) (hx : IsInts B w vx l) (hB : B ≤ w.heap.size) (h0 : checkE f = 0) (hin : ∀ x ∈ l, 0 ≤ x ∧ x < f.lots.length) :
    Calls Try.prog 63 #[.agg #[vs, vl], vx] w fun e w' => e = .returned (.tuple #[.int .i64 (prodR f l), .bool (prodB f l)]) ∧ Below w.heap.size w w' := by
  have HF := Lib.hid hf
  have hck := checkE_ok h0
  have HV := Lib.hid hck.2.2.2.2
  have H0 := Lib.hid h0
  clear hck h0
  obtain ⟨rfl, ⟨hs1, hs2⟩, hl⟩ := hf
  obtain ⟨b, off, cap, ⟨a, rfl, hcap, hmax, ha⟩, hlen, hc⟩ := hl
  obtain ⟨b1, off1, cap1, ⟨a1, rfl, hcap1, hmax1, ha1⟩, hlen1, hz1, hc1⟩ := hx
  have HC := Lib.hid hc
  have HC1 := Lib.hid hc1
  have HA := Lib.hid ha
  have HA1 := Lib.hid ha1
  have HIN := Lib.hid hin
  clear hc ha hc1 ha1 hz1 hin
  have HX0 := Lib.hid (Box.new w #[.int .i64 f.senders, .slice a f.lots.length cap] 24)
  go_enter Try.func63, Try.ntmps63
  go_wp2
  go_step3
  go_wp2
  go_step3
  go_wp2
  go_loopw [4, 11] (fun vn vi wr => ∃ (k : Nat) (v : Int), k ≤ l.length ∧ vi = .int .i64 k ∧ vn = .int .i64 v ∧ prodTo f l k = some v ∧ Box wr w.heap.size #[.int .i64 f.senders, .slice a f.lots.length cap] ∧ Below w.heap.size w wr) (fun _ vi _ => l.length - (intOf vi).toNat)
  case atStart => exact ⟨0, 1, by omega, rfl, rfl, rfl, HX0.out, box_below' _ _⟩
  case round =>
    obtain ⟨k, v, hk, rfl, rfl, hp, hbx, hbr⟩ := hrel
    have HP := Lib.hid hp
    have HX := Lib.hid hbx
    have HBR := Lib.hid hbr
    clear hp hbr
    obtain ⟨z1, r1⟩ := hbx
    have r10 := r1 0
    have r11 := r1 1
    simp at r10 r11
    clear r1
    have hv := prodTo_bd k v HP.out
    by_cases hlt : k < l.length
    · obtain rfl : a1 = some ⟨b1, off1, none⟩ := by rcases HA1.out with ha | ha; exact ha; omega
      have hin := HIN.out _ (nth_mem hlt)
      obtain ⟨j, hj⟩ := Int.eq_ofNat_of_zero_le hin.1
      have hjl : j < f.lots.length := by omega
      obtain rfl : a = some ⟨b, off, none⟩ := by rcases HA.out with ha | ha; exact ha; omega
      obtain ⟨vi, vk, vp, hc1, hc2, hc3, hl1, rfl, hl3⟩ := HC.out j hjl
      obtain ⟨bi, oi, ci, ⟨ai, rfl, _⟩, _⟩ := hl1
      have hbb : b < w.heap.size := by have := hc1.1; omega
      have hbb1 : b1 < w.heap.size := by have := (HC1.out k hlt).1; omega
      have HS : Hid (prodTo f l (k + 1) = facTo v (lotAt f.lots j).ins.length) := Lib.hid (by simp only [prodTo, HP.out, hj]; rfl)
      have hbf := before_bd H0.out (show j + 1 ≤ f.lots.length by omega)
      have hbf0 := before_bd H0.out (show j ≤ f.lots.length by omega)
      simp only [beforeI] at hbf
      have c1 := (HBR.out.cell (p := ⟨b, off + j * 3, none⟩) hbb).trans hc1.2
      have c2 := (HBR.out.cell (p := ⟨b1, off1 + k, none⟩) hbb1).trans (HC1.out k hlt).2
      rw [hj] at c2
      obtain ⟨n, hn⟩ : ∃ n, (lotAt f.lots j).ins.length = n := ⟨_, rfl⟩
      rw [hn] at HS hbf c1
      have hn5 : n ≤ 50000 := by omega
      clear hc1 hc2 hc3 hl3 hn hj hin hbf hbf0
      go_wp2
      clear c1 c2
      go_loopw [4, 22] (fun vn vi wr => ∃ (i : Nat) (u : Int), i ≤ n ∧ vi = .int .i64 i ∧ vn = .int .i64 u ∧ facTo v i = some u ∧ Box wr w.heap.size #[.int .i64 f.senders, .slice (some ⟨b, off, none⟩) f.lots.length cap] ∧ Below w.heap.size w wr) (fun _ vi _ => n - (intOf vi).toNat)
      case atStart => exact ⟨0, v, by omega, rfl, rfl, rfl, HX.out, HBR.out⟩
      case round =>
        obtain ⟨i, u, hi2, rfl, rfl, hfa, hbx, hbr⟩ := hrel
        have HFA := Lib.hid hfa
        have HX := Lib.hid hbx
        have HBR := Lib.hid hbr
        clear hfa hbr hbx
        have hu := facTo_bd hv.1 hv.2 i u HFA.out
        have HST := Lib.hid (facTo_step HFA.out)
        by_cases hlt2 : i < n
        · have hp1 : (0 : Int) < (i : Int) + 1 := by omega
          by_cases hov : mostI / ((i : Int) + 1) < u
          · have g2 : decide (1152921504606846976 / ((i : Int) + 1) < u) = true := decide_eq_true hov
            have HN : Hid (prodTo f l l.length = none) := Lib.hid (prodTo_none (k := k + 1) (by rw [HS.out]; exact facTo_none (i := i + 1) (by rw [HST.out, if_pos hov]) (by omega)) (by omega))
            have HR1 : Hid (prodR f l = 0) := Lib.hid (by unfold prodR; rw [HN.out]; rfl)
            have HR2 : Hid (prodB f l = false) := Lib.hid (by unfold prodB; rw [HN.out]; rfl)
            clear hov
            go_wp2
            try rw [Exit.noGoto_ret]
            go_ret2
            exact ⟨by rw [HR1.out, HR2.out]; rfl, HBR.out⟩
          · have g2 : decide (1152921504606846976 / ((i : Int) + 1) < u) = false := decide_eq_false hov
            have hm := mul_bd hu.1 hov
            have HN : Hid (facTo v (i + 1) = some (u * ((i : Int) + 1))) := Lib.hid (by rw [HST.out, if_neg hov])
            obtain ⟨p, hp⟩ : ∃ p, u * ((i : Int) + 1) = p := ⟨_, rfl⟩
            have hw1 : IntKind.i64.wrap (u * ((i : Int) + 1)) = p := by rw [hp, IntWalk.i64_in _ (by omega)]
            have HPP := Lib.hid hp
            rw [hp] at HN hm
            clear hov hp
            go_wp2
            go_roundw
            case rel => exact ⟨i + 1, p, by omega, by go_num, by first | rfl | (rw [HPP.out]) | (rw [hw1]), HN.out, HX.out, HBR.out⟩
            case measure => simp [intOf]; omega
        · obtain rfl : i = n := by omega
          have HN : Hid (prodTo f l (k + 1) = some u) := Lib.hid (by rw [HS.out]; exact HFA.out)
          go_wp2
          go_roundw
          case rel => exact ⟨k + 1, u, by omega, by go_num, rfl, HN.out, HX.out, HBR.out⟩
          case measure => simp [intOf]; omega
    · obtain rfl : k = l.length := by omega
      have HR1 : Hid (prodR f l = v) := Lib.hid (by unfold prodR; rw [HP.out]; rfl)
      have HR2 : Hid (prodB f l = true) := Lib.hid (by unfold prodB; rw [HP.out]; rfl)
      have g1 : decide (0 < v) = true := decide_eq_true (by omega)
      go_wp2
      try rw [Exit.noGoto_ret]
      go_ret2
      exact ⟨by rw [HR1.out, HR2.out]; rfl, HBR.out⟩

set_option maxHeartbeats 2000000 in
set_option maxRecDepth 100000 in
/-- bounds.Lower -/
theorem blower_any (B : Nat) (w : World) (vs vl : Value) (f : Flow) (hf : IsFlow B w vs vl f) (hB : B ≤ w.heap.size) :
    Calls Try.prog 29 #[.agg #[vs, vl]] w fun e w' => ∃ v, e = .returned (.tuple #[.int .i64 (lowerR f), v, .int .i64 (lowerE f)]) ∧ OwnInts w.heap.size w' v (lowerL f) ∧ Below w.heap.size w w' := by
  have HF := Lib.hid hf
  obtain ⟨rfl, ⟨hs1, hs2⟩, hl⟩ := hf
  obtain ⟨b, off, cap, ⟨a, rfl, hcap, hmax, ha⟩, hlen, hc⟩ := hl
  clear hc ha
  have HC := Lib.hid (fun o => fcheck_any B (w.alloc o) _ _ f (HF.out.below (box_below hB o) (Nat.le_refl _)) (by simp; omega))
  have HER : Hid (lowerE f = if checkE f ≠ 0 then checkE f else if lowerOk f then 0 else 2) := Lib.hid rfl
  have HOK : Hid (lowerOk f = (prodB f (lastL f f.lots.length) && prodB f (firstL f f.lots.length))) := Lib.hid rfl
  have HRR : Hid (lowerR f = if lowerE f = 0 then (if prodR f (firstL f f.lots.length) ≤ prodR f (lastL f f.lots.length) then prodR f (lastL f f.lots.length) else prodR f (firstL f f.lots.length)) else 0) := Lib.hid rfl
  have HLR : Hid (lowerL f = if lowerE f = 0 then (if prodR f (firstL f f.lots.length) ≤ prodR f (lastL f f.lots.length) then lastL f f.lots.length else firstL f f.lots.length) else []) := Lib.hid rfl
  obtain ⟨ue, hue⟩ : ∃ x, lowerE f = x := ⟨_, rfl⟩
  obtain ⟨ur, hur⟩ : ∃ x, lowerR f = x := ⟨_, rfl⟩
  obtain ⟨ul, hul⟩ : ∃ x, lowerL f = x := ⟨_, rfl⟩
  rw [hue] at HER HRR HLR
  rw [hur] at HRR
  rw [hul] at HLR
  rw [hue, hur, hul]
  clear hue hur hul
  go_enter Try.func29, Try.ntmps29
  go_wp2_with fail
  refine (HC.out _).mono ?_
  rintro e w5 ⟨rfl, hb5⟩
  have HX5 := Lib.hid ((Box.new w #[.int .i64 f.senders, .slice a f.lots.length cap] 24).ext hb5)
  have HW5 : Hid (Below w.heap.size w w5) := Lib.hid ((box_below (Nat.le_refl _) _).trans (hb5.mono (by simp)))
  clear hb5
  obtain ⟨z5, r5⟩ := HX5.out
  by_cases h1 : checkE f = 0
  · have h1' : (checkE f != 0) = false := by simpa using h1
    have H1 := Lib.hid h1
    have HE1 : Hid (ue = if lowerOk f then 0 else 2) := Lib.hid (by rw [HER.out, if_neg (by simp [h1])])
    clear h1
    go_wp2_with fail
    refine (weave_any B w5 _ _ f (HF.out.below HW5.out hB) (by have := HW5.out.size; omega) H1.out).mono ?_
    rintro e w6 ⟨vo6, vw6, rfl, hwb, hb6⟩
    have HX6 := Lib.hid (HX5.out.ext hb6)
    have HW6 : Hid (Below w.heap.size w w6) := Lib.hid (HW5.out.trans (hb6.mono HW5.out.size))
    have HWB6 := Lib.hid hwb
    clear hb6 hwb z5 r5
    obtain ⟨z6, r6⟩ := HX6.out
    go_wp2_with fail
    refine (sides_any w6.heap.size w6 _ _ _ _ f HWB6.out (Nat.le_refl _) H1.out).mono ?_
    rintro e w7 ⟨vl6, vf7, rfl, hol, hof, hb7⟩
    have HX7 := Lib.hid (HX6.out.ext hb7)
    have HW7 : Hid (Below w.heap.size w w7) := Lib.hid (HW6.out.trans (hb7.mono HW6.out.size))
    have HOL7 := Lib.hid (hol.mono HW6.out.size)
    have HOF7 := Lib.hid (hof.mono HW6.out.size)
    clear hb7 hof hol z6 r6
    obtain ⟨z7, r7⟩ := HX7.out
    go_wp2_with fail
    refine (bproduct_any w7.heap.size w7 _ _ _ f (lastL f f.lots.length) ((HF.out.below HW7.out hB).mono (by have := HW7.out.size; omega)) HOL7.out.isInts (Nat.le_refl _) H1.out (lastL_mem f _)).mono ?_
    rintro e w8 ⟨rfl, hb8⟩
    have HX8 := Lib.hid (HX7.out.ext hb8)
    have HW8 : Hid (Below w.heap.size w w8) := Lib.hid (HW7.out.trans (hb8.mono HW7.out.size))
    have HOL8 := Lib.hid (HOL7.out.below hb8)
    have HOF8 := Lib.hid (HOF7.out.below hb8)
    clear hb8 z7 r7
    obtain ⟨z8, r8⟩ := HX8.out
    go_wp2_with fail
    refine (bproduct_any w8.heap.size w8 _ _ _ f (firstL f f.lots.length) ((HF.out.below HW8.out hB).mono (by have := HW8.out.size; omega)) HOF8.out.isInts (Nat.le_refl _) H1.out (firstL_mem f _)).mono ?_
    rintro e w9 ⟨rfl, hb9⟩
    have HW9 : Hid (Below w.heap.size w w9) := Lib.hid (HW8.out.trans (hb9.mono HW8.out.size))
    have HOL9 := Lib.hid (HOL8.out.below hb9)
    have HOF9 := Lib.hid (HOF8.out.below hb9)
    clear hb9 z8 r8
    obtain ⟨pl, hpl⟩ : ∃ x, prodR f (lastL f f.lots.length) = x := ⟨_, rfl⟩
    obtain ⟨pf, hpf⟩ : ∃ x, prodR f (firstL f f.lots.length) = x := ⟨_, rfl⟩
    obtain ⟨bl, hbl⟩ : ∃ x, prodB f (lastL f f.lots.length) = x := ⟨_, rfl⟩
    obtain ⟨bf, hbf⟩ : ∃ x, prodB f (firstL f f.lots.length) = x := ⟨_, rfl⟩
    rw [hpl, hpf] at HRR HLR
    rw [hbl, hbf] at HOK
    rw [hpl, hpf, hbl, hbf]
    clear hpl hpf hbl hbf
    cases bl
    · have HE : Hid (ue = 2) := Lib.hid (by rw [HE1.out, HOK.out]; rfl)
      have HR : Hid (ur = 0) := Lib.hid (by rw [HRR.out, HE.out]; rfl)
      have HL : Hid (ul = []) := Lib.hid (by rw [HLR.out, HE.out]; rfl)
      go_wp2
      go_ret3
      exact ⟨_, by rw [HE.out, HR.out]; rfl, by rw [HL.out]; exact OwnInts.nil _ _, HW9.out⟩
    · cases bf
      · have HE : Hid (ue = 2) := Lib.hid (by rw [HE1.out, HOK.out]; rfl)
        have HR : Hid (ur = 0) := Lib.hid (by rw [HRR.out, HE.out]; rfl)
        have HL : Hid (ul = []) := Lib.hid (by rw [HLR.out, HE.out]; rfl)
        go_wp2
        go_ret3
        exact ⟨_, by rw [HE.out, HR.out]; rfl, by rw [HL.out]; exact OwnInts.nil _ _, HW9.out⟩
      · have HE : Hid (ue = 0) := Lib.hid (by rw [HE1.out, HOK.out]; rfl)
        by_cases hle : pf ≤ pl
        · have hle' : decide (pf ≤ pl) = true := decide_eq_true hle
          have HR : Hid (ur = pl) := Lib.hid (by rw [HRR.out, HE.out, if_pos rfl, if_pos hle])
          have HL : Hid (ul = lastL f f.lots.length) := Lib.hid (by rw [HLR.out, HE.out, if_pos rfl, if_pos hle])
          go_wp2
          go_ret3
          exact ⟨_, by rw [HE.out, HR.out]; rfl, by rw [HL.out]; exact HOL9.out, HW9.out⟩
        · have hle' : decide (pf ≤ pl) = false := decide_eq_false hle
          have HR : Hid (ur = pf) := Lib.hid (by rw [HRR.out, HE.out, if_pos rfl, if_neg hle])
          have HL : Hid (ul = firstL f f.lots.length) := Lib.hid (by rw [HLR.out, HE.out, if_pos rfl, if_neg hle])
          go_wp2
          go_ret3
          exact ⟨_, by rw [HE.out, HR.out]; rfl, by rw [HL.out]; exact HOF9.out, HW9.out⟩
  · have HE : Hid (ue = checkE f) := Lib.hid (by rw [HER.out, if_pos h1])
    have HR : Hid (ur = 0) := Lib.hid (by rw [HRR.out, HE.out, if_neg h1])
    have HL : Hid (ul = []) := Lib.hid (by rw [HLR.out, HE.out, if_neg h1])
    have h1' : (checkE f != 0) = true := by simpa using h1
    clear h1
    go_wp2
    go_ret3
    exact ⟨_, by rw [HE.out, HR.out]; rfl, by rw [HL.out]; exact OwnInts.nil _ _, HW5.out⟩

end Go.Proofs.Ytndcbnnbgedgcaa

/-
  The walk of bounds.Check.
-/
set_option linter.unusedVariables false
set_option linter.unusedSimpArgs false
namespace Go.Proofs.Ytndcbnnbgedgcaa
open Go.RowKit

/-- do the numbers of a list become greater? -/
def incTo (l : List Int) : Nat → Bool
  | 0 => true
  | j + 1 => incTo l j && decide (nth l j < nth l (j + 1))
theorem incTo_false {l : List Int} {j m : Nat} (h : incTo l j = false) (hm : j ≤ m) : incTo l m = false := by
  induction hm with
  | refl => exact h
  | step _ ih => simp [incTo, ih]
def incB (l : List Int) : Bool := incTo l (l.length - 1)
def withinB (l side : List Int) : Bool := !anyB l (fun k => !hasB side k)
theorem withinB_mem {l side : List Int} (h : withinB l side = true) : ∀ x ∈ l, x ∈ side := by
  intro x hx
  unfold withinB anyB at h
  simp only [Bool.not_eq_true', List.any_eq_false] at h
  have := h x hx
  simp at this
  exact hasB_iff.1 this
def bcheckB (f : Flow) (n : Int) (l : List Int) : Bool := incB l && ((withinB l (lastL f f.lots.length) || withinB l (firstL f f.lots.length)) && (prodB f l && (prodR f l == n)))
def bcheckR (f : Flow) (n : Int) (l : List Int) : Bool := decide (checkE f = 0) && bcheckB f n l

theorem notin_any (B : Nat) (w : World) (v : Value) (zs : List Int) (x : Int) (c : Nat) (hv : IsInts B w v zs) (hc : w.cell? ⟨c, 0, none⟩ = some v) :
    Calls Try.prog 98 #[.int .i64 x, .pointer (some ⟨c, 0, none⟩)] w fun e w' => e = .returned (.bool (!hasB zs x)) ∧ w' = w := by
  have HC := Lib.hid (scontains_any B w v zs x hv)
  obtain ⟨b, off, cap, ⟨a, rfl, _⟩, _⟩ := hv
  go_enter Try.func98, Try.ntmps98
  go_wp2_with (go_at_call 52; refine HC.out.mono ?_; rintro e w5 ⟨rfl, rfl⟩)
  go_ret
  exact ⟨rfl, rfl⟩
theorem notin_ok (B : Nat) (w : World) (v : Value) (zs : List Int) (c : Nat) (hv : IsInts B w v zs) (hB : B ≤ w.heap.size) (hc : Cell1 w c v) :
    OkFn2 Try.prog 98 #[] #[.pointer (some ⟨c, 0, none⟩)] w (fun _ => True) (fun n => !hasB zs n) := by
  refine ⟨fun args W => by simp [go_sem], fun W x hW _ => ?_⟩
  refine (notin_any B W v zs x c (hv.below hW hB) (hc.ext hW).cell).mono ?_
  rintro e w' ⟨rfl, rfl⟩
  exact ⟨rfl, Below.refl _ _⟩

set_option maxHeartbeats 4000000 in
set_option maxRecDepth 100000 in
/-- bounds.Check -/
theorem bcheck_any (B : Nat) (w : World) (vs vl vx : Value) (f : Flow) (n : Int) (l : List Int) (hf : IsFlow B w vs vl f) (hx : IsInts B w vx l) (hB : B ≤ w.heap.size) (hl9 : l.length ≤ 1000) :
    Calls Try.prog 84 #[.agg #[vs, vl], .int .i64 n, vx] w fun e w' => e = .returned (.tuple #[.bool (bcheckR f n l), .int .i64 (checkE f)]) ∧ Below w.heap.size w w' := by
  have HF := Lib.hid hf
  have HI := Lib.hid hx
  obtain ⟨rfl, ⟨hs1, hs2⟩, hl⟩ := hf
  obtain ⟨b, off, cap, ⟨a, rfl, hcap, hmax, ha⟩, hlen, hc⟩ := hl
  obtain ⟨b1, off1, cap1, ⟨a1, rfl, hcap1, hmax1, ha1⟩, hlen1, hz1, hc1⟩ := hx
  have HC1 := Lib.hid hc1
  have HA1 := Lib.hid ha1
  clear hc ha hc1 ha1 hz1
  have HCK := Lib.hid (fun o => fcheck_any B (w.alloc o) _ _ f (HF.out.below (box_below hB o) (Nat.le_refl _)) (by simp; omega))
  obtain ⟨R, hR⟩ : ∃ x, bcheckR f n l = x := ⟨_, rfl⟩
  have HR := Lib.hid hR
  rw [hR]
  clear hR
  go_enter Try.func84, Try.ntmps84
  go_wp2_with fail
  refine (HCK.out _).mono ?_
  rintro e w5 ⟨rfl, hb5⟩
  have HX5 := Lib.hid ((Box.new w #[.int .i64 f.senders, .slice a f.lots.length cap] 24).ext hb5)
  have HW5 : Hid (Below w.heap.size w w5) := Lib.hid ((box_below (Nat.le_refl _) _).trans (hb5.mono (by simp)))
  clear hb5
  by_cases h1 : checkE f = 0
  · have h1' : (checkE f != 0) = false := by simpa using h1
    have H1 := Lib.hid h1
    have HR1 : Hid (R = bcheckB f n l) := Lib.hid (by rw [← HR.out]; unfold bcheckR; rw [decide_eq_true h1]; rfl)
    clear h1
    go_wp2
    go_loopw [8] (fun vi wr => ∃ j : Nat, (j + 1 ≤ l.length ∨ j = 0) ∧ vi = .int .i64 ((j : Int) + 1) ∧ incTo l j = true ∧ Drew w5 wr) (fun vi _ => l.length - (intOf vi).toNat)
    case atStart => exact ⟨0, Or.inr rfl, rfl, rfl, Drew.refl _⟩
    case round =>
      obtain ⟨j, hj, rfl, hin, hd⟩ := hrel
      have HIN := Lib.hid hin
      have HD := Lib.hid hd
      clear hin hd
      by_cases hlt : j + 1 < l.length
      · obtain rfl : a1 = some ⟨b1, off1, none⟩ := by rcases HA1.out with ha | ha; exact ha; omega
        have hbb1 : b1 < w.heap.size := by have := (HC1.out j (by omega)).1; omega
        have c1 := (HD.out.cell _).trans ((HW5.out.cell (p := ⟨b1, off1 + j, none⟩) hbb1).trans (HC1.out j (by omega)).2)
        have c2 := (HD.out.cell _).trans ((HW5.out.cell (p := ⟨b1, off1 + (j + 1), none⟩) hbb1).trans (HC1.out (j + 1) hlt).2)
        have hw1 : IntKind.i64.wrap ((j : Int) + 1 - 1) = (j : Int) := by rw [IntWalk.i64_in _ (by omega)]; omega
        have g1 : (0 : Int) ≤ (j : Int) + 1 := by omega
        have g2 : ((j : Int) + 1).toNat = j + 1 := by omega
        have g3 : (j : Int) + 1 < (l.length : Int) := by omega
        have g4 : (j : Int) < (l.length : Int) := by omega
        have HST : Hid (incTo l (j + 1) = (incTo l j && decide (nth l j < nth l (j + 1)))) := Lib.hid rfl
        by_cases hge : nth l (j + 1) ≤ nth l j
        · have HN : Hid (R = false) := Lib.hid (by
            rw [HR1.out]; unfold bcheckB incB
            rw [incTo_false (j := j + 1) (by rw [HST.out, decide_eq_false (by omega)]; simp) (by omega)]; rfl)
          have HGE := Lib.hid hge
          clear hge
          go_wp2
          go_quiet (fail)
          go_wp2
          · go_ret2
            exact ⟨by rw [HN.out, H1.out]; rfl, HW5.out.trans ((HD.out.drewN _).below _)⟩
          · exfalso
            have := HGE.out
            omega
        · have h5 : decide (nth l (j + 1) ≤ nth l j) = false := decide_eq_false hge
          have HN : Hid (incTo l (j + 1) = true) := Lib.hid (by rw [HST.out, HIN.out, decide_eq_true (by omega)]; rfl)
          go_wp2
          go_quiet (fail)
          go_wp2
          go_roundw
          case rel => exact ⟨j + 1, Or.inl (by omega), by go_num, HN.out, HD.out.drewN _⟩
          case measure => simp [intOf]; omega
      · have HIC : Hid (R = ((withinB l (lastL f f.lots.length) || withinB l (firstL f f.lots.length)) && (prodB f l && (prodR f l == n)))) := Lib.hid (by
          rw [HR1.out]; unfold bcheckB incB
          rw [show l.length - 1 = j by omega, HIN.out]; rfl)
        have hlt' : decide ((j : Int) + 1 < (l.length : Int)) = false := decide_eq_false (by omega)
        have HWR : Hid (Below w.heap.size w wr) := Lib.hid (HW5.out.trans (HD.out.below _))
        have HXR := Lib.hid (HX5.out.below (HD.out.below _) HX5.out.1)
        obtain ⟨zr, rr⟩ := HXR.out
        go_wp2_with fail
        refine (weave_any B wr _ _ f (HF.out.below HWR.out hB) (by have := HWR.out.size; omega) H1.out).mono ?_
        rintro e w6 ⟨vo6, vw6, rfl, hwb, hb6⟩
        have HX6 := Lib.hid (HXR.out.ext hb6)
        have HW6 : Hid (Below w.heap.size w w6) := Lib.hid (HWR.out.trans (hb6.mono HWR.out.size))
        have HWB6 := Lib.hid hwb
        clear hb6 hwb zr rr
        go_wp2_with fail
        refine (sides_any w6.heap.size w6 _ _ _ _ f HWB6.out (Nat.le_refl _) H1.out).mono ?_
        rintro e w7 ⟨vl7, vf7, rfl, hol, hof, hb7⟩
        have HX7 := Lib.hid (HX6.out.ext hb7)
        have HW7 : Hid (Below w.heap.size w w7) := Lib.hid (HW6.out.trans (hb7.mono HW6.out.size))
        have HOL7 := Lib.hid hol.isInts
        have HOF7 := Lib.hid hof.isInts
        obtain ⟨al7, nl7, cl7, rfl⟩ := hol.form'
        obtain ⟨af7, nf7, cf7, rfl⟩ := hof.form'
        clear hb7 hof hol
        obtain ⟨LA, hLA⟩ : ∃ x, lastL f f.lots.length = x := ⟨_, rfl⟩
        obtain ⟨FI, hFI⟩ : ∃ x, firstL f f.lots.length = x := ⟨_, rfl⟩
        have HLM := Lib.hid (lastL_mem f f.lots.length)
        have HFM := Lib.hid (firstL_mem f f.lots.length)
        rw [hLA] at HIC HOL7 HLM
        rw [hFI] at HIC HOF7 HFM
        clear hLA hFI
        have HPR := Lib.hid (fun W (hW : Below w.heap.size w W) hin => bproduct_any B W _ _ _ f l (HF.out.below hW hB) (HI.out.below hW hB) (by have := hW.size; omega) H1.out hin)
        obtain ⟨pr, hpr⟩ : ∃ x, prodR f l = x := ⟨_, rfl⟩
        obtain ⟨pb, hpb⟩ : ∃ x, prodB f l = x := ⟨_, rfl⟩
        rw [hpr, hpb] at HIC
        simp only [hpr, hpb] at HPR
        clear hpr hpb
        have HBX : Hid (CellsN (w7.alloc (.cells #[.slice al7 nl7 cl7, .slice af7 nf7 cf7] 25)) w7.heap.size #[.slice al7 nl7 cl7, .slice af7 nf7 cf7]) := Lib.hid (CellsN.new _ _ _)
        have HW8 : Hid (Below w.heap.size w (w7.alloc (.cells #[.slice al7 nl7 cl7, .slice af7 nf7 cf7] 25))) := Lib.hid (HW7.out.alloc HW7.out.size _)
        have HB8 : Hid (Below w7.heap.size w7 (w7.alloc (.cells #[.slice al7 nl7 cl7, .slice af7 nf7 cf7] 25))) := Lib.hid (box_below' _ _)
        go_wp2
        go_loopw [46] (fun vi wr => ∃ k : Nat, k ≤ 2 ∧ vi = .int .i64 k ∧ (1 ≤ k → withinB l LA = false) ∧ (2 ≤ k → withinB l FI = false) ∧ CellsN wr w7.heap.size #[.slice al7 nl7 cl7, .slice af7 nf7 cf7] ∧ Below w7.heap.size w7 wr ∧ Below w.heap.size w wr) (fun vi _ => 2 - (intOf vi).toNat)
        case atStart => exact ⟨0, by omega, rfl, fun h => by omega, fun h => by omega, HBX.out, HB8.out, HW8.out⟩
        case round =>
          obtain ⟨k, hk, rfl, hk1, hk2, hbx, hb7, hbl⟩ := hrel
          have HK1 := Lib.hid hk1
          have HK2 := Lib.hid hk2
          have HBXR := Lib.hid hbx
          have HB7R := Lib.hid hb7
          have HBLR := Lib.hid hbl
          clear hk1 hk2 hbx hb7 hbl
          have key : ∀ (side : List Int) (vsd : Value) (asd : Option Addr) (nsd csd : Nat), vsd = .slice asd nsd csd → IsInts w7.heap.size w7 vsd side → True := fun _ _ _ _ _ _ _ => trivial
          clear key
          have hkk : k = 0 ∨ k = 1 ∨ k = 2 := by omega
          rcases hkk with rfl | rfl | rfl
          · have d0 := HBXR.out.cell 0
            simp at d0
            have HCF := Lib.hid (containsf_any B (wr.alloc (.cells #[.slice al7 nl7 cl7] 25)) (.slice a1 l.length cap1) l 98 #[] #[.pointer (some ⟨wr.heap.size, 0, none⟩)] (fun _ => True) (fun x => !hasB LA x) (HI.out.below (HBLR.out.alloc HBLR.out.size _) hB) (by have := HBLR.out.size; simp; omega)
              (notin_ok w7.heap.size _ (.slice al7 nl7 cl7) LA wr.heap.size (HOL7.out.below (HB7R.out.alloc HB7R.out.size _) (Nat.le_refl _)) (by have := HB7R.out.size; simp; omega) (Cell1.new _ _ _)) (fun _ _ => trivial))
            obtain ⟨anyv, hany⟩ : ∃ x, anyB l (fun x => !hasB LA x) = x := ⟨_, rfl⟩
            have HWI : Hid (withinB l LA = !anyv) := Lib.hid (by unfold withinB; rw [hany])
            rw [hany] at HCF
            clear hany
            have hBLA := HBLR.out.alloc HBLR.out.size (.cells #[.slice al7 nl7 cl7] 25)
            cases anyv
            · have HN : Hid (R = (pb && (pr == n))) := Lib.hid (by rw [HIC.out, HWI.out]; simp)
              have HIR := Lib.hid (fun x hx => HLM.out x (withinB_mem (by rw [HWI.out]; rfl) x hx))
              have HB7A := HB7R.out.alloc HB7R.out.size (.cells #[.slice al7 nl7 cl7] 25)
              have HXX := Lib.hid (HX7.out.below HB7A HX7.out.1)
              have HBLX := Lib.hid hBLA
              clear HB7A hBLA
              cases pb
              all_goals
               go_wp2_with (first
                 | (go_at_call 53; refine HCF.out.mono ?_; rintro e w8 ⟨rfl, hb8⟩; have HW8' : Hid (Below w.heap.size w w8) := Lib.hid (HBLX.out.trans (hb8.mono (by have := HBLR.out.size; simp; omega))); have HX8 := Lib.hid (HXX.out.ext hb8); obtain ⟨z8, r8⟩ := HX8.out; clear hb8)
                 | (go_at_call 63; refine (HPR.out _ HW8'.out HIR.out).mono ?_; rintro e w9 ⟨rfl, hb9⟩; have HW9 : Hid (Below w.heap.size w w9) := Lib.hid (HW8'.out.trans (hb9.mono HW8'.out.size)); clear hb9 z8 r8))
               go_ret2
               exact ⟨by rw [HN.out, H1.out]; rfl, HW9.out⟩
            · have HN : Hid (withinB l LA = false) := Lib.hid (by rw [HWI.out]; rfl)
              have HBLX := Lib.hid hBLA
              clear hBLA
              go_wp2_with (go_at_call 53; refine HCF.out.mono ?_; rintro e w8 ⟨rfl, hb8⟩; have HB8' := Lib.hid hb8; clear hb8)
              go_roundw
              case rel => exact ⟨1, by omega, by go_num, fun _ => HN.out, fun h => by omega, (HBXR.out.alloc _).ext HB8'.out, (HB7R.out.alloc HB7R.out.size _).trans (HB8'.out.mono (by have := HB7R.out.size; simp; omega)), HBLX.out.trans (HB8'.out.mono (by have := HBLR.out.size; simp; omega))⟩
              case measure => simp [intOf]
          · have d1 := HBXR.out.cell 1
            simp at d1
            have HCF := Lib.hid (containsf_any B (wr.alloc (.cells #[.slice af7 nf7 cf7] 25)) (.slice a1 l.length cap1) l 98 #[] #[.pointer (some ⟨wr.heap.size, 0, none⟩)] (fun _ => True) (fun x => !hasB FI x) (HI.out.below (HBLR.out.alloc HBLR.out.size _) hB) (by have := HBLR.out.size; simp; omega)
              (notin_ok w7.heap.size _ (.slice af7 nf7 cf7) FI wr.heap.size (HOF7.out.below (HB7R.out.alloc HB7R.out.size _) (Nat.le_refl _)) (by have := HB7R.out.size; simp; omega) (Cell1.new _ _ _)) (fun _ _ => trivial))
            obtain ⟨anyv, hany⟩ : ∃ x, anyB l (fun x => !hasB FI x) = x := ⟨_, rfl⟩
            have HWI : Hid (withinB l FI = !anyv) := Lib.hid (by unfold withinB; rw [hany])
            rw [hany] at HCF
            clear hany
            have HLF := Lib.hid (HK1.out (Nat.le_refl _))
            have hBLA := HBLR.out.alloc HBLR.out.size (.cells #[.slice af7 nf7 cf7] 25)
            cases anyv
            · have HN : Hid (R = (pb && (pr == n))) := Lib.hid (by rw [HIC.out, HWI.out]; simp)
              have HIR := Lib.hid (fun x hx => HFM.out x (withinB_mem (by rw [HWI.out]; rfl) x hx))
              have HB7A := HB7R.out.alloc HB7R.out.size (.cells #[.slice af7 nf7 cf7] 25)
              have HXX := Lib.hid (HX7.out.below HB7A HX7.out.1)
              have HBLX := Lib.hid hBLA
              clear HB7A hBLA
              cases pb
              all_goals
               go_wp2_with (first
                 | (go_at_call 53; refine HCF.out.mono ?_; rintro e w8 ⟨rfl, hb8⟩; have HW8' : Hid (Below w.heap.size w w8) := Lib.hid (HBLX.out.trans (hb8.mono (by have := HBLR.out.size; simp; omega))); have HX8 := Lib.hid (HXX.out.ext hb8); obtain ⟨z8, r8⟩ := HX8.out; clear hb8)
                 | (go_at_call 63; refine (HPR.out _ HW8'.out HIR.out).mono ?_; rintro e w9 ⟨rfl, hb9⟩; have HW9 : Hid (Below w.heap.size w w9) := Lib.hid (HW8'.out.trans (hb9.mono HW8'.out.size)); clear hb9 z8 r8))
               go_ret2
               exact ⟨by rw [HN.out, H1.out]; rfl, HW9.out⟩
            · have HN : Hid (withinB l FI = false) := Lib.hid (by rw [HWI.out]; rfl)
              have HBLX := Lib.hid hBLA
              clear hBLA
              go_wp2_with (go_at_call 53; refine HCF.out.mono ?_; rintro e w8 ⟨rfl, hb8⟩; have HB8' := Lib.hid hb8; clear hb8)
              go_roundw
              case rel => exact ⟨2, by omega, by go_num, fun _ => HLF.out, fun _ => HN.out, (HBXR.out.alloc _).ext HB8'.out, (HB7R.out.alloc HB7R.out.size _).trans (HB8'.out.mono (by have := HB7R.out.size; simp; omega)), HBLX.out.trans (HB8'.out.mono (by have := HBLR.out.size; simp; omega))⟩
              case measure => simp [intOf]
          · have HN : Hid (R = false) := Lib.hid (by rw [HIC.out, HK1.out (by omega), HK2.out (Nat.le_refl _)]; rfl)
            go_wp2
            go_ret2
            exact ⟨by rw [HN.out, H1.out]; rfl, HBLR.out⟩
  · have HRF : Hid (R = false) := Lib.hid (by rw [← HR.out]; unfold bcheckR; rw [decide_eq_false h1]; rfl)
    have h1' : (checkE f != 0) = true := by simpa using h1
    clear h1
    go_wp2
    go_ret2
    exact ⟨by rw [HRF.out]; rfl, HW5.out⟩

end Go.Proofs.Ytndcbnnbgedgcaa
