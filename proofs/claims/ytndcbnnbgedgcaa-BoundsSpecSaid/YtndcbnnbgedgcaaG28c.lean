/-
  Texts that stood one after the other, joined by a program (each part's own remark stands at its head below).
-/
import Derived.Test.YtndcbnnbgedgcaaG28a
import Derived.Test.YtndcbnnbgedgcaaApp
import Derived.Test.YtndcbnnbgedgcaaP31o
import Derived.Test.YtndcbnnbgedgcaaG28b
import Derived.Test.YtndcbnnbgedgcaaRangeOps
import Derived.Test.YtndcbnnbgedgcaaF25e
import Derived.BigRegionIn
/-
  The walk of bounds.weave.
-/
set_option linter.unusedVariables false
set_option linter.unusedSimpArgs false
namespace Go.Proofs.Ytndcbnnbgedgcaa
open Go.RowKit

def outsTo (f : Flow) : Nat → List Int
  | 0 => []
  | k + 1 => outsTo f k ++ [beforeI f k]
theorem outsTo_len (f : Flow) : ∀ k, (outsTo f k).length = k
  | 0 => rfl
  | k + 1 => by simp [outsTo, outsTo_len f k]
theorem outsTo_at (f : Flow) {j : Nat} : ∀ {k : Nat}, j < k → nth (outsTo f k) j = beforeI f j
  | 0, h => by omega
  | k + 1, h => by
    unfold nth
    simp only [outsTo]
    rw [List.getD_eq_getElem?_getD]
    by_cases e : j < k
    · rw [List.getElem?_append_left (by rw [outsTo_len]; exact e), ← List.getD_eq_getElem?_getD]
      exact outsTo_at f e
    · have : j = k := by omega
      subst this
      rw [List.getElem?_append_right (by rw [outsTo_len]; exact Nat.le_refl _)]
      simp [outsTo_len]
def locV (p : Nat × Nat) : Value := .agg #[.int .i64 (p.1 : Int), .int .i64 (p.2 : Int)]
/-- block bm is a map that says where spots go -/
def WhereMap (w : World) (bm : Nat) (g : Int → Option (Nat × Nat)) : Prop := ∃ al, IntMap w bm al ∧ ∀ x, alook al x = (g x).map locV
theorem WhereMap.lt {w : World} {bm : Nat} {g : Int → Option (Nat × Nat)} (h : WhereMap w bm g) : bm < w.heap.size := by obtain ⟨al, h, _⟩ := h; exact h.lt
theorem WhereMap.below {B : Nat} {w w' : World} {bm : Nat} {g : Int → Option (Nat × Nat)} (h : WhereMap w bm g) (hb : Below B w w') (hB : bm < B) : WhereMap w' bm g := by
  obtain ⟨al, h, h2⟩ := h; exact ⟨al, h.below hb hB, h2⟩
theorem WhereMap.ext {w w' : World} {bm : Nat} {g : Int → Option (Nat × Nat)} (h : WhereMap w bm g) (hb : Below w.heap.size w w') : WhereMap w' bm g := h.below hb h.lt
theorem WhereMap.grown {w w' : World} {bm : Nat} {g : Int → Option (Nat × Nat)} {row : Option Nat} (h : WhereMap w bm g) (hg : w.grownBy w' row) (hne : some bm ≠ row) : WhereMap w' bm g := by
  obtain ⟨al, ⟨es, c, h1, h2⟩, h3⟩ := h
  exact ⟨al, ⟨es, c, (hg.block bm (Array.getElem?_eq_some_iff.1 h1).1 hne).trans h1, h2⟩, h3⟩
theorem WhereMap.made (w : World) (f : Flow) : WhereMap (w.alloc (.map #[] 0)) w.heap.size (fun x => locTo f x 0) := ⟨[], IntMap.made w, fun x => rfl⟩
/-- the first k lots, and i places of the next one -/
def locIn (f : Flow) (k i : Nat) (x : Int) : Option (Nat × Nat) := if hasB ((lotAt f.lots k).ins.take i) x then some (k, (lotAt f.lots k).ins.idxOf x) else locTo f x k
theorem locIn_zero (f : Flow) (k : Nat) : locIn f k 0 = fun x => locTo f x k := by
  funext x; unfold locIn; simp [hasB]
theorem locIn_all (f : Flow) (k : Nat) : locIn f k (lotAt f.lots k).ins.length = fun x => locTo f x (k + 1) := by
  funext x; unfold locIn; rw [List.take_of_length_le (Nat.le_refl _)]; rfl
theorem WhereMap.step {f : Flow} {k i : Nat} {al : AL} (hn : (lotAt f.lots k).ins.Nodup) (hi : i < (lotAt f.lots k).ins.length) (h3 : ∀ x, alook al x = (locIn f k i x).map locV) :
    ∀ x, alook (aset al (nth (lotAt f.lots k).ins i) (locV (k, i))) x = (locIn f k (i + 1) x).map locV := by
  intro x
  rw [alook_aset, h3 x]
  unfold locIn
  rw [hasB_take_succ hi]
  by_cases e : x = nth (lotAt f.lots k).ins i
  · subst e
    have hm : nth (lotAt f.lots k).ins i ∈ (lotAt f.lots k).ins := nth_mem hi
    have hx := nth_idx hm
    have : (lotAt f.lots k).ins.idxOf (nth (lotAt f.lots k).ins i) = i := nth_inj hn hx.1 hi hx.2
    rw [if_pos rfl, this]
    simp
  · rw [if_neg e]
    have e2 : (nth (lotAt f.lots k).ins i == x) = false := by simp; exact fun h => e h.symm
    rw [e2, Bool.or_false]

def IsWeb (B : Nat) (w : World) (vs vl vo vw : Value) (f : Flow) : Prop :=
  IsFlow B w vs vl f ∧ IsInts B w vo (outsTo f f.lots.length) ∧ ∃ bm, vw = .map (some bm) ∧ bm < B ∧ WhereMap w bm (fun x => locTo f x f.lots.length)
theorem IsWeb.below {B B' : Nat} {w w' : World} {vs vl vo vw : Value} {f : Flow} (h : IsWeb B w vs vl vo vw f) (hb : Below B' w w') (hB : B ≤ B') : IsWeb B w' vs vl vo vw f := by
  obtain ⟨h1, h2, bm, h3, h4, h5⟩ := h
  exact ⟨h1.below hb hB, h2.below hb hB, bm, h3, h4, h5.below hb (by omega)⟩
theorem IsWeb.mono {B B' : Nat} {w : World} {vs vl vo vw : Value} {f : Flow} (h : IsWeb B w vs vl vo vw f) (hB : B ≤ B') : IsWeb B' w vs vl vo vw f := by
  obtain ⟨h1, h2, bm, h3, h4, h5⟩ := h
  exact ⟨h1.mono hB, h2.mono hB, bm, h3, by omega, h5⟩

theorem row_ge {v v' : Value} {n m : Nat} (h : v'.ownBlock = v.ownBlock ∨ v'.ownBlock = some n) (hv : ∀ j, v.ownBlock = some j → m ≤ j) (hn : m ≤ n) : ∀ j, v'.ownBlock = some j → m ≤ j := by
  intro j hj
  rcases h with h | h
  · exact hv j (by rw [← h]; exact hj)
  · rw [h] at hj
    injection hj with hj
    omega
/-- what holds in weave's loops -/
def WeaveRel (w : World) (f : Flow) (va : Value) (n : Nat) (g : Int → Option (Nat × Nat)) (wr : World) : Prop :=
  ∃ vo, CellsN wr (w.heap.size + 1 + 1 + 1) #[.int .i64 f.senders, va, vo, .map (some (w.heap.size + 1 + 1))] ∧ CellsN wr (w.heap.size + 1) #[.int .i64 0, .slice none 0 0, .slice none 0 0, .map none] ∧
    WhereMap wr (w.heap.size + 1 + 1) g ∧ OwnInts (w.heap.size + 4) wr vo (outsTo f n) ∧ Below w.heap.size w wr

set_option maxHeartbeats 4000000 in
set_option maxRecDepth 100000 in
/-- bounds.weave -/
theorem weave_any (B : Nat) (w : World) (vs vl : Value) (f : Flow) (hf : IsFlow B w vs vl f) (hB : B ≤ w.heap.size) (h0 : checkE f = 0) :
    Calls Try.prog 61 #[.agg #[vs, vl]] w fun e w' => ∃ vo vw, e = .returned (.agg #[vs, vl, vo, vw]) ∧ IsWeb w'.heap.size w' vs vl vo vw f ∧ Below w.heap.size w w' := by
  have HF := Lib.hid hf
  have H0 := Lib.hid h0
  have hck := checkE_ok h0
  have HV := Lib.hid hck.2.2.2.2
  obtain ⟨hk1, hk2, hk3, hk4, _⟩ := hck
  clear h0 hk4
  obtain ⟨rfl, ⟨hs1, hs2⟩, hl⟩ := hf
  obtain ⟨b, off, cap, ⟨a, rfl, hcap, hmax, ha⟩, hlen, hc⟩ := hl
  have HC := Lib.hid hc
  have HA := Lib.hid ha
  clear hc ha
  have hmm := @run_makeMap Try.prog
  go_enter Try.func61, Try.ntmps61
  have HREL : Hid (WeaveRel w f (.slice a f.lots.length cap) 0 (fun x => locTo f x 0) ((((w.alloc (.cells #[.int .i64 f.senders, .slice a f.lots.length cap] 24)).alloc
      (.cells #[.int .i64 0, .slice none 0 0, .slice none 0 0, .map none] 81)).alloc (.map #[] 0)).alloc (.cells #[.int .i64 f.senders, .slice a f.lots.length cap, .slice none 0 0, .map (some (w.heap.size + 1 + 1))] 81))) := Lib.hid (by
    refine ⟨.slice none 0 0, ?_, ?_, ?_, OwnInts.nil _ _, ((((Below.refl _ w).alloc (Nat.le_refl _) _).alloc (by simp) _).alloc (by simp; omega) _).alloc (by simp; omega) _⟩
    · have h := CellsN.new (((w.alloc (.cells #[.int .i64 f.senders, .slice a f.lots.length cap] 24)).alloc (.cells #[.int .i64 0, .slice none 0 0, .slice none 0 0, .map none] 81)).alloc (.map #[] 0)) #[.int .i64 f.senders, .slice a f.lots.length cap, .slice none 0 0, .map (some (w.heap.size + 1 + 1))] 81
      simp only [World.size_alloc] at h
      exact h
    · have h := ((CellsN.new (w.alloc (.cells #[.int .i64 f.senders, .slice a f.lots.length cap] 24)) #[.int .i64 0, .slice none 0 0, .slice none 0 0, .map none] 81).alloc (.map #[] 0)).alloc (.cells #[.int .i64 f.senders, .slice a f.lots.length cap, .slice none 0 0, .map (some (w.heap.size + 1 + 1))] 81)
      simp only [World.size_alloc] at h
      exact h
    · have h := (WhereMap.made ((w.alloc (.cells #[.int .i64 f.senders, .slice a f.lots.length cap] 24)).alloc (.cells #[.int .i64 0, .slice none 0 0, .slice none 0 0, .map none] 81)) f).ext (box_below' _ (.cells #[.int .i64 f.senders, .slice a f.lots.length cap, .slice none 0 0, .map (some (w.heap.size + 1 + 1))] 81))
      simp only [World.size_alloc] at h
      exact h)
  go_wp2
  go_loopw [4, 17] (fun vn vi wr => ∃ k : Nat, k ≤ f.lots.length ∧ vi = .int .i64 k ∧ vn = .int .i64 (beforeI f k) ∧ WeaveRel w f (.slice a f.lots.length cap) k (fun x => locTo f x k) wr) (fun _ vi _ => f.lots.length - (intOf vi).toNat)
  case atStart => exact ⟨0, by omega, rfl, rfl, HREL.out⟩
  case round =>
    obtain ⟨k, hk, rfl, rfl, vo, hbw, hbr, hmp, hvo, hbl⟩ := hrel
    have HBW := Lib.hid hbw
    have HBR := Lib.hid hbr
    have HMP := Lib.hid hmp
    have HVO := Lib.hid hvo
    have HBL := Lib.hid hbl
    clear HREL hbw hbr hmp hvo hbl
    have hz := HBW.out.lt
    by_cases hlt : k < f.lots.length
    · obtain rfl : a = some ⟨b, off, none⟩ := by rcases HA.out with ha | ha; exact ha; omega
      obtain ⟨vi, vk, vp, hc1, hc2, hc3, hl1, rfl, hl3⟩ := HC.out k hlt
      obtain ⟨bp, op, cp, ⟨ap, rfl, _⟩, _⟩ := hl3
      obtain ⟨bi, oi, ci, ⟨ai, rfl, hci, hmi, hai⟩, hli, hzi, hcci⟩ := hl1
      have HCI := Lib.hid hcci
      have hbb : b < w.heap.size := by have := hc1.1; omega
      have e1 := (HBL.out.cell (p := ⟨b, off + k * 3, none⟩) hbb).trans hc1.2
      have e2 := (HBL.out.cell (p := ⟨b, off + k * 3 + 1, none⟩) hbb).trans hc2.2
      have e3 := (HBL.out.cell (p := ⟨b, off + k * 3 + 2, none⟩) hbb).trans hc3.2
      have hbbr : b < wr.heap.size := by have := HBL.out.size; omega
      have w2 := HBW.out.cell 2
      have w3 := HBW.out.cell 3
      have wf2 := HBW.out.free 2
      simp at w2 w3
      have hbf := before_bd H0.out (show k ≤ f.lots.length by omega)
      have hbf1 := before_bd H0.out (show k + 1 ≤ f.lots.length by omega)
      simp only [beforeI] at hbf1
      have HNB : Hid (beforeI f (k + 1) = beforeI f k + (lotAt f.lots k).ins.length) := Lib.hid rfl
      have HNO : Hid (outsTo f (k + 1) = outsTo f k ++ [beforeI f k]) := Lib.hid rfl
      have HOL := Lib.hid (outsTo_len f k)
      have HND := Lib.hid (lotB_facts (lotsB_lot HV.out hlt)).1
      have HLA := Lib.hid (locIn_all f k)
      obtain ⟨bv, hbv⟩ : ∃ x, beforeI f k = x := ⟨_, rfl⟩
      rw [hbv] at hbf hbf1 HNB HNO ⊢
      have hzr : w.heap.size + 1 + 1 + 1 < wr.heap.size := hz
      clear hc1 hc2 hc3 hcci hzi hbv
      go_wp2_with (at_builtin; refine append_intsA rfl (.tmp 23) (.tmp 25) rfl (B := w.heap.size + 4) (v := vo) (vx := .slice (some ⟨wr.heap.size + 1, 0, none⟩) 1 1) [bv] rfl ((HVO.out.alloc _).alloc _) rfl (src_one (by have h := (Cell1.new (wr.alloc (.cells #[.slice ai (lotAt f.lots k).ins.length ci, .bool (lotAt f.lots k).known, .slice ap (lotAt f.lots k).perm.length cp] 45)) (.int .i64 bv) 3).cell; rw [World.size_alloc] at h; exact h) rfl) (by unfold I64; simp; omega) (by rw [HOL.out]; simp; omega) (by simp; omega) ?_; intro v6 w6 ho6 hg6 hat6; obtain ⟨a6, n6, c6, rfl⟩ := ho6.form'; have HO6 := Lib.hid ho6; have HG6 := Lib.hid hg6; have HRW6 := Lib.hid (row_ge hat6 HVO.out.rows' (by simp; omega)); have HN6 : Hid (∀ j, j < w.heap.size + 4 → some j ≠ vo.ownBlock) := Lib.hid (fun j hj e => by have := HVO.out.rows' _ e.symm; omega); have hm6 := HBW.out.cell 2; have q1 := (((HBW.out.alloc _).alloc _).grown hg6 (HN6.out _ (by omega))).cell 2; have q2 := (((HBW.out.alloc _).alloc _).grown hg6 (HN6.out _ (by omega))).free 2; have q3 := (((CellsN.new wr _ _).alloc _).grown hg6 (fun e => by have := (HVO.out.1.lt _ e.symm).2; omega)).cell 0; simp at q1 q3; clear ho6 hg6 hat6 hm6)
      have HREL : Hid (WeaveRel w f (.slice (some ⟨b, off, none⟩) f.lots.length cap) (k + 1) (locIn f k 0) (w6.setCell ⟨w.heap.size + 1 + 1 + 1, 2, none⟩ (.slice a6 n6 c6))) := Lib.hid (by
        have hg := grown_setCell w6 ⟨w.heap.size + 1 + 1 + 1, 2, none⟩ (.slice a6 n6 c6)
        refine ⟨.slice a6 n6 c6, ?_, ?_, ?_, ?_, ?_⟩
        · have h := (((HBW.out.alloc (.cells #[.slice ai (lotAt f.lots k).ins.length ci, .bool (lotAt f.lots k).known, .slice ap (lotAt f.lots k).perm.length cp] 45)).alloc (.cells #[.int .i64 bv] 3)).grown HG6.out (HN6.out _ (by omega))).set 2 (.slice a6 n6 c6)
          simpa using h
        · exact (((HBR.out.alloc _).alloc _).grown HG6.out (HN6.out _ (by omega))).grown hg (by simp)
        · rw [locIn_zero]
          exact (((HMP.out.ext (box_below' _ _)).ext (box_below' _ _)).grown HG6.out (HN6.out _ (by omega))).grown hg (by simp)
        · rw [HNO.out]
          exact HO6.out.kept hg (Or.inr fun e => by have := HRW6.out (w.heap.size + 1 + 1 + 1) e; omega)
        · exact (((HBL.out.alloc HBL.out.size _).alloc (by have := HBL.out.size; simp; omega) _).grown HG6.out (by have := HBL.out.size; simp; omega) (fun j hj => by have := HVO.out.rows' j hj; omega)).setCell (by show w.heap.size ≤ w.heap.size + 1 + 1 + 1; omega) _)
      obtain ⟨w7, hw7⟩ : ∃ W, w6.setCell ⟨w.heap.size + 1 + 1 + 1, 2, none⟩ (.slice a6 n6 c6) = W := ⟨_, rfl⟩
      rw [hw7] at HREL ⊢
      obtain ⟨n, hn⟩ : ∃ x, (lotAt f.lots k).ins.length = x := ⟨_, rfl⟩
      rw [hn] at HNB HLA
      have HCN := Lib.hid hn
      have hnn : n = n := rfl
      clear hw7 q1 q2 q3 w2 w3 wf2 e1 e2 e3
      rw [hn]
      clear hn hnn
      go_loopw [36] (fun vi wr => ∃ i : Nat, i ≤ n ∧ vi = .int .i64 i ∧ WeaveRel w f (.slice (some ⟨b, off, none⟩) f.lots.length cap) (k + 1) (locIn f k i) wr) (fun vi _ => n - (intOf vi).toNat)
      case atStart => exact ⟨0, by omega, rfl, HREL.out⟩
      case round =>
        obtain ⟨i, hi, rfl, vo7, hbw, hbr, hmp, hvo, hbl⟩ := hrel
        have HBW := Lib.hid hbw
        have HBR := Lib.hid hbr
        have HVO := Lib.hid hvo
        have HBL := Lib.hid hbl
        obtain ⟨al, hal, hal2⟩ := hmp
        have HAL := Lib.hid hal
        have HAL2 := Lib.hid hal2
        clear HREL hbw hbr hvo hbl hal hal2
        by_cases hin : i < n
        · have hin' : i < (lotAt f.lots k).ins.length := by rw [HCN.out]; exact hin
          have w3 := HBW.out.cell 3
          simp at w3
          obtain rfl : ai = some ⟨bi, oi, none⟩ := by rcases hai with ha | ha; exact ha; omega
          have c4 := (HBL.out.cell (p := ⟨bi, oi + i, none⟩) (by have := (HCI.out i hin').1; show bi < _; omega)).trans (HCI.out i hin').2
          have HST := Lib.hid (WhereMap.step HND.out hin' HAL2.out)
          obtain ⟨x, hx⟩ : ∃ x, nth (lotAt f.lots k).ins i = x := ⟨_, rfl⟩
          rw [hx] at c4 HST
          clear hx
          go_wp2_with (at_mapUpdate; refine wpList_update_ints rfl (.tmp 42) (.tmp 43) (.tmp 46) rfl Try.underlying79 Try.underlying3 rfl HAL.out (x := x) (v := locV (k, i)) rfl rfl ?_; intro w8 hm8 hg8 hz8; have HM8 := Lib.hid hm8; have HG8 := Lib.hid hg8; clear hm8 hg8 hz8)
          go_roundw
          case rel =>
            refine ⟨i + 1, by omega, by go_num, vo7, HBW.out.grown HG8.out (by simp), HBR.out.grown HG8.out (by simp), ⟨_, HM8.out, HST.out⟩, HVO.out.kept HG8.out (Or.inr fun e => by have := HVO.out.rows' _ e; omega), HBL.out.grown HG8.out HBL.out.size (fun j hj => by simp at hj; omega)⟩
          case measure => simp [intOf]; omega
        · obtain rfl : i = n := by omega
          have HREL2 : Hid (WeaveRel w f (.slice (some ⟨b, off, none⟩) f.lots.length cap) (k + 1) (fun x => locTo f x (k + 1)) wr) := Lib.hid ⟨vo7, HBW.out, HBR.out, ⟨al, HAL.out, by rw [← HLA.out]; exact HAL2.out⟩, HVO.out, HBL.out⟩
          go_wp2
          go_roundw
          case rel => exact ⟨k + 1, by omega, by go_num, by rw [HNB.out], HREL2.out⟩
          case measure => simp [intOf]; omega
    · obtain rfl : k = f.lots.length := by omega
      have w0 := HBW.out.cell 0
      have w1 := HBW.out.cell 1
      have w2 := HBW.out.cell 2
      have w3 := HBW.out.cell 3
      have r0 := HBR.out.cell 0
      have r1 := HBR.out.cell 1
      have r2 := HBR.out.cell 2
      have r3 := HBR.out.cell 3
      have g0 := HBR.out.free 0
      have g1 := HBR.out.free 1
      have g2 := HBR.out.free 2
      have g3 := HBR.out.free 3
      simp at w0 w1 w2 w3 r0 r1 r2 r3
      obtain ⟨a6, n6, c6, rfl⟩ := HVO.out.form'
      go_wp2
      have hN := (((HBR.out.set 0 (.int .i64 f.senders)).set 1 (.slice a f.lots.length cap)).set 2 (.slice a6 n6 c6)).set 3 (.map (some (w.heap.size + 1 + 1)))
      have n0 := hN.cell 0
      have n1 := hN.cell 1
      have n2 := hN.cell 2
      have n3 := hN.cell 3
      simp at n0 n1 n2 n3
      have hg0 := grown_trans (grown_trans (grown_trans (grown_setCell wr ⟨w.heap.size + 1, 0, none⟩ (.int .i64 f.senders)) (grown_setCell _ ⟨w.heap.size + 1, 1, none⟩ (.slice a f.lots.length cap))) (grown_setCell _ ⟨w.heap.size + 1, 2, none⟩ (.slice a6 n6 c6))) (grown_setCell _ ⟨w.heap.size + 1, 3, none⟩ (.map (some (w.heap.size + 1 + 1))))
      have hbN : Below w.heap.size w _ := HBL.out.grown hg0 HBL.out.size (fun j hj => by simp at hj; omega)
      refine bodyPost_ret (v := .agg #[.int .i64 f.senders, .slice a f.lots.length cap, .slice a6 n6 c6, .map (some (w.heap.size + 1 + 1))]) (by simp [results, Try.results61, go_sem, n0, n1, n2, n3]) rfl ⟨.slice a6 n6 c6, .map (some (w.heap.size + 1 + 1)), rfl, ?_, hbN⟩
      have hm := HMP.out.grown hg0 (by simp)
      exact ⟨(HF.out.below hbN hB).mono (by have := hbN.size; omega), (HVO.out.kept hg0 (Or.inr fun e => by have := HVO.out.rows' (w.heap.size + 1) e; omega)).isInts, _, rfl, hm.lt, hm⟩

end Go.Proofs.Ytndcbnnbgedgcaa

/-
  The walks of bounds.web.lots: the iterator over the lots to which a letter comes.
-/
set_option linter.unusedVariables false
set_option linter.unusedSimpArgs false
namespace Go.Proofs.Ytndcbnnbgedgcaa
open Go.RowKit
attribute [local go_sem] Oper.semAt_some

theorem wlots_any (w : World) (B : Nat) (vs vl vo vw : Value) (f : Flow) (s : Int) (hw : IsWeb B w vs vl vo vw f) :
    Calls Try.prog 99 #[.agg #[vs, vl, vo, vw], .int .i64 s] w fun e w' => e = .returned (.func (.func 101) #[] #[.pointer (some ⟨w.heap.size, 0, none⟩), .pointer (some ⟨w.heap.size + 1, 0, none⟩)]) ∧
      w' = (w.alloc (.cells #[vs, vl, vo, vw] 81)).alloc (.cells #[.int .i64 s] 3) := by
  obtain ⟨⟨rfl, _, b, off, cap, ⟨a, rfl, _⟩, _⟩, ⟨b', off', cap', ⟨a', rfl, _⟩, _⟩, bm, rfl, _⟩ := hw
  have hmf := @run_makeFunc_any' Try.prog
  go_enter Try.func99, Try.ntmps99
  go_wp2
  go_ret
  exact ⟨rfl, rfl⟩

theorem Turned.drew {X : Nat → Prop} {a b : World} (h : Turned X a b) : Turned X a b.drew := ⟨h.os, h.tape, h.output, h.size, h.block⟩
/-- the lot into which a spot goes -/
def rnk (f : Flow) (x : Int) : Nat := match locTo f x f.lots.length with | none => f.lots.length | some p => p.1
def cellI (w : World) (b : Nat) : Int := match w.cell? ⟨b, 0, none⟩ with | some (.int _ n) => n | _ => 0
theorem cellI_of {w : World} {b : Nat} {n : Int} (h : Cell1 w b (.int .i64 n)) : cellI w b = n := by unfold cellI; rw [h.cell]
theorem rnk_le (f : Flow) (x : Int) : rnk f x ≤ f.lots.length := by
  unfold rnk
  cases h : locTo f x f.lots.length with
  | none => exact Nat.le_refl _
  | some p => obtain ⟨j, i⟩ := p; have := locTo_in h; simp only; omega
theorem rnk_next {f : Flow} (hv : lotsB f f.lots.length = true) {s : Int} {j : Nat} (hj : j < f.lots.length) : j < rnk f (spotAt f s (j + 1)) := by
  unfold rnk
  cases h : locTo f (spotAt f s (j + 1)) f.lots.length with
  | none => exact hj
  | some p =>
    obtain ⟨j', i'⟩ := p
    have h1 := locTo_in h
    rcases Nat.lt_or_ge j j' with h2 | h2
    · exact h2
    · have := spotAt_not hv s (j + 1) (by omega) j' (by omega)
      rw [h1.2.1] at this
      cases this
theorem vis_at {f : Flow} {s : Int} {k m j : Nat} (hk : k ≤ m) (h : visTo f s k = visTo f s j ++ [k - 1]) : visAt (visTo f s m) (visTo f s j).length = k - 1 ∧ (visTo f s j).length < (visTo f s m).length := by
  obtain ⟨t, ht⟩ := visTo_prefix f s hk
  rw [h] at ht
  rw [ht]
  constructor
  · unfold visAt; simp
  · simp

set_option maxHeartbeats 8000000 in
set_option maxRecDepth 100000 in
/-- the iterator of web.lots -/
theorem wlots_iter (B bw bs : Nat) (w : World) (vs vl vo vw : Value) (f : Flow) (s : Int) (hw : IsWeb B w vs vl vo vw f) (h1 : B ≤ bw) (h2 : bw < bs) (hxw : Box w bw #[vs, vl, vo, vw]) (hxs : Cell1 w bs (.int .i64 s)) (h0 : checkE f = 0) :
    IterM Try.prog (fun k => k = bs) 101 #[.pointer (some ⟨bw, 0, none⟩), .pointer (some ⟨bs, 0, none⟩)] (visTo f s f.lots.length).length (fun i _ args => args = #[.int .i64 ((visAt (visTo f s f.lots.length) i : Nat) : Int)]) (fun k => k < B ∨ k = bw ∨ k = bs) w := by
  intro l ob W J Jx hwW hob hJ hJx hup hst hY
  have hbs := hxs.lt
  have hBw : Below B w W := hwW.below (by omega) (fun k hk hn => hn (Or.inl hk))
  have hsz := hwW.size
  have HX := Lib.hid (hxw.turned hwW (fun h => h (Or.inr (Or.inl rfl))))
  have HS := Lib.hid (hxs.turned hwW (fun h => h (Or.inr (Or.inr rfl))))
  have HWB := Lib.hid (hw.below hBw (Nat.le_refl _))
  have HOB := Lib.hid hob
  have HST := Lib.hid hst
  have HY := Lib.hid hY
  have HJ := Lib.hid hJ
  have HUP := Lib.hid hup
  have hck := checkE_ok h0
  have HV := Lib.hid hck.2.2.2.2
  have HBF := Lib.hid (fun k (hk : k ≤ f.lots.length) => before_bd h0 hk)
  obtain ⟨hk1, hk2, hk3, hk4, _⟩ := hck
  clear hwW hBw hob hJ hJx hup hst hY h0 hk4 hw hxw hxs
  obtain ⟨⟨rfl, ⟨hs1, hs2⟩, b, off, cap, ⟨a, rfl, hcap, hmax, ha⟩, hlen, hc⟩, ⟨b', off', cap', ⟨a', rfl, hcap', hmax', ha'⟩, hlen', hz', hc'⟩, bm, rfl, hbm, al, hal, hal2⟩ := HWB.out
  have HC := Lib.hid hc
  have HC' := Lib.hid hc'
  have HA := Lib.hid ha
  have HA' := Lib.hid ha'
  have HAL := Lib.hid hal
  have HAL2 := Lib.hid hal2
  have HOLN := Lib.hid (outsTo_len f f.lots.length)
  clear hc hc' ha ha' hz' hal hal2
  refine callsIn_of_wp Try.func101 rfl trivial ?_ rfl
  simp only [Try.ntmps101, List.size_toArray, List.length_cons, List.length_nil, Nat.reduceAdd, Nat.reduceSub, Array.replicate_succ, Array.replicate_zero, List.push_toArray, List.append_toArray, List.nil_append, List.cons_append]
  gi_wp2
  gi_loopw [] (fun W2 => ∃ K s' : Nat, K ≤ f.lots.length ∧ Cell1 W2 bs (.int .i64 (spotAt f s K)) ∧ unkTo f s K < 0 ∧ W.heap.size ≤ s' ∧ s' ≤ W2.heap.size ∧ J s' (visTo f s K).length W2 ∧ Turned (fun k => ob k ∨ W.heap.size ≤ k ∨ k = bs) W W2) (fun W2 => f.lots.length + 1 - rnk f (cellI W2 bs))
  case atStart => exact ⟨0, W.heap.size, by omega, HS.out, by simp [unkTo], Nat.le_refl _, Nat.le_refl _, HST.out _ _ (Nat.le_refl _) (Nat.le_refl _) (Below.refl _ _), Turned.refl _ _⟩
  case round =>
    obtain ⟨K, s', hK, hcs, hu, hs', hs'2, hj, ht⟩ := hrel
    have HCS := Lib.hid hcs
    have HU := Lib.hid hu
    have HJ3 := Lib.hid hj
    have HT := Lib.hid ht
    have HBB : Hid (Below B W wr) := Lib.hid (ht.below (by omega) (fun k hk h => by rcases h with h | h | h; have := (HOB.out k h).2; omega; omega; omega))
    have HXR := Lib.hid (HX.out.turned ht (fun h => by rcases h with h | h | h; have := (HOB.out _ h).2; omega; omega; omega))
    have HALR := Lib.hid (HAL.out.below HBB.out hbm)
    have hszr := ht.size
    obtain ⟨zr, rr⟩ := HXR.out
    have b0 := rr 0
    have b1 := rr 1
    have b2 := rr 2
    have b3 := rr 3
    simp at b0 b1 b2 b3
    have cs0 := hcs.cell
    clear hcs hu hj ht rr
    obtain ⟨c, hc⟩ : ∃ c, spotAt f s K = c := ⟨_, rfl⟩
    have HCC := Lib.hid hc
    rw [hc] at HCS cs0
    clear hc
    have HLK := Lib.hid (HAL2.out c)
    cases hloc : locTo f c f.lots.length with
    | none =>
      have HAT : Hid (alook al c = none) := Lib.hid (by rw [HLK.out, hloc]; rfl)
      have HVS : Hid (visTo f s f.lots.length = visTo f s K) := Lib.hid (no_lot hK (Int.not_le.2 HU.out) (by rw [HCC.out]; exact hloc))
      clear hloc
      gi_wp2_with (gi_at_lookup; refine wpListIn_lookup_ints rfl (.tmp 8) (.tmp 9) true rfl Try.underlying79 Try.underlying3 (Try.zeroValue105 _) rfl HALR.out rfl ?_; rw [HAT.out]; simp only [Option.getD_none, Option.isSome_none, if_true])
      refine ⟨fun _ h => (by cases h), ?_⟩
      gi_wp2
      refine bodyPost_ret (results_none rfl _ _ _) rfl ?_
      refine ⟨⟨_, rfl⟩, s', hs', by simp; omega, Or.inl ?_⟩
      rw [HVS.out]
      exact HJ.out _ _ _ _ hs' HJ3.out (Turned.of_below (box_below' _ _))
    | some p =>
      obtain ⟨j, i⟩ := p
      have hin := locTo_in hloc
      have hnx := next_lot HV.out hK (Int.not_le.2 HU.out) hin.1 (by rw [HCC.out]; exact hin.2.1)
      have HAT : Hid (alook al c = some (.agg #[.int .i64 (j : Int), .int .i64 (i : Int)])) := Lib.hid (by rw [HLK.out, hloc]; rfl)
      have HRK : Hid (rnk f c = j) := Lib.hid (by unfold rnk; rw [hloc])
      obtain ⟨hin1, hin2, hin3⟩ := hin
      obtain ⟨hn1, hn2, hn3, hn4⟩ := hnx
      have hva := vis_at (f := f) (s := s) (k := j + 1) (m := f.lots.length) (j := K) (by omega) (by simpa using hn4)
      simp only [Nat.add_sub_cancel] at hva
      have HVA := Lib.hid hva
      have HV4 := Lib.hid hn4
      have HN2 : Hid (spotAt f s j = c) := Lib.hid (by rw [hn2, HCC.out])
      have HN3 := Lib.hid hn3
      have HI3 := Lib.hid hin3
      have HHAS := Lib.hid hin2
      have hil : i < (lotAt f.lots j).ins.length := by rw [hin3]; exact (nth_idx (hasB_iff.1 hin2)).1
      obtain ⟨idx, hidx⟩ : ∃ x, (visTo f s K).length = x := ⟨_, rfl⟩
      rw [hidx] at HVA HJ3
      have HVL : Hid ((visTo f s (j + 1)).length = idx + 1) := Lib.hid (by rw [HV4.out, ← hidx]; simp)
      -- the lot
      obtain rfl : a = some ⟨b, off, none⟩ := by rcases HA.out with ha | ha; exact ha; omega
      obtain rfl : a' = some ⟨b', off', none⟩ := by rcases HA'.out with ha | ha; exact ha; have := HOLN.out; omega
      obtain ⟨vi, vk, vp, hc1, hc2, hc3, hl1, rfl, hl3⟩ := HC.out j hin1
      obtain ⟨bp, op, cp, ⟨ap, rfl, hcp, hmp, hap⟩, hlp, hzp, hccp⟩ := hl3
      have HCP := Lib.hid hccp
      have HC2 := Lib.hid hc2
      have HC3 := Lib.hid hc3
      have HCO := Lib.hid (HC'.out j (by rw [HOLN.out]; exact hin1))
      rw [outsTo_at f hin1] at HCO
      have hpl : ∀ hkn : (lotAt f.lots j).known = true, (lotAt f.lots j).perm.length = (lotAt f.lots j).ins.length := fun hkn => perm_len HV.out hin1 hkn
      have HPL := Lib.hid hpl
      have HPP := Lib.hid (fun hkn : (lotAt f.lots j).known = true => perm_lt HV.out hin1 hkn hil)
      have hbf := HBF.out j (by omega)
      have hbf1 := HBF.out (j + 1) (by omega)
      simp only [beforeI] at hbf1
      clear hloc hin2 hin3 hn2 hn3 hn4 hva hidx hc1 hc2 hc3 hl1 hccp hzp hpl
      -- the yield
      obtain ⟨W3, hW3⟩ : ∃ W3, wr.alloc (.cells #[.int .i64 (j : Int), .int .i64 (i : Int)] 105) = W3 := ⟨_, rfl⟩
      have hJ3 : J W3.heap.size idx W3 := by
        rw [← hW3]
        refine HUP.out s' _ _ _ (by simp; omega) (Nat.le_refl _) (HJ.out _ _ _ _ hs' HJ3.out (Turned.of_below (box_below' _ _)))
      have HC3' : Hid (CellsN W3 wr.heap.size #[.int .i64 (j : Int), .int .i64 (i : Int)]) := Lib.hid (by rw [← hW3]; exact CellsN.new _ _ _)
      have HT3 : Hid (Turned (fun k => ob k ∨ W.heap.size ≤ k ∨ k = bs) W W3) := Lib.hid (by rw [← hW3]; exact HT.out.trans (Turned.of_below (box_below' _ _)))
      have HCS3 : Hid (Cell1 W3 bs (.int .i64 c)) := Lib.hid (by rw [← hW3]; exact HCS.out.alloc _)
      have hsz3 : W3.heap.size = wr.heap.size + 1 := by rw [← hW3]; simp
      have hsz3' : wr.heap.size < W3.heap.size := by omega
      have hsz3'' : W.heap.size ≤ W3.heap.size := by omega
      have HYY := Lib.hid (HY.out W3.heap.size idx W3 _ hsz3'' (Nat.le_refl _) HVA.out.2 hJ3 rfl)
      rw [HVA.out.1] at HYY
      have HB3 : Hid (Below B W W3) := Lib.hid (HT3.out.below (by omega) (fun k hk h => by rcases h with h | h | h; have := (HOB.out k h).2; omega; omega; omega))
      have HX3 := Lib.hid (HX.out.turned HT3.out (fun h => by rcases h with h | h | h; have := (HOB.out _ h).2; omega; omega; omega))
      obtain ⟨fn, tmps, assign, body, hy, hR⟩ := HYY.out
      have HR := Lib.hid hR
      have HW3 := Lib.hid hW3
      have t0 := HC3'.out.cell 0
      simp at t0
      clear hJ3 hR hsz3
      have hdp : Fence.wide.depth.isSome = true → 1 ≤ 10 := fun _ => by omega
      gi_wp2_with (gi_at_lookup; refine wpListIn_lookup_ints rfl (.tmp 8) (.tmp 9) true rfl Try.underlying79 Try.underlying3 (Try.zeroValue105 _) rfl HALR.out rfl ?_; rw [HAT.out]; simp only [Option.getD_some, Option.isSome_some, if_true])
      refine HR.out.mono ?_
      have HOW : Hid (∀ k, ob k ∨ W3.heap.size ≤ k → ¬ (k < B ∨ k = bw ∨ k = bs) ∧ k ≠ wr.heap.size) := Lib.hid fun q hq => by
        rcases hq with hq | hq
        · have := HOB.out q hq; omega
        · omega
      clear zr b0 b1 b2 b3 cs0 t0 hy
      rintro e W' (⟨rfl, hJ', ht'⟩ | ⟨rfl, hJx', ht'⟩)
      · have HJ4 := Lib.hid hJ'
        have HT4 := Lib.hid ht'
        have HBP : Hid (Below B W W') := Lib.hid (HB3.out.trans (ht'.below (by have := HB3.out.size; omega) (fun k hk h => by have := HOW.out k h; omega)))
        have HX4 := Lib.hid (HX3.out.turned ht' (fun h => by have := HOW.out _ h; omega))
        have HC4 : Hid (CellsN W' wr.heap.size #[.int .i64 (j : Int), .int .i64 (i : Int)]) := Lib.hid (by
          obtain ⟨t, hh⟩ := HC3'.out
          exact ⟨t, (ht'.block wr.heap.size hsz3' (fun h => (HOW.out _ h).2 rfl)).trans hh⟩)
        have HCS4 := Lib.hid (HCS3.out.turned ht' (fun h => by have := HOW.out _ h; omega))
        have HTT : Hid (Turned (fun k => ob k ∨ W.heap.size ≤ k ∨ k = bs) W W') := Lib.hid (HT3.out.trans (ht'.mono (fun k _ h => by rcases h with h | h; exact Or.inl h; exact Or.inr (Or.inl (by omega)))))
        have hsz4 := ht'.size
        clear hJ' ht'
        obtain ⟨zr, rr⟩ := HX4.out
        have b1 := rr 1
        have b2 := rr 2
        simp at b1 b2
        have t0 := HC4.out.cell 0
        have t1 := HC4.out.cell 1
        simp at t0 t1
        have kc := (HBP.out.cell (p := ⟨b, off + j * 3 + 1, none⟩) HC2.out.1).trans HC2.out.2
        have pc := (HBP.out.cell (p := ⟨b, off + j * 3 + 2, none⟩) HC3.out.1).trans HC3.out.2
        have oc := (HBP.out.cell (p := ⟨b', off' + j, none⟩) HCO.out.1).trans HCO.out.2
        have hj0 : (0 : Int) ≤ (j : Int) := Int.natCast_nonneg _
        have hj1 : (j : Int) < (f.lots.length : Int) := by omega
        clear rr
        have HSN : Hid (spotAt f s (j + 1) = beforeI f j + nth (lotAt f.lots j).perm i) := Lib.hid (by
          simp only [spotAt]
          rw [HN2.out, if_pos HHAS.out, ← HI3.out])
        have HUN : Hid ((lotAt f.lots j).known = true → unkTo f s (j + 1) < 0) := Lib.hid fun hkn => by
          simp only [unkTo]
          rw [if_neg (Int.not_le.2 HN3.out), hkn]
          simp
        have HUK : Hid ((lotAt f.lots j).known = false → (visTo f s f.lots.length).length = idx + 1) := Lib.hid fun hkn => by
          have h0 : 0 ≤ unkTo f s (j + 1) := by
            simp only [unkTo]
            rw [if_neg (Int.not_le.2 HN3.out), HN2.out, HHAS.out, hkn]
            simp
          rw [visTo_stay h0 (by omega), HVL.out]
        cases hkn : (lotAt f.lots j).known
        · rw [hkn] at kc
          have HK1 := Lib.hid (HUK.out hkn)
          clear hkn
          gi_wp2
          refine bodyPost_ret (results_none rfl _ _ _) rfl ?_
          refine ⟨⟨_, rfl⟩, W3.heap.size, hsz3'', hsz4, Or.inl ?_⟩
          rw [HK1.out]
          exact HJ4.out
        · rw [hkn] at kc
          have HK1 := Lib.hid (HUN.out hkn)
          have hpl := HPL.out hkn
          have hpp := HPP.out hkn
          have hip : i < (lotAt f.lots j).perm.length := by omega
          obtain rfl : ap = some ⟨bp, op, none⟩ := by rcases hap with ha | ha; exact ha; omega
          have pe := (HBP.out.cell (p := ⟨bp, op + i, none⟩) (HCP.out i hip).1).trans (HCP.out i hip).2
          have hi0 : (0 : Int) ≤ (i : Int) := Int.natCast_nonneg _
          obtain ⟨pv, hpv⟩ : ∃ x, nth (lotAt f.lots j).perm i = x := ⟨_, rfl⟩
          obtain ⟨bv, hbv⟩ : ∃ x, beforeI f j = x := ⟨_, rfl⟩
          obtain ⟨np, hnp⟩ : ∃ x, (lotAt f.lots j).perm.length = x := ⟨_, rfl⟩
          rw [hpv] at pe hpp HSN
          rw [hbv] at oc hbf hbf1 HSN
          rw [hnp] at pc hip hcp
          have hi1 : (i : Int) < (np : Int) := by omega
          have hw1 : IntKind.i64.wrap (bv + pv) = bv + pv := by rw [IntWalk.i64_in _ (by omega)]
          have bsc := HCS4.out.cell
          have bsf := HCS4.out.free
          have hol : ((outsTo f f.lots.length).length : Int) = (f.lots.length : Int) := by rw [HOLN.out]
          have ho1 : (j : Int) < ((outsTo f f.lots.length).length : Int) := by omega
          clear hkn hpv hbv hnp hpl hol
          have HSC : Hid (Cell1 (W'.setCell ⟨bs, 0, none⟩ (.int .i64 (bv + pv))).drew bs (.int .i64 (spotAt f s (j + 1)))) := Lib.hid (by rw [HSN.out]; exact HCS4.out.set _)
          have HTS : Hid (∀ X : Nat → Prop, X bs → Turned X W' (W'.setCell ⟨bs, 0, none⟩ (.int .i64 (bv + pv))).drew) := Lib.hid fun X hx =>
            Turned.drew (Turned.of_grown (grown_setCell W' ⟨bs, 0, none⟩ (.int .i64 (bv + pv))) (fun k e => by cases e; exact hx))
          gi_wp2
          gi_region
          gi_wp2
          go_roundw
          case rel =>
            refine ⟨j + 1, W3.heap.size, by omega, HSC.out, HK1.out, hsz3'', ?_, ?_, ?_⟩
            · exact Nat.le_trans hsz4 ((HTS.out (fun k => k = bs) rfl).size)
            · rw [HVL.out]
              exact HJ.out _ _ _ _ hsz3'' HJ4.out (HTS.out _ (Or.inl rfl))
            · exact HTT.out.trans (HTS.out _ (Or.inr (Or.inr rfl)))
          case measure =>
            have m1 := cellI_of HSC.out
            have m2 := cellI_of HCS.out
            have m3 := rnk_next HV.out (s := s) hin1
            have m4 := rnk_le f (spotAt f s (j + 1))
            have m5 := HRK.out
            first
              | (rw [m1, m2, m5]; omega)
              | (simp only [] at *; rw [m1, m2, m5]; omega)
      · have HJ4 := Lib.hid hJx'
        have HT4 := Lib.hid ht'
        have hsz4 := ht'.size
        clear hJx' ht'
        have HE2 := Lib.hid HVA.out.2
        gi_wp2
        refine bodyPost_ret (results_none rfl _ _ _) rfl ?_
        exact ⟨⟨_, rfl⟩, W3.heap.size, hsz3'', hsz4, Or.inr ⟨_, HE2.out, HJ4.out⟩⟩

end Go.Proofs.Ytndcbnnbgedgcaa

/-
  The walk of bounds.web.unknown.
-/
set_option linter.unusedVariables false
set_option linter.unusedSimpArgs false
namespace Go.Proofs.Ytndcbnnbgedgcaa
open Go.RowKit
attribute [local go_sem] Oper.semAt_some

theorem visAt_in {l : List Nat} {i : Nat} (h : i < l.length) : visAt l i ∈ l := by
  unfold visAt
  rw [List.getD_eq_getElem?_getD, List.getElem?_eq_getElem h]
  exact List.getElem_mem h
theorem visAt_all {l : List Nat} {p : Nat → Prop} (h : ∀ i, i < l.length → p (visAt l i)) : ∀ j ∈ l, p j := by
  intro j hj
  obtain ⟨i, hi, rfl⟩ := List.getElem_of_mem hj
  have := h i hi
  unfold visAt at this
  rw [List.getD_eq_getElem?_getD, List.getElem?_eq_getElem hi] at this
  exact this

set_option maxHeartbeats 4000000 in
set_option maxRecDepth 100000 in
/-- web.unknown -/
theorem wunknown_any (B : Nat) (w : World) (vs vl vo vw : Value) (f : Flow) (s : Int) (hw : IsWeb B w vs vl vo vw f) (hB : B ≤ w.heap.size) (h0 : checkE f = 0) :
    Calls Try.prog 86 #[.agg #[vs, vl, vo, vw], .int .i64 s] w fun e w' => e = .returned (.int .i64 (unkI f s)) ∧ Below w.heap.size w w' := by
  have HWB := Lib.hid hw
  have H0 := Lib.hid h0
  obtain ⟨⟨rfl, ⟨hs1, hs2⟩, b, off, cap, ⟨a, rfl, hcap, hmax, ha⟩, hlen, hc⟩, ⟨b', off', cap', ⟨a', rfl, hcap', hmax', ha'⟩, hlen', hz', hc'⟩, bm, rfl, hbm, hmap⟩ := hw
  have HC := Lib.hid hc
  have HA := Lib.hid ha
  clear hc hc' ha ha' hz' hmap h0
  obtain ⟨vo, hvo⟩ : ∃ v, Value.slice a' (outsTo f f.lots.length).length cap' = v := ⟨_, rfl⟩
  have hvl : ∃ n, (outsTo f f.lots.length).length = n := ⟨_, rfl⟩
  clear hvo vo hvl
  have hmf := @run_makeFunc_any' Try.prog
  refine (callsIn_wide (n := 11)).1 ?_
  refine callsIn_of_wp_marks Try.func86 rfl trivial ?_ rfl
  simp only [Try.ntmps86, List.size_toArray, List.length_cons, List.length_nil, Nat.reduceAdd, Nat.reduceSub, Array.replicate_succ, Array.replicate_zero, List.push_toArray, List.append_toArray, List.nil_append, List.cons_append]
  gi_wp2_with fail
  refine ⟨trivial, (callsIn_wide.2 (wlots_any _ B _ _ _ _ f s (HWB.out.below ((((Below.refl B w).alloc hB _).alloc (by simp; omega) _)) (Nat.le_refl _)))).mono ?_⟩
  rintro e w6 ⟨rfl, hw6⟩
  have HX6 : Hid (Box w6 w.heap.size #[.int .i64 f.senders, .slice a f.lots.length cap, .slice a' (outsTo f f.lots.length).length cap', .map (some bm)]) := Lib.hid (by
    rw [hw6]; exact (((Box.new w _ _).alloc _).alloc _).alloc _)
  have HL6 : Hid (Cell1 w6 (w.heap.size + 1) (.int .i64 0)) := Lib.hid (by
    rw [hw6]
    have h := ((Cell1.new (w.alloc (.cells #[.int .i64 f.senders, .slice a f.lots.length cap, .slice a' (outsTo f f.lots.length).length cap', .map (some bm)] 81)) (.int .i64 0) 3).alloc (.cells #[.int .i64 f.senders, .slice a f.lots.length cap, .slice a' (outsTo f f.lots.length).length cap', .map (some bm)] 81)).alloc (.cells #[.int .i64 s] 3)
    simp only [World.size_alloc] at h
    exact h)
  have HXW : Hid (Box w6 (w.heap.size + 2) #[.int .i64 f.senders, .slice a f.lots.length cap, .slice a' (outsTo f f.lots.length).length cap', .map (some bm)]) := Lib.hid (by
    rw [hw6]
    have h := (Box.new ((w.alloc (.cells #[.int .i64 f.senders, .slice a f.lots.length cap, .slice a' (outsTo f f.lots.length).length cap', .map (some bm)] 81)).alloc (.cells #[.int .i64 0] 3)) #[.int .i64 f.senders, .slice a f.lots.length cap, .slice a' (outsTo f f.lots.length).length cap', .map (some bm)] 81).alloc (.cells #[.int .i64 s] 3)
    simp only [World.size_alloc] at h
    exact h)
  have HXS : Hid (Cell1 w6 (w.heap.size + 3) (.int .i64 s)) := Lib.hid (by
    rw [hw6]
    have h := Cell1.new (((w.alloc (.cells #[.int .i64 f.senders, .slice a f.lots.length cap, .slice a' (outsTo f f.lots.length).length cap', .map (some bm)] 81)).alloc (.cells #[.int .i64 0] 3)).alloc (.cells #[.int .i64 f.senders, .slice a f.lots.length cap, .slice a' (outsTo f f.lots.length).length cap', .map (some bm)] 81)) (.int .i64 s) 3
    simp only [World.size_alloc] at h
    exact h)
  have HW6 : Hid (Below w.heap.size w w6) := Lib.hid (by rw [hw6]; exact ((((Below.refl _ w).alloc (Nat.le_refl _) _).alloc (by simp) _).alloc (by simp; omega) _).alloc (by simp; omega) _)
  have HSZ6 : Hid (w6.heap.size = w.heap.size + 4) := Lib.hid (by rw [hw6]; simp)
  clear hw6
  obtain ⟨L, hL⟩ : ∃ l, visTo f s f.lots.length = l := ⟨_, rfl⟩
  have HIT := Lib.hid (wlots_iter B (w.heap.size + 2) (w.heap.size + 3) w6 _ _ _ _ f s (HWB.out.below HW6.out hB) (by omega) (by omega) HXW.out HXS.out H0.out)
  have HVU := Lib.hid (fun j hj hk => vis_unknown f s f.lots.length j hj hk)
  have HVK := Lib.hid (vis_known f s f.lots.length)
  have HVL := Lib.hid (visTo_lt f s f.lots.length)
  rw [hL] at HIT HVU HVK HVL
  clear hL
  simp only [World.size_alloc]
  gi_wp2
  refine range_lawM (w := w6) rfl (enters_of Try.func101 (by kernel_rfl) rfl) HIT.out (fun k hk => Or.inr (Or.inr hk)) (Turned.refl _ _)
    (fun k hk => by have := HSZ6.out; omega) (fun k => k = w.heap.size + 1) (fun k hk => by have := HSZ6.out; omega)
    (fun i W args h => by rw [h]; rfl) (fun i A B args h _ => h)
    (fun s i W => Cell1 W (w.heap.size + 1) (.int .i64 0) ∧ Box W w.heap.size #[.int .i64 f.senders, .slice a f.lots.length cap, .slice a' (outsTo f f.lots.length).length cap', .map (some bm)] ∧ Below w.heap.size w W ∧ ∀ m, m < i → (lotAt f.lots (visAt L m)).known = true)
    (fun c s i W => c = .ret ∧ Cell1 W (w.heap.size + 1) (.int .i64 ((visAt L i : Nat) : Int)) ∧ Below w.heap.size w W ∧ (lotAt f.lots (visAt L i)).known = false) ?hI ?hIx (fun _ _ _ _ _ _ h => h) ?h0 ?hround ?hdone ?hstop
  case hI =>
    rintro s' i A A' hs ⟨h1, h2, h3, h4⟩ ht
    have := HSZ6.out
    exact ⟨h1.turned ht (fun h => by omega), h2.turned ht (fun h => by omega), h3.trans (ht.below h3.size (fun k hk h => by omega)), h4⟩
  case hIx =>
    rintro c s' i A A' hs ⟨rfl, h1, h2, h3⟩ ht
    have := HSZ6.out
    exact ⟨rfl, h1.turned ht (fun h => by omega), h2.trans (ht.below h2.size (fun k hk h => by omega)), h3⟩
  case h0 =>
    intro s' W1 hs hs1 hb
    exact ⟨HL6.out.ext hb, HX6.out.ext hb, HW6.out.trans (hb.mono HW6.out.size), fun m hm => by omega⟩
  case hround =>
    rintro l s' i W args hs hsW hi ⟨h1, h2, h3, h4⟩ rfl
    gi_wp2
    refine ⟨Below.refl _ _, fun W2 ht => ?_⟩
    have h6 := HSZ6.out
    have q1 := h1.turned ht (fun h => by omega)
    have HQ2 := Lib.hid (h2.turned ht (fun h => by omega))
    have HB2 : Hid (Below w.heap.size w W2) := Lib.hid (h3.trans (ht.below h3.size (fun k hk h => by omega)))
    have HQ1 := Lib.hid q1
    have HK4 := Lib.hid h4
    have HSZ : Hid (s' ≤ W2.heap.size) := Lib.hid (by have := ht.size; omega)
    have hjm := visAt_in hi
    have hjl := HVL.out _ hjm
    obtain ⟨j, hj⟩ : ∃ j, visAt L i = j := ⟨_, rfl⟩
    have HJJ := Lib.hid hj
    rw [hj] at hjl ⊢
    obtain rfl : a = some ⟨b, off, none⟩ := by rcases HA.out with ha | ha; exact ha; omega
    obtain ⟨vi, vk, vp, hc1, hc2, hc3, hl1, rfl, hl3⟩ := HC.out j hjl
    have kc := (HB2.out.cell (p := ⟨b, off + j * 3 + 1, none⟩) (by have := hc2.1; show b < _; omega)).trans hc2.2
    obtain ⟨zr, rr⟩ := HQ2.out
    have b1 := rr 1
    simp at b1
    have c1 := q1.cell
    have c2 := q1.free
    clear h1 h2 h3 h4 q1 ht hjm hj hc1 hc2 hc3 hl1 hl3 rr
    cases hkn : (lotAt f.lots j).known
    · rw [hkn] at kc
      have HKN : Hid ((lotAt f.lots (visAt L i)).known = false) := Lib.hid (by rw [HJJ.out]; exact hkn)
      clear hkn
      gi_wp2
      have hgs := grown_setCell W2 ⟨w.heap.size + 1, 0, none⟩ (.int .i64 (j : Int))
      have hts : Turned (fun k => k = w.heap.size + 1 ∨ s' ≤ k) W2 (W2.setCell ⟨w.heap.size + 1, 0, none⟩ (.int .i64 (j : Int))) := Turned.of_grown hgs (fun k e => by cases e; exact Or.inl rfl)
      refine ⟨hts, rfl, ?_, HB2.out.setCell (by show w.heap.size ≤ w.heap.size + 1; omega) _, HKN.out⟩
      rw [HJJ.out]
      exact HQ1.out.set _
    · rw [hkn] at kc
      have HKN : Hid ((lotAt f.lots (visAt L i)).known = true) := Lib.hid (by rw [HJJ.out]; exact hkn)
      clear hkn
      gi_wp2
      refine ⟨Turned.refl _ _, HQ1.out, HQ2.out, HB2.out, fun m hm => ?_⟩
      by_cases e : m = i
      · subst e; exact HKN.out
      · exact HK4.out m (by omega)
  case hdone =>
    rintro d s' W hd hds hsW ⟨h1, h2, h3, h4⟩ hk
    have HD := Lib.hid hk
    have HN : Hid (unkI f s = -1) := Lib.hid (HVK.out (visAt_all h4))
    have H1' := Lib.hid h1
    have H3' := Lib.hid h3
    have c1 := h1.cell
    have c2 := h1.free
    clear h1 h2 h3 h4 hk
    gi_wp2
    have hdb : w.heap.size + 1 ≠ d := by have := HSZ6.out; omega
    have hK : (W.setCell ⟨w.heap.size + 1, 0, none⟩ (.int .i64 (-1))).heap[d]? = some (.deferred (some [])) := (Below.heap_setCell W _ _ d (fun e => hdb e.symm)).trans HD.out
    refine ⟨by simp, .inl ⟨_, _, rfl, run_takeDeferred hK, ?_⟩⟩
    have hts : Turned (fun k => k = w.heap.size + 1 ∨ k = d) W ((W.setCell ⟨w.heap.size + 1, 0, none⟩ (.int .i64 (-1))).putObj d (.deferred none)) :=
      (Turned.of_grown (grown_setCell W ⟨w.heap.size + 1, 0, none⟩ (.int .i64 (-1))) (fun k e => by cases e; exact Or.inl rfl)).trans (Turned.putObj _ _ _ (Or.inr rfl))
    have hcl : ((W.setCell ⟨w.heap.size + 1, 0, none⟩ (.int .i64 (-1))).putObj d (.deferred none)).cell? ⟨w.heap.size + 1, 0, none⟩ = some (.int .i64 (-1)) :=
      (World.cell?_of_block (World.putObj_heap_other (w := W.setCell ⟨w.heap.size + 1, 0, none⟩ (.int .i64 (-1))) hdb)).trans (H1'.out.set _).cell
    refine ⟨.int .i64 (-1), by simp [results, Try.results86, go_sem, hcl], by rw [HN.out], ?_⟩
    exact H3'.out.trans (hts.below H3'.out.size (fun k hk h => by have := HSZ6.out; omega))
  case hstop =>
    rintro d s' i c W hd hds hsW hi ⟨rfl, h1, h3, h4⟩ hk
    have HD := Lib.hid hk
    have HN : Hid (unkI f s = ((visAt L i : Nat) : Int)) := Lib.hid (HVU.out _ (visAt_in hi) h4)
    have H1' := Lib.hid h1
    have H3' := Lib.hid h3
    clear h1 h3 h4 hk
    obtain ⟨j, hj⟩ : ∃ j, visAt L i = j := ⟨_, rfl⟩
    rw [hj] at H1' HN
    clear hj
    gi_wp2
    have hdb : w.heap.size + 1 ≠ d := by have := HSZ6.out; omega
    refine ⟨by simp, .inl ⟨_, _, rfl, run_takeDeferred HD.out, ?_⟩⟩
    have hts : Turned (fun k => k = w.heap.size + 1 ∨ k = d) W (W.putObj d (.deferred none)) := Turned.putObj _ _ _ (Or.inr rfl)
    have hcl : (W.putObj d (.deferred none)).cell? ⟨w.heap.size + 1, 0, none⟩ = some (.int .i64 (j : Int)) :=
      (World.cell?_of_block (World.putObj_heap_other (w := W) hdb)).trans H1'.out.cell
    refine ⟨.int .i64 (j : Int), by simp [results, Try.results86, go_sem, hcl], by rw [HN.out], ?_⟩
    exact H3'.out.trans (hts.below H3'.out.size (fun k hk h => by have := HSZ6.out; omega))

end Go.Proofs.Ytndcbnnbgedgcaa
