/-
  The walk of flows.Check.
-/
import Derived.Test.YtndcbnnbgedgcaaF25b
import Derived.Test.YtndcbnnbgedgcaaR25d
import Derived.RangeFuncNested
import Derived.RangeFuncBound
import Derived.Shelf.Abstract
set_option linter.unusedVariables false
set_option linter.unusedSimpArgs false
namespace Go.Proofs.Ytndcbnnbgedgcaa
open Go.RowKit

/-- lotB as flows.Check has it -/
theorem lotB_alt (f : Flow) (k : Nat) : lotB f k =
    ((decide ((lotAt f.lots k).ins.length ≠ 0) && (diffB (lotAt f.lots k).ins && allB (lotAt f.lots k).ins (freeB (beforeI f k) (goneL f k)))) &&
      (if (lotAt f.lots k).known then decide ((lotAt f.lots k).perm.length = (lotAt f.lots k).ins.length) && (diffB (lotAt f.lots k).perm && allB (lotAt f.lots k).perm (outB (lotAt f.lots k).ins.length)) else decide ((lotAt f.lots k).perm.length = 0))) := by
  rw [lotB_eq]
  have e1 : insOk f k (lotAt f.lots k).ins = allB (lotAt f.lots k).ins (freeB (beforeI f k) (goneL f k)) := by
    unfold insOk allB
    congr 1
    funext x
    unfold freeB
    rw [hasB_goneL, Bool.and_assoc]
  have e2 : ∀ l : List Int, decide (l ≠ []) = decide (l.length ≠ 0) := by intro l; cases l <;> simp
  have e3 : ∀ l : List Int, decide (l = []) = decide (l.length = 0) := by intro l; cases l <;> simp
  rw [e1, e2, e3]
  congr 1
  · rw [Bool.and_assoc]
  · cases (lotAt f.lots k).known
    · rfl
    · simp only [if_true]
      unfold permB inB allB outB
      have e4 : decide (((lotAt f.lots k).perm.length : Int) = ((lotAt f.lots k).ins.length : Int)) = decide ((lotAt f.lots k).perm.length = (lotAt f.lots k).ins.length) := by
        rw [decide_eq_decide]; omega
      rw [e4]
      cases decide ((lotAt f.lots k).perm.length = (lotAt f.lots k).ins.length) <;> cases diffB (lotAt f.lots k).perm <;> simp

/-- what holds between two rounds of flows.Check: bm: the map's block, bg: the cell that holds the map, bc: the counter's cell; S: the spots that are gone, c: how many spots there are -/
def CheckInv (w W : World) (bm bg bc : Nat) (fb : Array Value) (S : List Int) (c : Int) : Prop :=
  Below w.heap.size w W ∧ Box W w.heap.size fb ∧ SetMap W bm S ∧ Box W bg #[.map (some bm)] ∧ Cell1 W bc (.int .i64 c) ∧ w.heap.size < bm ∧ bm < bg ∧ bg < bc
theorem CheckInv.ext {w W W' : World} {bm bg bc : Nat} {fb : Array Value} {S : List Int} {c : Int} (h : CheckInv w W bm bg bc fb S c) (hb : Below W.heap.size W W') : CheckInv w W' bm bg bc fb S c :=
  ⟨h.1.trans (hb.mono h.1.size), h.2.1.ext hb, h.2.2.1.ext hb, h.2.2.2.1.ext hb, h.2.2.2.2.1.ext hb, h.2.2.2.2.2⟩
theorem CheckInv.alloc {w W : World} {bm bg bc : Nat} {fb : Array Value} {S : List Int} {c : Int} (h : CheckInv w W bm bg bc fb S c) (o : Obj) : CheckInv w (W.alloc o) bm bg bc fb S c := h.ext (box_below' W o)
theorem CheckInv.count {w W : World} {bm bg bc : Nat} {fb : Array Value} {S : List Int} {c : Int} (h : CheckInv w W bm bg bc fb S c) (m : Int) : CheckInv w (W.setCell ⟨bc, 0, none⟩ (.int .i64 m)) bm bg bc fb S m := by
  obtain ⟨h1, h2, h3, h4, h5, h6, h7, h8⟩ := h
  have hg := grown_setCell W ⟨bc, 0, none⟩ (.int .i64 m)
  exact ⟨h1.setCell (by show w.heap.size ≤ bc; omega) _, h2.grown hg (by simp; omega), h3.grown hg (by simp; omega), h4.grown hg (by simp; omega), h5.set _, h6, h7, h8⟩
theorem CheckInv.go {w W W' : World} {bm bg bc : Nat} {fb : Array Value} {S S' : List Int} {c : Int} (h : CheckInv w W bm bg bc fb S c) (hs : SetMap W' bm S') (hg : W.grownBy W' (some bm)) : CheckInv w W' bm bg bc fb S' c := by
  obtain ⟨h1, h2, h3, h4, h5, h6, h7, h8⟩ := h
  exact ⟨h1.grown hg h1.size (fun q hq => by cases hq; omega), h2.grown hg (by simp; omega), hs, h4.grown hg (by simp; omega), h5.grown hg (by simp; omega), h6, h7, h8⟩

set_option maxHeartbeats 2000000 in
set_option maxRecDepth 100000 in
/-- flows.Check -/
theorem fcheck_any (B : Nat) (w : World) (vs vl : Value) (f : Flow) (hf : IsFlow B w vs vl f) (hB : B ≤ w.heap.size) :
    Calls Try.prog 35 #[.agg #[vs, vl]] w fun e w' => e = .returned (.int .i64 (checkE f)) ∧ Below w.heap.size w w' := by
  have HF := Lib.hid hf
  obtain ⟨rfl, ⟨hs1, hs2⟩, hl⟩ := hf
  have HLens := Lib.hid hl.lens
  have HBI := Lib.hid (beforeI_le (f := f) fun d hd => (hl.lens d hd).1)
  obtain ⟨b, off, cap, ⟨a, rfl, hcap, hmax, ha⟩, hlen, hc⟩ := hl
  have HC := Lib.hid hc
  clear hc
  by_cases h1 : 64 < f.senders
  · have HT : Hid (checkE f = 2) := Lib.hid (by unfold checkE; rw [if_pos (Or.inl h1)])
    have h1' : decide (64 < f.senders) = true := decide_eq_true h1
    go_enter Try.func35, Try.ntmps35
    go_wp2
    go_ret
    exact ⟨by rw [HT.out]; rfl, box_below (Nat.le_refl _) _⟩
  have h1' : decide (64 < f.senders) = false := decide_eq_false h1
  by_cases h2 : 2000 < f.lots.length
  · have HT : Hid (checkE f = 2) := Lib.hid (by unfold checkE; rw [if_pos (Or.inr (Or.inl h2))])
    have h2' : decide (2000 < (f.lots.length : Int)) = true := decide_eq_true (by omega)
    go_enter Try.func35, Try.ntmps35
    go_wp2
    go_ret
    exact ⟨by rw [HT.out]; rfl, box_below (Nat.le_refl _) _⟩
  have h2' : decide (2000 < (f.lots.length : Int)) = false := decide_eq_false (by omega)
  go_enter Try.func35, Try.ntmps35
  go_wp2
  have HX1 := Lib.hid (Box.new w #[.int .i64 f.senders, .slice a f.lots.length cap] 24)
  have HB1 := Lib.hid (box_below' w (.cells #[.int .i64 f.senders, .slice a f.lots.length cap] 24))
  obtain ⟨w1, hw1⟩ : ∃ w1, w.alloc (.cells #[.int .i64 f.senders, .slice a f.lots.length cap] 24) = w1 := ⟨_, rfl⟩
  rw [hw1] at HX1 HB1 ⊢
  clear hw1
  go_loopw [3, 29] (fun m i wr => ∃ k : Nat, k ≤ f.lots.length ∧ i = .int .i64 k ∧ m = .int .i64 (beforeI f k) ∧ Below w1.heap.size w1 wr) (fun _ i _ => f.lots.length - (intOf i).toNat)
  case atStart => exact ⟨0, by omega, rfl, rfl, Below.refl _ _⟩
  case round =>
    obtain ⟨k, hk, rfl, rfl, hbr⟩ := hrel
    have HBR := Lib.hid hbr
    have HXR := Lib.hid (HX1.out.ext hbr)
    have HWR : Hid (Below w.heap.size w wr) := Lib.hid (HB1.out.trans (hbr.mono HB1.out.size))
    clear hbr
    by_cases hlt : k < f.lots.length
    · obtain rfl : a = some ⟨b, off, none⟩ := by rcases ha with ha | ha; exact ha; omega
      obtain ⟨vi, vk, vp, ⟨hb, c1⟩, ⟨_, c2⟩, ⟨_, c3⟩, ⟨⟨b1, off1, cap1, ⟨a1, rfl, hc1, _⟩, hl1, _⟩, rfl, ⟨b2, off2, cap2, ⟨a2, rfl, hc2, _⟩, hl2, _⟩⟩⟩ := HC.out k hlt
      have q1 := (HWR.out.cell (p := ⟨b, off + k * 3, none⟩) (by show b < _; omega)).trans c1
      have q2 := (HWR.out.cell (p := ⟨b, off + k * 3 + 1, none⟩) (by show b < _; omega)).trans c2
      have q3 := (HWR.out.cell (p := ⟨b, off + k * 3 + 2, none⟩) (by show b < _; omega)).trans c3
      obtain ⟨g1, g2⟩ := HBI.out k (by omega)
      have HBS : Hid (beforeI f (k + 1) = beforeI f k + (lotAt f.lots k).ins.length) := Lib.hid rfl
      obtain ⟨d, hd⟩ : ∃ d, lotAt f.lots k = d := ⟨_, rfl⟩
      rw [hd] at q1 q2 q3 HBS hl1 hl2 hc1 hc2
      clear hd c1 c2 c3
      go_wp2
      go_roundw
      case rel => exact ⟨k + 1, by omega, by go_num, by rw [HBS.out], HBR.out.alloc (by have := HBR.out.size; omega) _⟩
      case measure => simp [intOf]; omega
    · obtain rfl : k = f.lots.length := by omega
      obtain ⟨zr, rr⟩ := HXR.out
      by_cases h3 : 50000 < beforeI f f.lots.length
      · have HT : Hid (checkE f = 2) := Lib.hid (by unfold checkE; rw [if_pos (Or.inr (Or.inr h3))])
        have h3' : decide (50000 < beforeI f f.lots.length) = true := decide_eq_true h3
        go_wp2
        go_ret
        exact ⟨by rw [HT.out]; rfl, HWR.out⟩
      have h3' : decide (50000 < beforeI f f.lots.length) = false := decide_eq_false h3
      by_cases h4 : f.senders < 0
      · have HT : Hid (checkE f = 250) := Lib.hid (by unfold checkE; rw [if_neg (by omega), if_pos h4])
        have h4' : decide (f.senders < 0) = true := decide_eq_true h4
        go_wp2
        go_ret
        exact ⟨by rw [HT.out]; rfl, HWR.out⟩
      have h4' : decide (f.senders < 0) = false := decide_eq_false h4
      have HT : Hid (checkE f = if lotsB f f.lots.length then 0 else 250) := Lib.hid (by unfold checkE; rw [if_neg (by omega), if_neg h4])
      have hmm := @run_makeMap Try.prog
      have z1 : w.heap.size < wr.heap.size + 1 := by omega
      have z2 : w.heap.size < wr.heap.size + 1 + 1 := by omega
      go_wp2_with (go_at_call 69; refine (counter_any _ _).mono ?_; rintro e w' ⟨rfl, rfl⟩)
      obtain ⟨bm, hbm⟩ : ∃ x, wr.heap.size = x := ⟨_, rfl⟩
      obtain ⟨bg, hbg⟩ : ∃ x, bm + 1 = x := ⟨_, rfl⟩
      obtain ⟨bc, hbc⟩ : ∃ x, bg + 1 = x := ⟨_, rfl⟩
      have HI : Hid (CheckInv w (((wr.alloc (.map #[] 0)).alloc (.cells #[.map (some bm)] 89)).alloc (.cells #[.int .i64 f.senders] 3)) bm bg bc #[.int .i64 f.senders, .slice a f.lots.length cap] [] f.senders) := by
        have s1 : (wr.alloc (.map #[] 0)).heap.size = bg := by simp [hbm, hbg]
        have s2 : ((wr.alloc (.map #[] 0)).alloc (.cells #[.map (some bm)] 89)).heap.size = bc := by simp [hbm, hbg, hbc]
        have m1 := SetMap.made wr
        rw [hbm] at m1
        have x1 := Box.new (wr.alloc (.map #[] 0)) #[.map (some bm)] 89
        rw [s1] at x1
        have k1 := Cell1.new ((wr.alloc (.map #[] 0)).alloc (.cells #[.map (some bm)] 89)) (.int .i64 f.senders) 3
        rw [s2] at k1
        have b1 := ((box_below' wr (.map #[] 0)).trans ((box_below' (wr.alloc (.map #[] 0)) (.cells #[.map (some bm)] 89)).mono (by simp))).trans ((box_below' ((wr.alloc (.map #[] 0)).alloc (.cells #[.map (some bm)] 89)) (.cells #[.int .i64 f.senders] 3)).mono (by rw [s2]; omega))
        exact Lib.hid ⟨HWR.out.trans (b1.mono (by omega)), ((HXR.out.alloc _).alloc _).alloc _, (m1.alloc _).alloc _, x1.alloc _, k1, by omega, by omega, by omega⟩
      rw [hbm, hbg, hbc]
      obtain ⟨w2, hw2⟩ : ∃ w2, (((wr.alloc (.map #[] 0)).alloc (.cells #[.map (some bm)] 89)).alloc (.cells #[.int .i64 f.senders] 3)) = w2 := ⟨_, rfl⟩
      rw [hw2] at HI ⊢
      clear hw2 hbm hbg hbc z1 z2 zr rr HXR HBR hmm
      go_loopw [51] (fun i W => ∃ k : Nat, k ≤ f.lots.length ∧ i = .int .i64 k ∧ lotsB f k = true ∧ CheckInv w W bm bg bc #[.int .i64 f.senders, .slice a f.lots.length cap] (goneL f k) (beforeI f k)) (fun i _ => f.lots.length - (intOf i).toNat)
      case atStart => exact ⟨0, by omega, rfl, rfl, HI.out⟩
      case round =>
        obtain ⟨k, hk, rfl, hno, hci⟩ := hrel
        have HN := Lib.hid hno
        have HCI := Lib.hid hci
        clear hno hci
        by_cases hlt : k < f.lots.length
        · obtain rfl : a = some ⟨b, off, none⟩ := by rcases ha with ha | ha; exact ha; omega
          obtain ⟨vi, vk, vp, ⟨hb, c1⟩, ⟨_, c2⟩, ⟨_, c3⟩, hlot⟩ := HC.out k hlt
          have HLT := Lib.hid hlot
          obtain ⟨⟨b1, off1, cap1, ⟨a1, rfl, hc1, _⟩, hl1, _⟩, rfl, ⟨b2, off2, cap2, ⟨a2, rfl, hc2, _⟩, hl2, _⟩⟩ := hlot
          have HWR := Lib.hid HCI.out.1
          have q1 := (HWR.out.cell (p := ⟨b, off + k * 3, none⟩) (by show b < _; omega)).trans c1
          have q2 := (HWR.out.cell (p := ⟨b, off + k * 3 + 1, none⟩) (by show b < _; omega)).trans c2
          have q3 := (HWR.out.cell (p := ⟨b, off + k * 3 + 2, none⟩) (by show b < _; omega)).trans c3
          have HG0 := Lib.hid (HBI.out k (by omega))
          have HBM := Lib.hid (beforeI_mono (f := f) (k := k) (m := f.lots.length) (by omega))
          have HBS : Hid (beforeI f (k + 1) = beforeI f k + (lotAt f.lots k).ins.length) := Lib.hid rfl
          have HLB := Lib.hid (lotB_alt f k)
          have HGS : Hid (goneL f (k + 1) = goneL f k ++ (lotAt f.lots k).ins) := Lib.hid rfl
          have HLS : Hid (lotsB f (k + 1) = (lotsB f k && lotB f k)) := Lib.hid rfl
          obtain ⟨d, hd⟩ : ∃ d, lotAt f.lots k = d := ⟨_, rfl⟩
          rw [hd] at q1 q2 q3 HBS HLT HLB HGS hl1 hl2 hc1 hc2
          clear hd c1 c2 c3
          obtain ⟨m, hm⟩ : ∃ m, wr.heap.size = m := ⟨_, rfl⟩
          have hwm : w.heap.size < m ∧ bc < m := by rw [← hm]; exact ⟨HCI.out.2.1.1, HCI.out.2.2.2.2.1.lt⟩
          go_wp2_with fail
          refine (count_any (beforeI f k) d.ins.length bc _ ((HCI.out.2.2.2.2.1.alloc _).alloc _) (by have := HG0.out; omega) (by have := HBM.out; omega) (by omega) (by omega)).mono ?_
          rintro e w' ⟨rfl, rfl⟩
          have HI3 : Hid (CheckInv w (((wr.alloc (.cells #[.slice a1 d.ins.length cap1, .bool d.known, .slice a2 d.perm.length cap2] 45)).alloc (.cells #[.int .i64 d.ins.length] 3)).setCell ⟨bc, 0, none⟩ (.int .i64 (beforeI f k + d.ins.length))) bm bg bc #[.int .i64 f.senders, .slice (some ⟨b, off, none⟩) f.lots.length cap] (goneL f k) (beforeI f (k + 1))) :=
            Lib.hid (by rw [HBS.out]; exact ((HCI.out.alloc _).alloc _).count _)
          have HX3 : Hid (Box (((wr.alloc (.cells #[.slice a1 d.ins.length cap1, .bool d.known, .slice a2 d.perm.length cap2] 45)).alloc (.cells #[.int .i64 d.ins.length] 3)).setCell ⟨bc, 0, none⟩ (.int .i64 (beforeI f k + d.ins.length))) m #[.slice a1 d.ins.length cap1, .bool d.known, .slice a2 d.perm.length cap2]) :=
            Lib.hid (by rw [← hm] at hwm ⊢; exact ((Box.new wr _ _).alloc _).grown (grown_setCell _ _ _) (by simp; omega))
          have HN3 : Hid (Box (((wr.alloc (.cells #[.slice a1 d.ins.length cap1, .bool d.known, .slice a2 d.perm.length cap2] 45)).alloc (.cells #[.int .i64 d.ins.length] 3)).setCell ⟨bc, 0, none⟩ (.int .i64 (beforeI f k + d.ins.length))) (m + 1) #[.int .i64 d.ins.length]) :=
            Lib.hid (by rw [← hm] at hwm ⊢; have := Box.new (wr.alloc (.cells #[.slice a1 d.ins.length cap1, .bool d.known, .slice a2 d.perm.length cap2] 45)) #[.int .i64 d.ins.length] 3; rw [show (wr.alloc (.cells #[.slice a1 d.ins.length cap1, .bool d.known, .slice a2 d.perm.length cap2] 45)).heap.size = wr.heap.size + 1 by simp] at this; exact this.grown (grown_setCell _ _ _) (by simp; omega))
          obtain ⟨w3, hw3⟩ : ∃ w3, (((wr.alloc (.cells #[.slice a1 d.ins.length cap1, .bool d.known, .slice a2 d.perm.length cap2] 45)).alloc (.cells #[.int .i64 d.ins.length] 3)).setCell ⟨bc, 0, none⟩ (.int .i64 (beforeI f k + d.ins.length))) = w3 := ⟨_, rfl⟩
          rw [hw3] at HI3 HX3 HN3 ⊢
          clear hw3 q1 q2 q3 hm
          have hmf := @run_makeFunc_any Try.prog
          obtain ⟨z1, r1⟩ := HX3.out
          obtain ⟨z2, r2⟩ := HN3.out
          by_cases hn0 : d.ins.length = 0
          · have hn0' : ((d.ins.length : Int) == 0) = true := by simpa using hn0
            have HT2 : Hid (checkE f = 250) := Lib.hid (by rw [HT.out, lotsB_false (k := k + 1) (m := f.lots.length) (by rw [HLS.out, HLB.out]; simp [hn0]) (by omega)]; rfl)
            clear hn0
            go_wp2
            go_ret
            exact ⟨by rw [HT2.out]; rfl, HI3.out.1.alloc (HI3.out.1.size) _⟩
          · have hn0' : ((d.ins.length : Int) == 0) = false := by simp; intro e; exact hn0 (by simp [e])
            have HN0 := Lib.hid hn0
            clear hn0
            go_wp2_with fail
            have HI4 := Lib.hid (HI3.out.alloc (.cells #[.int .i64 (beforeI f k)] 3))
            have HX4 := Lib.hid (HX3.out.alloc (.cells #[.int .i64 (beforeI f k)] 3))
            have HN4 := Lib.hid (HN3.out.alloc (.cells #[.int .i64 (beforeI f k)] 3))
            have HP4 := Lib.hid (Box.new w3 #[.int .i64 (beforeI f k)] 3)
            have HOK : Hid (OkFn Try.prog 70 #[.pointer (some ⟨w3.heap.size, 0, none⟩), .pointer (some ⟨bg, 0, none⟩)] (w3.alloc (.cells #[.int .i64 (beforeI f k)] 3)) (freeB (beforeI f k) (goneL f k))) :=
              Lib.hid ⟨enters_of Try.func70 (by kernel_rfl) rfl, fun W x hW hx => by
                have hi := HI4.out.ext hW
                exact (free_any x (beforeI f k) w3.heap.size bg bm (goneL f k) W (HP4.out.ext hW) hi.2.2.2.1 hi.2.2.1).mono (by rintro e w' ⟨rfl, rfl⟩; exact ⟨rfl, Below.refl _ _⟩)⟩
            have HL4 : Hid (IsLot B (w3.alloc (.cells #[.int .i64 (beforeI f k)] 3)) (.slice a1 d.ins.length cap1) (.bool d.known) (.slice a2 d.perm.length cap2) d) := Lib.hid (HLT.out.below HI4.out.1 hB)
            have hB4 : B ≤ (w3.alloc (.cells #[.int .i64 (beforeI f k)] 3)).heap.size := by have := HI4.out.1.size; omega
            obtain ⟨m3, hm3⟩ : ∃ m3, w3.heap.size = m3 := ⟨_, rfl⟩
            rw [hm3] at HP4 HOK ⊢
            have hm3' : m < m3 ∧ m + 1 < m3 ∧ bc < m3 := by rw [← hm3]; exact ⟨z1, z2, HI3.out.2.2.2.2.1.lt⟩
            obtain ⟨w4, hw4⟩ : ∃ w4, w3.alloc (.cells #[.int .i64 (beforeI f k)] 3) = w4 := ⟨_, rfl⟩
            rw [hw4] at HI4 HX4 HN4 HP4 HOK HL4 hB4 ⊢
            clear hm3 hw4 z1 r1 z2 r2
            cases hdf : (diffB d.ins && allB d.ins (freeB (beforeI f k) (goneL f k)))
            · have HDF := Lib.hid hdf
              have HT2 : Hid (checkE f = 250) := Lib.hid (by rw [HT.out, lotsB_false (k := k + 1) (m := f.lots.length) (by rw [HLS.out, HLB.out, hdf]; simp) (by omega)]; rfl)
              clear hdf
              refine (fdifferent_any B w4 _ d.ins _ _ _ HL4.out.1 hB4 HOK.out).mono ?_
              rintro e w5 ⟨rfl, hb5⟩
              rw [HDF.out]
              have HB5 := Lib.hid hb5
              clear hb5
              go_wp2
              go_ret
              exact ⟨by rw [HT2.out]; rfl, HI4.out.1.trans (HB5.out.mono HI4.out.1.size)⟩
            · have HDF := Lib.hid hdf
              clear hdf
              refine (fdifferent_any B w4 _ d.ins _ _ _ HL4.out.1 hB4 HOK.out).mono ?_
              rintro e w5 ⟨rfl, hb5⟩
              rw [HDF.out]
              have HI5 := Lib.hid (HI4.out.ext hb5)
              have HX5 := Lib.hid (HX4.out.ext hb5)
              have HN5 := Lib.hid (HN4.out.ext hb5)
              have HL5 := Lib.hid (HL4.out.below hb5 hB4)
              clear hb5 HI4 HX4 HN4 HP4 HOK HL4 hB4 HI3 HX3 HN3
              obtain ⟨z1, r1⟩ := HX5.out
              obtain ⟨bi, oi, ci, ⟨ai, hai, hci1, hci2, hai2⟩, hli, hzi, hcci⟩ := HL5.out.1
              obtain rfl : a1 = ai := by cases hai; rfl
              have HCI5 := Lib.hid hcci
              have HB5 := Lib.hid HI5.out.1
              have hmm2 : Hid (bm ≠ m ∧ bm ≠ m + 1 ∧ B ≤ w5.heap.size ∧ B ≤ bm) := Lib.hid (by have := HI5.out.2.2.2.2.2; have := HI5.out.1.size; refine ⟨?_, ?_, ?_, ?_⟩ <;> omega)
              clear hcci hai hzi hci1 hci2
              go_wp2
              go_loopw [74] (fun i W => ∃ j : Nat, j ≤ d.ins.length ∧ i = .int .i64 j ∧ SetMap W bm (goneL f k ++ d.ins.take j) ∧ w5.grownBy W (some bm)) (fun i _ => d.ins.length - (intOf i).toNat)
              case atStart => exact ⟨0, by omega, rfl, by simpa using HI5.out.2.2.1, grown_refl _ _⟩
              case round =>
                obtain ⟨j, hj, rfl, hsj, hgj⟩ := hrel
                have HSJ := Lib.hid hsj
                have HGJ := Lib.hid hgj
                have HIJ := Lib.hid (HI5.out.go hsj hgj)
                have HXJ := Lib.hid (HX5.out.grown hgj (by have := hmm2.out; simp; omega))
                have HNJ := Lib.hid (HN5.out.grown hgj (by have := hmm2.out; simp; omega))
                have HBJ : Hid (Below B w5 wr) := Lib.hid ((Below.refl B w5).grown hgj hmm2.out.2.2.1 (fun q hq => by cases hq; exact hmm2.out.2.2.2))
                clear hsj hgj
                by_cases hjl : j < d.ins.length
                · obtain rfl : a1 = some ⟨bi, oi, none⟩ := by rcases hai2 with ha | ha; exact ha; omega
                  have hcell := (HBJ.out.cell (p := ⟨bi, oi + j, none⟩) (HCI5.out j hjl).1).trans (HCI5.out j hjl).2
                  have hbgc := HIJ.out.2.2.2.1.2 0
                  have HTS := Lib.hid (List.take_succ_eq_append_getElem hjl)
                  clear z1 r1
                  go_wp2_with (at_mapUpdate; refine wpList_update_set rfl _ _ _ rfl Try.underlying89 Try.underlying3 rfl HSJ.out rfl rfl ?_; intro w8 hs8 hg8 hz8; have HS8 := Lib.hid hs8; have HG8 := Lib.hid hg8; clear hs8 hg8 hz8)
                  go_roundw
                  case rel => exact ⟨j + 1, by omega, by go_num, by rw [HTS.out, ← nth_eq_getElem hjl, ← List.append_assoc]; exact HS8.out, grown_trans HGJ.out HG8.out⟩
                  case measure => simp [intOf]; omega
                · obtain rfl : j = d.ins.length := by omega
                  clear z1 r1
                  obtain ⟨z1, r1⟩ := HXJ.out
                  obtain ⟨z2, r2⟩ := HNJ.out
                  have HIK : Hid (CheckInv w wr bm bg bc #[.int .i64 f.senders, .slice (some ⟨b, off, none⟩) f.lots.length cap] (goneL f (k + 1)) (beforeI f (k + 1))) := Lib.hid (by have := HIJ.out; rw [List.take_of_length_le (Nat.le_refl _), ← HGS.out] at this; exact this)
                  have HLR := Lib.hid (HL5.out.below HBJ.out (Nat.le_refl _))
                  have hBr : B ≤ wr.heap.size := by have := HIK.out.1.size; omega
                  have HOK2 : Hid (OkFn Try.prog 71 #[.pointer (some ⟨m + 1, 0, none⟩)] wr (outB d.ins.length)) :=
                    Lib.hid ⟨enters_of Try.func71 (by kernel_rfl) rfl, fun W x hW hx =>
                      (out_any x d.ins.length (m + 1) W (HNJ.out.ext hW)).mono (by rintro e w' ⟨rfl, rfl⟩; exact ⟨rfl, Below.refl _ _⟩)⟩
                  have HLK : Hid (lotB f k = (if d.known then decide (d.perm.length = d.ins.length) && (diffB d.perm && allB d.perm (outB d.ins.length)) else decide (d.perm.length = 0))) := by
                    refine Lib.hid ?_
                    rw [HLB.out, HDF.out, decide_eq_true (by have := HN0.out; omega : d.ins.length ≠ 0)]; rfl
                  have HBAD : Hid (lotB f k = false → checkE f = 250) := Lib.hid fun h => by
                    rw [HT.out, lotsB_false (k := k + 1) (m := f.lots.length) (by rw [HLS.out, h]; simp) (by omega)]; rfl
                  have HGOOD : Hid (lotB f k = true → lotsB f (k + 1) = true) := Lib.hid fun h => by rw [HLS.out, HN.out, h]; rfl
                  cases hkn : d.known
                  · have HKN := Lib.hid hkn
                    rw [hkn] at r1
                    by_cases hp0 : d.perm.length = 0
                    · have hp0' : decide (0 < d.perm.length) = false := decide_eq_false (by omega)
                      have HG2 := Lib.hid (HGOOD.out (by rw [HLK.out, hkn, decide_eq_true hp0]; rfl))
                      clear hp0 hkn
                      go_wp2
                      go_roundw
                      case rel => exact ⟨k + 1, by omega, by go_num, HG2.out, HIK.out⟩
                      case measure => simp [intOf]; omega
                    · have hp0' : decide (0 < d.perm.length) = true := decide_eq_true (by omega)
                      have HG2 := Lib.hid (HBAD.out (by rw [HLK.out, hkn, decide_eq_false hp0]; rfl))
                      clear hp0 hkn
                      go_wp2
                      go_ret
                      exact ⟨by rw [HG2.out]; rfl, HIK.out.1⟩
                  · have HKN := Lib.hid hkn
                    rw [hkn] at r1
                    by_cases hp0 : d.perm.length = d.ins.length
                    · have hp0' : ((d.perm.length : Int) != (d.ins.length : Int)) = false := by rw [hp0]; simp
                      have HPE := Lib.hid hp0
                      cases hdp : (diffB d.perm && allB d.perm (outB d.ins.length))
                      · have HDP := Lib.hid hdp
                        have HG2 := Lib.hid (HBAD.out (by rw [HLK.out, hkn, hdp]; simp))
                        clear hp0 hkn hdp
                        go_wp2_with (go_at_call 47; refine (fdifferent_any B wr _ d.perm _ _ _ HLR.out.2.2 hBr HOK2.out).mono ?_; rintro e w9 ⟨rfl, hb9⟩; have HB9 := Lib.hid hb9; clear hb9; rw [HDP.out])
                        go_ret
                        exact ⟨by rw [HG2.out]; rfl, HIK.out.1.trans (HB9.out.mono HIK.out.1.size)⟩
                      · have HDP := Lib.hid hdp
                        have HG2 := Lib.hid (HGOOD.out (by rw [HLK.out, hkn, hdp, decide_eq_true hp0]; rfl))
                        clear hp0 hkn hdp
                        go_wp2_with (go_at_call 47; refine (fdifferent_any B wr _ d.perm _ _ _ HLR.out.2.2 hBr HOK2.out).mono ?_; rintro e w9 ⟨rfl, hb9⟩; have HB9 := Lib.hid hb9; have HX9 := Lib.hid (HXJ.out.ext hb9); obtain ⟨z9, r9⟩ := HX9.out; rw [HKN.out] at r9; clear hb9; rw [HDP.out])
                        go_roundw
                        case rel => exact ⟨k + 1, by omega, by go_num, HG2.out, HIK.out.ext HB9.out⟩
                        case measure => simp [intOf]; omega
                    · have hp0' : ((d.perm.length : Int) != (d.ins.length : Int)) = true := by simp; omega
                      have HG2 := Lib.hid (HBAD.out (by rw [HLK.out, hkn, decide_eq_false hp0]; simp))
                      clear hp0 hkn
                      go_wp2
                      go_ret
                      exact ⟨by rw [HG2.out]; rfl, HIK.out.1⟩
        · obtain rfl : k = f.lots.length := by omega
          have HT2 : Hid (checkE f = 0) := Lib.hid (by rw [HT.out, HN.out]; rfl)
          go_wp2
          go_ret
          exact ⟨by rw [HT2.out]; rfl, HCI.out.1⟩

end Go.Proofs.Ytndcbnnbgedgcaa
