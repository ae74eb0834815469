/-
  The walk of reach.spots.
-/
import Derived.Test.YtndcbnnbgedgcaaF26d
import Derived.Test.YtndcbnnbgedgcaaR26c
set_option linter.unusedVariables false
set_option linter.unusedSimpArgs false
namespace Go.Proofs.Ytndcbnnbgedgcaa
open Go.RowKit

theorem u64_info : (Try.prog.info? 110).map (fun i => (i.zero, i.size, i.bytes)) = some (some (.int .u64 0), 1, 8) := by kernel_rfl

/-- make(set, m) -/
theorem wpList_make_set {ops : Array Oper} {rest : List Oper} {o : Oper} {a : Act} {w : World} {Q : Exit → Act → World → Prop} (hgd : o.guard = none) (l c : Operand) (hop : o.op = Op.makeSlice 97 l c)
    {L C : Int} {m : Nat} (hl : a.eval l = .int .i64 L) (hc : a.eval c = .int .i64 C) (hL : L = (m : Int)) (hC : C = (m : Int)) (hm : m ≤ 100000)
    (h : ∀ w', BitSet w' w.heap.size m [] → Below w.heap.size w w' → w'.heap.size = w.heap.size + 1 → wpList Try.prog ops Q rest (a.put o.dst (.slice (some ⟨w.heap.size, 0, none⟩) m m)) w') : wpList Try.prog ops Q (o :: rest) a w := by
  obtain ⟨i0, hi, hz0, hz1, hz2⟩ := info_parts u64_info
  subst hL hC
  refine wpList_plain hgd fun K hK => ?_
  have hr := run_make (P := Try.prog) w 97 110 i0 (.int .u64 0) Try.underlying97 hi hz0 .i64 .i64 m m (by omega) (by omega) (by rw [hz2]; omega) (by omega)
  simp only [Int.toNat_natCast, hz1, Nat.mul_one] at hr
  unfold Oper.wp
  simp only [execOp, hop, hl, hc]
  simp [hr, Result.andThen]
  refine hK _ _ (h _ ⟨_, _, heap_alloc_new w _, by simp [madeCells], fun i hi => ⟨0, ?_, by omega, fun j hj => by simp [hasB]⟩⟩ (box_below' w _) (by simp))
  simp [madeCells, hi, Value.cells, Nat.mod_one]

/-- what holds between two rounds of reach.spots -/
def SpotsInv (w W : World) (b m bc bn : Nat) (fb : Array Value) (S : List Int) (n : Int) : Prop :=
  Below w.heap.size w W ∧ Box W w.heap.size fb ∧ BitSet W b m S ∧ Box W bc #[.slice (some ⟨b, 0, none⟩) m m] ∧ Cell1 W bn (.int .i64 n) ∧ w.heap.size < b ∧ b < bc ∧ bc < bn
theorem SpotsInv.ext {w W W' : World} {b m bc bn : Nat} {fb : Array Value} {S : List Int} {n : Int} (h : SpotsInv w W b m bc bn fb S n) (hb : Below W.heap.size W W') : SpotsInv w W' b m bc bn fb S n :=
  ⟨h.1.trans (hb.mono h.1.size), h.2.1.ext hb, h.2.2.1.ext hb, h.2.2.2.1.ext hb, h.2.2.2.2.1.ext hb, h.2.2.2.2.2⟩
theorem SpotsInv.foll {w W W' : World} {b m bc bn : Nat} {fb : Array Value} {S S' : List Int} {n n' : Int} (h : SpotsInv w W b m bc bn fb S n) (hs : BitSet W' b m S') (hn : Cell1 W' bn (.int .i64 n')) (ht : Turned (fun k => k = b ∨ k = bn) W W') : SpotsInv w W' b m bc bn fb S' n' := by
  obtain ⟨h1, h2, h3, h4, h5, h6, h7, h8⟩ := h
  exact ⟨h1.trans (ht.below h1.size (fun k hk h => by omega)), h2.turned ht (by omega), hs, h4.turned ht (by omega), hn, h6, h7, h8⟩

theorem lotB_ins {f : Flow} {k : Nat} (h : lotB f k = true) : ∀ y ∈ (lotAt f.lots k).ins, 0 ≤ y ∧ y < beforeI f k := by
  rw [lotB_eq] at h
  simp only [Bool.and_eq_true] at h
  intro y hy
  have := h.1.2
  unfold insOk at this
  rw [List.all_eq_true] at this
  have := this y hy
  simp only [Bool.and_eq_true, decide_eq_true_eq] at this
  exact this.1
theorem lotB_permin {f : Flow} {k : Nat} (h : lotB f k = true) (hk : (lotAt f.lots k).known = true) : (lotAt f.lots k).perm.length = (lotAt f.lots k).ins.length ∧ ∀ y ∈ (lotAt f.lots k).perm, 0 ≤ y ∧ y < (lotAt f.lots k).ins.length := by
  refine ⟨lotB_perm h hk, ?_⟩
  rw [lotB_eq, hk] at h
  simp only [Bool.and_eq_true, if_true, permB, decide_eq_true_eq, inB, List.all_eq_true] at h
  exact fun y hy => h.2.1 y hy

set_option maxHeartbeats 1000000 in
set_option maxRecDepth 100000 in
/-- reach.spots -/
theorem fspots_any (B : Nat) (w : World) (vs vl : Value) (f : Flow) (s : Int) (hf : IsFlow B w vs vl f) (hB : B ≤ w.heap.size) (h0 : checkE f = 0) (hs0 : 0 ≤ s) (hs1 : s < f.senders) :
    Calls Try.prog 77 #[.agg #[vs, vl], .int .i64 s] w fun e w' => ∃ b m, e = .returned (.slice (some ⟨b, 0, none⟩) m m) ∧ BitSet w' b m (spotsTo f s f.lots.length) ∧ beforeI f f.lots.length < 64 * m ∧ m ≤ 1000 ∧ w.heap.size ≤ b ∧ Below w.heap.size w w' := by
  have HF := Lib.hid hf
  have HK := Lib.hid (checkE_ok h0)
  have HI := Lib.hid (fun k (hk : k < f.lots.length) => ok_ins h0 hk)
  clear h0
  obtain ⟨rfl, ⟨hs1', hs2'⟩, hl⟩ := hf
  obtain ⟨b, off, cap, ⟨a, rfl, hcap, hmax, ha⟩, hlen, hc⟩ := hl
  have HC := Lib.hid hc
  clear hc
  go_enter Try.func77, Try.ntmps77
  go_wp2
  have HX1 := Lib.hid (Box.new w #[.int .i64 f.senders, .slice a f.lots.length cap] 24)
  have HB1 := Lib.hid (box_below' w (.cells #[.int .i64 f.senders, .slice a f.lots.length cap] 24))
  obtain ⟨w1, hw1⟩ : ∃ w1, w.alloc (.cells #[.int .i64 f.senders, .slice a f.lots.length cap] 24) = w1 := ⟨_, rfl⟩
  rw [hw1] at HX1 HB1 ⊢
  clear hw1
  go_loopw [5, 18] (fun m i wr => ∃ k : Nat, k ≤ f.lots.length ∧ i = .int .i64 k ∧ m = .int .i64 (beforeI f k) ∧ Below w1.heap.size w1 wr) (fun _ i _ => f.lots.length - (intOf i).toNat)
  case atStart => exact ⟨0, by omega, rfl, rfl, Below.refl _ _⟩
  case round =>
    obtain ⟨k, hk, rfl, rfl, hbr⟩ := hrel
    have HBR := Lib.hid hbr
    have HXR := Lib.hid (HX1.out.ext hbr)
    have HWR : Hid (Below w.heap.size w wr) := Lib.hid (HB1.out.trans (hbr.mono HB1.out.size))
    clear hbr
    by_cases hlt : k < f.lots.length
    · obtain rfl : a = some ⟨b, off, none⟩ := by rcases ha with ha | ha; exact ha; omega
      obtain ⟨vi, vk, vp, ⟨hb, c1⟩, ⟨_, c2⟩, ⟨_, c3⟩, ⟨⟨b1, off1, cap1, ⟨a1, rfl, hc1, _⟩, hl1, _⟩, rfl, ⟨b2, off2, cap2, ⟨a2, rfl, hc2, _⟩, hl2, _⟩⟩⟩ := HC.out k hlt
      have q1 := (HWR.out.cell (p := ⟨b, off + k * 3, none⟩) (by show b < _; omega)).trans c1
      have q2 := (HWR.out.cell (p := ⟨b, off + k * 3 + 1, none⟩) (by show b < _; omega)).trans c2
      have q3 := (HWR.out.cell (p := ⟨b, off + k * 3 + 2, none⟩) (by show b < _; omega)).trans c3
      obtain ⟨g1, g2, g3⟩ := HI.out k hlt
      have HBS : Hid (beforeI f (k + 1) = beforeI f k + (lotAt f.lots k).ins.length) := Lib.hid rfl
      obtain ⟨d, hd⟩ : ∃ d, lotAt f.lots k = d := ⟨_, rfl⟩
      rw [hd] at q1 q2 q3 HBS hl1 hl2 hc1 hc2 g1
      clear hd c1 c2 c3
      go_wp2
      go_roundw
      case rel => exact ⟨k + 1, by omega, by go_num, by rw [HBS.out], HBR.out.alloc (by have := HBR.out.size; omega) _⟩
      case measure => simp [intOf]; omega
    · obtain rfl : k = f.lots.length := by omega
      have HN : Hid (beforeI f f.lots.length = ((beforeI f f.lots.length).toNat : Int)) := Lib.hid (by have := beforeI_mono (f := f) (Nat.zero_le f.lots.length); have := HK.out; simp only [beforeI] at *; omega)
      obtain ⟨n, hn⟩ : ∃ n, (beforeI f f.lots.length).toNat = n := ⟨_, rfl⟩
      rw [hn] at HN
      have hn5 : n ≤ 50000 := by have := HN.out; have := HK.out; omega
      have HSN : Hid (f.senders ≤ n) := Lib.hid (by have h := beforeI_mono (f := f) (Nat.zero_le f.lots.length); have := HN.out; simp only [beforeI] at h; omega)
      clear hn
      rw [HN.out]
      obtain ⟨zr, rr⟩ := HXR.out
      obtain ⟨m, hm⟩ : ∃ m, n / 64 + 1 = m := ⟨_, rfl⟩
      have hm2 : m ≤ 1000 ∧ n < 64 * m := by omega
      have HM := Lib.hid hm
      clear hm
      go_wp2_with (at_make; refine wpList_make_set (m := m) rfl _ _ rfl rfl rfl ?c1 ?c2 ?c3 ?c4)
      case c1 => have := HM.out; omega
      case c2 => have := HM.out; omega
      case c3 => omega
      case c4 =>
        intro w4 hs4 hb4 hz4
        have HS4 := Lib.hid hs4
        have HB4 := Lib.hid hb4
        have HX4 := Lib.hid (HXR.out.ext hb4)
        have hz : w.heap.size < wr.heap.size := zr
        have hz2 : wr.heap.size < w4.heap.size := by omega
        obtain ⟨zr4, rr4⟩ := HX4.out
        clear hs4 hb4 hz4 zr rr
        go_wp2_with fail
        refine (badd_int _ m _ _ s _ (HS4.out.alloc _) hs0 (by have := HSN.out; omega) (by omega)).mono ?_
        rintro e w5 ⟨rfl, hs5, hg5, hz5⟩
        have HS5 := Lib.hid hs5
        have HX5 := Lib.hid ((HX4.out.alloc _).grown hg5 (by simp; omega))
        have HC5 := Lib.hid ((Box.new w4 _ _).grown hg5 (by simp; omega))
        have HW5 : Hid (Below w.heap.size w w5) := Lib.hid (((HWR.out.trans (HB4.out.mono HWR.out.size)).alloc (by omega) _).grown hg5 (by simp; omega) (fun q hq => by cases hq; omega))
        have hz5' : w5.heap.size = w4.heap.size + 1 := by rw [hz5]; simp
        have hlt5 : w.heap.size < w5.heap.size := by omega
        clear hs5 hg5 hz5 zr4 rr4
        obtain ⟨z5, r5⟩ := HX5.out
        have hmf := @run_makeFunc_any' Try.prog
        have HZ5 := Lib.hid hz5'
        clear hz5'
        go_wp2
        have HI6 : Hid (SpotsInv w (w5.alloc (.cells #[.int .i64 f.senders] 3)) wr.heap.size m w4.heap.size w5.heap.size #[.int .i64 f.senders, .slice a f.lots.length cap] (spotsTo f s 0) (beforeI f 0)) :=
          Lib.hid ⟨HW5.out.alloc HW5.out.size _, HX5.out.alloc _, HS5.out.alloc _, HC5.out.alloc _, Cell1.new _ _ _, hz, hz2, by have := HZ5.out; omega⟩
        obtain ⟨bb, hbb⟩ : ∃ x, wr.heap.size = x := ⟨_, rfl⟩
        obtain ⟨bc, hbc⟩ : ∃ x, w4.heap.size = x := ⟨_, rfl⟩
        obtain ⟨bn, hbn⟩ : ∃ x, w5.heap.size = x := ⟨_, rfl⟩
        rw [hbb, hbc, hbn] at HI6 ⊢
        obtain ⟨w6, hw6⟩ : ∃ w6, w5.alloc (.cells #[.int .i64 f.senders] 3) = w6 := ⟨_, rfl⟩
        rw [hw6] at HI6 ⊢
        have hzb : w.heap.size < bb := by omega
        clear hw6 hbb hbc hbn z5 r5 hz hz2 hlt5 hmf HS5 HX5 HC5 HW5 HZ5 HS4 HB4 HX4 HXR
        go_loopw [41] (fun i W => ∃ k : Nat, k ≤ f.lots.length ∧ i = .int .i64 k ∧ SpotsInv w W bb m bc bn #[.int .i64 f.senders, .slice a f.lots.length cap] (spotsTo f s k) (beforeI f k)) (fun i _ => f.lots.length - (intOf i).toNat)
        case atStart => exact ⟨0, by omega, rfl, HI6.out⟩
        case round =>
          obtain ⟨k, hk, rfl, hci⟩ := hrel
          have HCI := Lib.hid hci
          clear hci
          by_cases hlt : k < f.lots.length
          · obtain rfl : a = some ⟨b, off, none⟩ := by rcases ha with ha | ha; exact ha; omega
            obtain ⟨vi, vk, vp, ⟨hb, c1⟩, ⟨_, c2⟩, ⟨_, c3⟩, hlot⟩ := HC.out k hlt
            have HLT := Lib.hid hlot
            obtain ⟨⟨b1, off1, cap1, ⟨a1, rfl, hc1, _⟩, hl1, _⟩, rfl, ⟨b2, off2, cap2, ⟨a2, rfl, hc2, _⟩, hl2, _⟩⟩ := hlot
            have HWQ := Lib.hid HCI.out.1
            have q1 := (HWQ.out.cell (p := ⟨b, off + k * 3, none⟩) (by show b < _; omega)).trans c1
            have q2 := (HWQ.out.cell (p := ⟨b, off + k * 3 + 1, none⟩) (by show b < _; omega)).trans c2
            have q3 := (HWQ.out.cell (p := ⟨b, off + k * 3 + 2, none⟩) (by show b < _; omega)).trans c3
            have HIK := Lib.hid (HI.out k hlt)
            have HBM := Lib.hid (beforeI_mono (f := f) (k := k + 1) (m := f.lots.length) (by omega))
            have HLB := Lib.hid (lotsB_lot HK.out.2.2.2.2 hlt)
            have HI1 := Lib.hid (lotB_ins HLB.out)
            have HP1 : Hid ((lotAt f.lots k).known = true → (lotAt f.lots k).perm.length = (lotAt f.lots k).ins.length ∧ ∀ y ∈ (lotAt f.lots k).perm, 0 ≤ y ∧ y < (lotAt f.lots k).ins.length) := Lib.hid (fun h => lotB_permin HLB.out h)
            have HBS : Hid (beforeI f (k + 1) = beforeI f k + (lotAt f.lots k).ins.length) := Lib.hid rfl
            have HSS : Hid (spotsTo f s (k + 1) = follTo (lotAt f.lots k) (beforeI f k) (spotsTo f s k) (lotAt f.lots k).ins.length) := Lib.hid rfl
            obtain ⟨d, hd⟩ : ∃ d, lotAt f.lots k = d := ⟨_, rfl⟩
            rw [hd] at q1 q2 q3 HBS HLT HSS HI1 HP1 HIK hl1 hl2 hc1 hc2
            clear hd c1 c2 c3
            have eg := enters_of Try.func96 (by kernel_rfl) rfl
            unfold Enters at eg
            go_wp2_with fail
            have HI7 := Lib.hid (HCI.out.ext (box_below' wr (.cells #[.slice a1 d.ins.length cap1, .bool d.known, .slice a2 d.perm.length cap2] 45)))
            have HL7 := Lib.hid (HLT.out.below HI7.out.1 hB)
            obtain ⟨w7, hw7⟩ : ∃ w7, wr.alloc (.cells #[.slice a1 d.ins.length cap1, .bool d.known, .slice a2 d.perm.length cap2] 45) = w7 := ⟨_, rfl⟩
            rw [hw7] at HI7 HL7 ⊢
            clear hw7 q1 q2 q3
            refine (sfollow_any B w7 _ _ _ d (beforeI f k) (spotsTo f s k) bb m m bc bn HL7.out (by have := HI7.out.1.size; omega) HI7.out.2.2.2.1 HI7.out.2.2.2.2.1 HI7.out.2.2.1 (by have := HI7.out.2.2.2.2.2; omega) HI1.out HP1.out HIK.out.2.1 (by have := HBM.out; have := HBS.out; have := HN.out; omega) hm2.1).mono ?_
            rintro e w8 ⟨rfl, hs8, hn8, ht8⟩
            have HI8 := Lib.hid (HI7.out.foll hs8 hn8 ht8)
            clear hs8 hn8 ht8
            go_wp2
            go_roundw
            case rel => exact ⟨k + 1, by omega, by go_num, by rw [HSS.out, HBS.out]; exact HI8.out⟩
            case measure => simp [intOf]; omega
          · obtain rfl : k = f.lots.length := by omega
            have c3 := HCI.out.2.2.2.1.2 0
            go_wp2
            go_ret
            exact ⟨bb, m, rfl, HCI.out.2.2.1, by rw [HN.out]; omega, hm2.1, by omega, HCI.out.1⟩

end Go.Proofs.Ytndcbnnbgedgcaa
