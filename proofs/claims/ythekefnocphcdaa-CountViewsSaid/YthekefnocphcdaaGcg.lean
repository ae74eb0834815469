/- Layers Mp1 OpenU8 LotsX Cw8 Cw9: the walks and the plain laws under the last text, merged and cut to what it uses; nothing is assumed. -/
import Derived.Deep.CutRange
import Derived.Deep.Slices
import Derived.StillTailTactics
import Derived.Test.YthekefnocphcdaaGcf

set_option linter.unusedVariables false

set_option linter.unusedSimpArgs false

namespace Go.Proofs.Ythekefnocphcdaa

open Go.RowKit

def mapE (f : Flow) : Int := if checkE f ≠ 0 then checkE f else if knownB f then 0 else 1

def mapR (f : Flow) : List Int := if mapE f = 0 then mapL f else []

/-- what holds while the map is made: bm: its block, P: where the first n senders are -/
def MapInv (w W : World) (bm : Nat) (fb : Array Value) (n : Nat) (P : Nat → Int) : Prop :=
  Below w.heap.size w W ∧ Box W w.heap.size fb ∧ w.heap.size < bm ∧ ∃ l, IntMap W bm l ∧ Sat n P l

theorem IntMap.kept {r : Nat} {w w' : World} {l : AL} {row : Option Nat} (h : IntMap w r l) (hg : w.grownBy w' row) (hne : some r ≠ row) : IntMap w' r l := by
  obtain ⟨es, c, h1, h2⟩ := h
  exact ⟨es, c, (hg.block r (Array.getElem?_eq_some_iff.1 h1).1 hne).trans h1, h2⟩

theorem MapInv.ext {w W W' : World} {bm n : Nat} {fb : Array Value} {P : Nat → Int} (h : MapInv w W bm fb n P) (hb : Below W.heap.size W W') : MapInv w W' bm fb n P := by
  obtain ⟨h1, h2, h3, l, h4, h5⟩ := h
  exact ⟨h1.trans (hb.mono h1.size), h2.ext hb, h3, l, h4.ext hb, h5⟩

theorem MapInv.alloc {w W : World} {bm n : Nat} {fb : Array Value} {P : Nat → Int} (h : MapInv w W bm fb n P) (o : Obj) : MapInv w (W.alloc o) bm fb n P := h.ext (box_below' W o)

theorem MapInv.count {w W : World} {bm n bc : Nat} {fb : Array Value} {P : Nat → Int} (h : MapInv w W bm fb n P) (hc : bm < bc) (v : Value) : MapInv w (W.setCell ⟨bc, 0, none⟩ v) bm fb n P := by
  obtain ⟨h1, h2, h3, l, h4, h5⟩ := h
  have hg := grown_setCell W ⟨bc, 0, none⟩ v
  exact ⟨h1.setCell (by show w.heap.size ≤ bc; omega) _, h2.grown hg (by simp; omega), h3, l, h4.setCell _ _ (by show bm ≠ bc; omega), h5⟩

theorem MapInv.go {w W W' : World} {bm n n' : Nat} {fb : Array Value} {P P' : Nat → Int} {l' : AL} (h : MapInv w W bm fb n P) (hm : IntMap W' bm l') (hs : Sat n' P' l') (hg : W.grownBy W' (some bm)) : MapInv w W' bm fb n' P' := by
  obtain ⟨h1, h2, h3, l, h4, h5⟩ := h
  exact ⟨h1.grown hg h1.size (fun q hq => by cases hq; omega), h2.grown hg (by simp; omega), h3, l', hm, hs⟩

theorem MapInv.eq {w W : World} {bm n : Nat} {fb : Array Value} {P P' : Nat → Int} (h : MapInv w W bm fb n P) (he : ∀ s, s < n → P s = P' s) : MapInv w W bm fb n P' := by
  obtain ⟨h1, h2, h3, l, h4, h5⟩ := h
  exact ⟨h1, h2, h3, l, h4, h5.eq he⟩

theorem MapInv.lt {w W : World} {bm n : Nat} {fb : Array Value} {P : Nat → Int} (h : MapInv w W bm fb n P) : bm < W.heap.size := by obtain ⟨_, _, _, l, h4, _⟩ := h; exact h4.lt

theorem Box.freeN {w : World} {b : Nat} {cs : Array Value} (h : Box w b cs) : b < w.heap.size := h.1

set_option maxHeartbeats 8000000 in
set_option maxRecDepth 100000 in
/-- flows.Map -/
theorem fmap_any (B : Nat) (w : World) (vs vl : Value) (f : Flow) (hf : IsFlow B w vs vl f) (hB : B ≤ w.heap.size) :
    Calls Try.prog 30 #[.agg #[vs, vl]] w fun e w' => ∃ v, e = .returned (.tuple #[v, .int .i64 (mapE f)]) ∧ OwnInts w.heap.size w' v (mapR f) ∧ Below w.heap.size w w' := by
  by_cases hck : checkE f = 0
  · have HF := Lib.hid hf
    have HCK := Lib.hid hck
    obtain ⟨h0, h64, h2000, h50, hlots⟩ := checkE_ok hck
    have HC := Lib.hid (fun o => fcheck_any B (w.alloc o) _ _ f (HF.out.below (box_below hB o) (Nat.le_refl _)) (by simp; omega))
    have HK := Lib.hid (fun W (hW : Below w.heap.size w W) => known_any B W _ _ f (HF.out.below hW hB) (Nat.le_trans hB hW.size))
    have HLT := Lib.hid hlots
    have H50 := Lib.hid h50
    obtain ⟨rfl, ⟨hs1, hs2⟩, hl⟩ := hf
    obtain ⟨b, off, cap, ⟨a, rfl, hcap, hmax, ha⟩, hlen, hc⟩ := hl
    have HCL := Lib.hid hc
    have HA := Lib.hid ha
    have HBB : Hid (∀ k, k ≤ f.lots.length → 0 ≤ beforeI f k ∧ beforeI f k ≤ 50000) := Lib.hid fun k hk => before_bd hck hk
    obtain ⟨n, hn⟩ : ∃ n : Nat, f.senders = (n : Int) := ⟨f.senders.toNat, by omega⟩
    have hn64 : n ≤ 64 := by omega
    have hB0 : beforeI f 0 = (n : Int) := hn
    have HB0 := Lib.hid hB0
    have HTN : Hid (f.senders.toNat = n) := Lib.hid (by omega)
    have HS0 : Hid (0 ≤ f.senders) := Lib.hid h0
    rw [hck] at HC
    rw [hn] at HF HC HK ⊢
    clear hc ha hlots h50 hck hn h0 h64 hB0 hs1 hs2
    go_enter Try.func30, Try.ntmps30
    go_wp2_with fail
    refine (HC.out _).mono ?_
    rintro e w1 ⟨rfl, hb1⟩
    have HX1 := Lib.hid ((Box.new w #[.int .i64 (n : Int), .slice a f.lots.length cap] 24).ext hb1)
    have HW1 : Hid (Below w.heap.size w w1) := Lib.hid ((box_below' w _).trans (hb1.mono (by simp)))
    obtain ⟨z1, r1⟩ := HX1.out
    clear hb1
    go_wp2_with fail
    refine (HK.out w1 HW1.out).mono ?_
    rintro e w2 ⟨rfl, hb2⟩
    have HX2 := Lib.hid (HX1.out.ext hb2)
    have HW2 : Hid (Below w.heap.size w w2) := Lib.hid (HW1.out.trans (hb2.mono HW1.out.size))
    clear hb2 z1 r1
    obtain ⟨z2, r2⟩ := HX2.out
    cases hkn : knownB f
    · have HE : Hid (mapE f = 1) := Lib.hid (by unfold mapE; rw [if_neg (by rw [HCK.out]; simp), hkn]; rfl)
      have HR : Hid (mapR f = []) := Lib.hid (by unfold mapR; rw [if_neg (by rw [HE.out]; decide)])
      clear hkn
      go_wp2
      go_ret2
      exact ⟨.slice none 0 0, by rw [HE.out]; rfl, by rw [HR.out]; exact OwnInts.nil _ _, HW2.out⟩
    · have HKN := Lib.hid (knownB_at hkn)
      have HE : Hid (mapE f = 0) := Lib.hid (by unfold mapE; rw [if_neg (by rw [HCK.out]; simp), hkn]; rfl)
      have HR : Hid (mapR f = mapL f) := Lib.hid (by unfold mapR; rw [if_pos HE.out])
      have hmm := @run_makeMap Try.prog
      clear hkn
      go_wp2
      obtain ⟨bm, hbm⟩ : ∃ x, w2.heap.size = x := ⟨_, rfl⟩
      have HI0 : Hid (MapInv w (w2.alloc (.map #[] 0)) bm #[.int .i64 (n : Int), .slice a f.lots.length cap] 0 (fun s => (s : Int))) := Lib.hid ⟨HW2.out.alloc HW2.out.size _, HX2.out.alloc _, by omega, [], by rw [← hbm]; exact IntMap.made w2, Sat.nil _⟩
      rw [hbm]
      obtain ⟨W0, hW0⟩ : ∃ W, w2.alloc (.map #[] 0) = W := ⟨_, rfl⟩
      rw [hW0] at HI0 ⊢
      clear hW0 hbm z2 r2 hmm
      go_loopw [26] (fun i W => ∃ k : Nat, k ≤ n ∧ i = .int .i64 k ∧ MapInv w W bm #[.int .i64 (n : Int), .slice a f.lots.length cap] k (fun s => (s : Int))) (fun i _ => n - (intOf i).toNat)
      case atStart => exact ⟨0, by omega, rfl, HI0.out⟩
      case round =>
        obtain ⟨k, hk, rfl, hinv⟩ := hrel
        have HI := Lib.hid hinv
        obtain ⟨_, hbx, _, l, hm, hst⟩ := hinv
        have HM := Lib.hid hm
        have HST := Lib.hid hst
        obtain ⟨z3, r3⟩ := hbx
        clear hm hst
        by_cases hlt : k < n
        · have hlt' : decide ((k : Int) < (n : Int)) = true := decide_eq_true (by omega)
          go_wp2_with (at_mapUpdate; refine wpList_update_ints rfl _ _ _ rfl Try.underlying83 Try.underlying3 rfl HM.out rfl rfl ?_; intro w8 hm8 hg8 hz8; have HM8 := Lib.hid hm8; have HG8 := Lib.hid hg8; clear hm8 hg8 hz8)
          go_roundw
          case rel => exact ⟨k + 1, by omega, by go_num, HI.out.go HM8.out (HST.out.more (fun s hs e => by omega)) HG8.out⟩
          case measure => simp [intOf]; omega
        · have hlt' : decide ((k : Int) < (n : Int)) = false := decide_eq_false (by omega)
          obtain rfl : k = n := by omega
          clear HM HST
          go_wp2_with (go_at_call 60; refine (counter_any _ _).mono ?_; rintro e w' ⟨rfl, rfl⟩)
          obtain ⟨bc, hbc⟩ : ∃ x, wr.heap.size = x := ⟨_, rfl⟩
          have hbmc : bm < bc := by have := HI.out.lt; omega
          have HI1 : Hid (MapInv w (wr.alloc (.cells #[.int .i64 (k : Int)] 3)) bm #[.int .i64 (k : Int), .slice a f.lots.length cap] k (fun s => spotAt f (s : Int) 0)) := Lib.hid (HI.out.alloc _)
          have HC1 : Hid (Cell1 (wr.alloc (.cells #[.int .i64 (k : Int)] 3)) bc (.int .i64 (beforeI f 0))) := Lib.hid (by rw [HB0.out, ← hbc]; exact Cell1.new wr _ _)
          rw [hbc]
          obtain ⟨W1, hW1⟩ : ∃ W, wr.alloc (.cells #[.int .i64 (k : Int)] 3) = W := ⟨_, rfl⟩
          rw [hW1] at HI1 HC1 ⊢
          clear hW1 hbc z3 r3 HI HI0
          go_loopw [39] (fun i W => ∃ j : Nat, j ≤ f.lots.length ∧ i = .int .i64 j ∧ MapInv w W bm #[.int .i64 (k : Int), .slice a f.lots.length cap] k (fun s => spotAt f (s : Int) j) ∧ Cell1 W bc (.int .i64 (beforeI f j))) (fun i _ => f.lots.length - (intOf i).toNat)
          case atStart => exact ⟨0, by omega, rfl, HI1.out, HC1.out⟩
          case round =>
            obtain ⟨j, hj, rfl, hinv, hcc⟩ := hrel
            have HI := Lib.hid hinv
            have HCC := Lib.hid hcc
            clear hinv hcc
            by_cases hlt : j < f.lots.length
            · obtain rfl : a = some ⟨b, off, none⟩ := by rcases HA.out with h | h; exact h; omega
              obtain ⟨vi, vk, vp, ⟨hb, c1⟩, ⟨_, c2⟩, ⟨_, c3⟩, hlot⟩ := HCL.out j hlt
              obtain ⟨⟨b1, off1, cap1, ⟨a1, rfl, hc1, _, ha1⟩, hl1, hz1, hi1⟩, rfl, ⟨b2, off2, cap2, ⟨a2, rfl, hc2, _, ha2⟩, hl2, hz2, hi2⟩⟩ := hlot
              have HWR := Lib.hid HI.out.1
              have q1 := (HWR.out.cell (p := ⟨b, off + j * 3, none⟩) (by show b < _; omega)).trans c1
              have q2 := (HWR.out.cell (p := ⟨b, off + j * 3 + 1, none⟩) (by show b < _; omega)).trans c2
              have q3 := (HWR.out.cell (p := ⟨b, off + j * 3 + 2, none⟩) (by show b < _; omega)).trans c3
              have HG0 := Lib.hid (HBB.out j (by omega))
              have HG1 := Lib.hid (HBB.out (j + 1) (by omega))
              have HBS : Hid (beforeI f (j + 1) = beforeI f j + (lotAt f.lots j).ins.length) := Lib.hid rfl
              have hlj : lotsB f j = true := lotsB_le HLT.out (by omega)
              have hbj : lotB f j = true := lotsB_lot HLT.out hlt
              have hkj : ∀ m, m < j + 1 → (lotAt f.lots m).known = true := fun m hm => HKN.out m (by omega)
              have HAT := Lib.hid (fun i hi => HTN.out ▸ inLot_at HS0.out hlj hbj hkj (i := i) hi)
              have HPA := Lib.hid (fun i hi => perm_at hbj hkj (i := i) hi)
              have HSTP := Lib.hid (fun i t hi ht he => HTN.out ▸ inLot_step HS0.out hlj hbj hkj (i := i) (t := t) hi (by rw [HTN.out]; exact ht) he)
              have HFR := Lib.hid (fun i s hi hs => inLot_fresh HS0.out hlj hbj hkj (i := i) (s := s) hi (by rw [HTN.out]; exact hs))
              have HZ := Lib.hid (inLot_zero f j)
              have HEN := Lib.hid (inLot_end f j)
              have HI1' := Lib.hid hi1
              have HI2' := Lib.hid hi2
              have HZ1 := Lib.hid hz1
              have HZ2 := Lib.hid hz2
              have HA1 := Lib.hid ha1
              have HA2 := Lib.hid ha2
              obtain ⟨d, hd⟩ : ∃ d, lotAt f.lots j = d := ⟨_, rfl⟩
              rw [hd] at q1 q2 q3 HBS hl1 hl2 hc1 hc2 HAT HPA HSTP HFR HEN HI1' HI2' HZ1 HZ2 HA1 HA2
              clear hd c1 c2 c3 hlj hbj hkj hi1 hi2 hz1 hz2 ha1 ha2
              obtain ⟨m, hm⟩ : ∃ m, wr.heap.size = m := ⟨_, rfl⟩
              have hwm : w.heap.size < m ∧ bc < m ∧ bm < m := by rw [← hm]; exact ⟨by have := HI.out.lt; have := HI.out.2.2.1; omega, HCC.out.lt, HI.out.lt⟩
              go_wp2_with fail
              refine (count_any (beforeI f j) d.ins.length bc _ (HCC.out.alloc _) (by have := HG0.out; omega) (by have := HG0.out; omega) (by omega) (by omega)).mono ?_
              rintro e w' ⟨rfl, rfl⟩
              have HI3 : Hid (MapInv w ((wr.alloc (.cells #[.slice a1 d.ins.length cap1, .bool d.known, .slice a2 d.perm.length cap2] 39)).setCell ⟨bc, 0, none⟩ (.int .i64 (beforeI f j + d.ins.length))) bm #[.int .i64 (k : Int), .slice (some ⟨b, off, none⟩) f.lots.length cap] k (inLot f j 0)) := Lib.hid (((HI.out.alloc _).count hbmc _).eq (fun s _ => (HZ.out s).symm))
              have HC3 : Hid (Cell1 ((wr.alloc (.cells #[.slice a1 d.ins.length cap1, .bool d.known, .slice a2 d.perm.length cap2] 39)).setCell ⟨bc, 0, none⟩ (.int .i64 (beforeI f j + d.ins.length))) bc (.int .i64 (beforeI f (j + 1)))) := Lib.hid (by rw [HBS.out]; exact (HCC.out.alloc _).set _)
              have HX3 : Hid (Box ((wr.alloc (.cells #[.slice a1 d.ins.length cap1, .bool d.known, .slice a2 d.perm.length cap2] 39)).setCell ⟨bc, 0, none⟩ (.int .i64 (beforeI f j + d.ins.length))) m #[.slice a1 d.ins.length cap1, .bool d.known, .slice a2 d.perm.length cap2]) :=
                Lib.hid (by rw [← hm] at hwm ⊢; exact (Box.new wr _ _).grown (grown_setCell _ _ _) (by simp; omega))
              obtain ⟨w3, hw3⟩ : ∃ w3, ((wr.alloc (.cells #[.slice a1 d.ins.length cap1, .bool d.known, .slice a2 d.perm.length cap2] 39)).setCell ⟨bc, 0, none⟩ (.int .i64 (beforeI f j + d.ins.length))) = w3 := ⟨_, rfl⟩
              rw [hw3] at HI3 HC3 HX3 ⊢
              clear hw3 q1 q2 q3 hm HI HCC HI1 HC1
              obtain ⟨z3, r3⟩ := HX3.out
              go_wp2
              go_loopw [51] (fun i W => ∃ q : Nat, q ≤ d.ins.length ∧ i = .int .i64 q ∧ MapInv w W bm #[.int .i64 (k : Int), .slice (some ⟨b, off, none⟩) f.lots.length cap] k (inLot f j q) ∧ w3.grownBy W (some bm)) (fun i _ => d.ins.length - (intOf i).toNat)
              case atStart => exact ⟨0, by omega, rfl, HI3.out, grown_refl _ _⟩
              case round =>
                obtain ⟨q, hq, rfl, hinv, hgr⟩ := hrel
                have HI := Lib.hid hinv
                have HGR := Lib.hid hgr
                clear hinv hgr r3
                by_cases hlq : q < d.ins.length
                · obtain rfl : a1 = some ⟨b1, off1, none⟩ := by rcases HA1.out with h | h; exact h; omega
                  obtain ⟨g1, g2, g3, g4⟩ := HPA.out q hlq
                  have hqp : q < d.perm.length := by omega
                  clear g3 g4
                  obtain rfl : a2 = some ⟨b2, off2, none⟩ := by rcases HA2.out with h | h; exact h; omega
                  have HWI := Lib.hid HI.out.1
                  have x1 := (HWI.out.cell (p := ⟨b1, off1 + q, none⟩) (by have := (HI1'.out q hlq).1; show b1 < _; omega)).trans (HI1'.out q hlq).2
                  obtain ⟨t, ht, het⟩ := HAT.out q hlq
                  have HSTEP := Lib.hid (HSTP.out q t hlq ht het)
                  have HFRE := Lib.hid (fun s hs => HFR.out q s hlq hs)
                  have HET := Lib.hid het
                  obtain ⟨_, _, hbm0, l, hml, hsl⟩ := id HI.out
                  have HML := Lib.hid hml
                  have HSL := Lib.hid hsl
                  have HLK : Hid (alook l (nth d.ins q) = some (.int .i64 (t : Int))) := Lib.hid (by rw [← het]; exact hsl.look ht)
                  have HG0' := HG0.out
                  have HG1' := HG1.out
                  rw [HBS.out] at HG1'
                  obtain ⟨bv, hbv⟩ : ∃ x, beforeI f j = x := ⟨_, rfl⟩
                  have HBV := Lib.hid hbv
                  rw [hbv] at HG0' HG1' HSTEP HFRE ⊢
                  clear hml hsl het hbv
                  obtain ⟨ix, hix⟩ : ∃ x, nth d.ins q = x := ⟨_, rfl⟩
                  have HIX := Lib.hid hix
                  rw [hix] at x1 HLK HET
                  clear hix
                  have hcq := HI2'.out q hqp
                  obtain ⟨px, hpx⟩ : ∃ x, nth d.perm q = x := ⟨_, rfl⟩
                  have HPX := Lib.hid hpx
                  rw [hpx] at hcq g1 g2 HSTEP HFRE
                  clear hpx
                  have HSUM : Hid (IntKind.i64.wrap (bv + px) = bv + px) := Lib.hid (by rw [IntWalk.i64_in _ (by omega)])
                  have HKB : Hid (∀ W, wr.grownBy W (some bm) → W.cell? ⟨m, 2, none⟩ = some (.slice (some ⟨b2, off2, none⟩) d.perm.length cap2) ∧ W.cell? ⟨b2, off2 + q, none⟩ = some (.int .i64 px)) := Lib.hid fun W hW => by
                    have hgg := grown_trans HGR.out hW
                    refine ⟨(grown_cell hgg z3 (by simp; omega)).trans (HX3.out.2 2), ?_⟩
                    have h1 := HWI.out.grown hW HWI.out.size (fun z hz => by cases hz; omega)
                    exact (h1.cell (p := ⟨b2, off2 + q, none⟩) (by have := hcq.1; show b2 < _; omega)).trans hcq.2
                  obtain ⟨W4, rfl⟩ : ∃ W, W = wr := ⟨_, rfl⟩
                  clear hcq
                  go_upto_region 20 with fail
                  obtain ⟨V, hV⟩ : ∃ V : List (Option Value), V = [some (.map (some bm)), some (.int .i64 bv), some (.pointer (some ⟨m, 2, none⟩)), some (.slice (some ⟨b2, off2, none⟩) d.perm.length cap2), some (.int .i64 (q : Int)), some (.pointer (some ⟨b2, off2 + q, none⟩)), some (.int .i64 px), some (.int .i64 (bv + px)), some (.map (some bm)), some (.int .i64 ix), some (.int .i64 (t : Int)), none] := ⟨_, rfl⟩
                  have HVV := Lib.hid hV
                  clear hV
                  refine wp_region_V [some 56, some 57, some 58, some 59, some 60, some 61, some 62, some 63, some 64, some 65, some 66, none] (fun L w' xs => ValsAt V L xs ∧ ((L 11 = false → IntMap w' bm l) ∧ (L 11 = true → IntMap w' bm (aset l (bv + px) (.int .i64 (t : Int)))) ∧ W4.grownBy w' (some bm) ∧ (L 11 = true → L 10 = true))) (by kernel_rfl) (by kernel_rfl) (by rfl) (by rfl) (by rfl) ?_ ?_ ?_
                  focus
                    exact fun xs => ⟨ValsAt.none _ _, (fun _ => HML.out), (fun h => by cases h), grown_drew _ _, (fun h => by cases h)⟩
                  focus
                    refine ⟨?_, ?_, ?_, ?_, ?_, ?_, ?_, ?_, ?_, ?_, ?_, ?_, trivial⟩
                    all_goals
                      intro L a' w' xs hi hd hf hJ K hK
                      obtain ⟨hv, h0', h1', hgW, hcW⟩ := hJ
                      have HF := Lib.hid hf
                      have HVA := Lib.hid hv
                      have HLI := Lib.hid hi
                      clear hf hv hi
                    focus
                      clear hd
                      obtain ⟨ρ, hρ⟩ : ∃ ρ, a'.eval = ρ := ⟨_, rfl⟩
                      have hcst : ∀ v, ρ (.const v) = v := fun v => (congrFun hρ (.const v)).symm
                      have l5 : ρ (.tmp 5) = .map (some bm) := (congrFun hρ (.tmp 5)).symm.trans (HF.out.lo 5 rfl)
                      rw [if_pos (by simp [Region.wanted])]
                      unfold Oper.wp
                      rw [hρ]
                      clear hρ
                      go_simp
                      exact hK.out _ _ ⟨HVA.out.set (i := 0) (by rw [HVV.out]; rfl), h0', h1', hgW, hcW⟩
                    focus
                      clear hd
                      obtain ⟨ρ, hρ⟩ : ∃ ρ, a'.eval = ρ := ⟨_, rfl⟩
                      have hcst : ∀ v, ρ (.const v) = v := fun v => (congrFun hρ (.const v)).symm
                      have l10 : ρ (.tmp 10) = .int .i64 bv := (congrFun hρ (.tmp 10)).symm.trans (HF.out.lo 10 rfl)
                      rw [if_pos (by simp [Region.wanted])]
                      unfold Oper.wp
                      rw [hρ]
                      clear hρ
                      go_simp
                      exact hK.out _ _ ⟨HVA.out.set (i := 1) (by rw [HVV.out]; rfl), h0', h1', hgW, hcW⟩
                    focus
                      clear hd
                      obtain ⟨ρ, hρ⟩ : ∃ ρ, a'.eval = ρ := ⟨_, rfl⟩
                      have hcst : ∀ v, ρ (.const v) = v := fun v => (congrFun hρ (.const v)).symm
                      have l9 : ρ (.tmp 9) = .pointer (some ⟨m, 0, none⟩) := (congrFun hρ (.tmp 9)).symm.trans (HF.out.lo 9 rfl)
                      rw [if_pos (by simp [Region.wanted])]
                      unfold Oper.wp
                      rw [hρ]
                      clear hρ
                      go_simp
                      exact hK.out _ _ ⟨HVA.out.set (i := 2) (by rw [HVV.out]; rfl), h0', h1', hgW, hcW⟩
                    focus
                      obtain ⟨d2, _⟩ := hd
                      obtain ⟨ρ, hρ⟩ : ∃ ρ, a'.eval = ρ := ⟨_, rfl⟩
                      have hcst : ∀ v, ρ (.const v) = v := fun v => (congrFun hρ (.const v)).symm
                      have v2 : ρ (.tmp 58) = .pointer (some ⟨m, 2, none⟩) := (congrFun hρ (.tmp 58)).symm.trans ((HF.out.ev 2 rfl d2).trans (HVA.out 2 _ (by rw [HVV.out]; rfl) d2))
                      obtain ⟨k0, k1⟩ := HKB.out _ hgW
                      rw [if_pos (by simp [Region.wanted])]
                      unfold Oper.wp
                      rw [hρ]
                      clear hρ
                      go_simp
                      exact hK.out _ _ ⟨HVA.out.set (i := 3) (by rw [HVV.out]; rfl), h0', h1', hgW, hcW⟩
                    focus
                      clear hd
                      obtain ⟨ρ, hρ⟩ : ∃ ρ, a'.eval = ρ := ⟨_, rfl⟩
                      have hcst : ∀ v, ρ (.const v) = v := fun v => (congrFun hρ (.const v)).symm
                      have l11 : ρ (.tmp 11) = .int .i64 (q : Int) := (congrFun hρ (.tmp 11)).symm.trans (HF.out.lo 11 rfl)
                      rw [if_pos (by simp [Region.wanted])]
                      unfold Oper.wp
                      rw [hρ]
                      clear hρ
                      go_simp
                      exact hK.out _ _ ⟨HVA.out.set (i := 4) (by rw [HVV.out]; rfl), h0', h1', hgW, hcW⟩
                    focus
                      obtain ⟨d3, d4, _⟩ := hd
                      obtain ⟨ρ, hρ⟩ : ∃ ρ, a'.eval = ρ := ⟨_, rfl⟩
                      have hcst : ∀ v, ρ (.const v) = v := fun v => (congrFun hρ (.const v)).symm
                      have v3 : ρ (.tmp 59) = .slice (some ⟨b2, off2, none⟩) d.perm.length cap2 := (congrFun hρ (.tmp 59)).symm.trans ((HF.out.ev 3 rfl d3).trans (HVA.out 3 _ (by rw [HVV.out]; rfl) d3))
                      have v4 : ρ (.tmp 60) = .int .i64 (q : Int) := (congrFun hρ (.tmp 60)).symm.trans ((HF.out.ev 4 rfl d4).trans (HVA.out 4 _ (by rw [HVV.out]; rfl) d4))
                      rw [if_pos (by simp [Region.wanted])]
                      unfold Oper.wp
                      rw [hρ]
                      clear hρ
                      go_simp
                      exact hK.out _ _ ⟨HVA.out.set (i := 5) (by rw [HVV.out]; rfl), h0', h1', hgW, hcW⟩
                    focus
                      obtain ⟨d5, _⟩ := hd
                      obtain ⟨ρ, hρ⟩ : ∃ ρ, a'.eval = ρ := ⟨_, rfl⟩
                      have hcst : ∀ v, ρ (.const v) = v := fun v => (congrFun hρ (.const v)).symm
                      have v5 : ρ (.tmp 61) = .pointer (some ⟨b2, off2 + q, none⟩) := (congrFun hρ (.tmp 61)).symm.trans ((HF.out.ev 5 rfl d5).trans (HVA.out 5 _ (by rw [HVV.out]; rfl) d5))
                      obtain ⟨k0, k1⟩ := HKB.out _ hgW
                      rw [if_pos (by simp [Region.wanted])]
                      unfold Oper.wp
                      rw [hρ]
                      clear hρ
                      go_simp
                      exact hK.out _ _ ⟨HVA.out.set (i := 6) (by rw [HVV.out]; rfl), h0', h1', hgW, hcW⟩
                    focus
                      obtain ⟨d1, d6, _⟩ := hd
                      obtain ⟨ρ, hρ⟩ : ∃ ρ, a'.eval = ρ := ⟨_, rfl⟩
                      have hcst : ∀ v, ρ (.const v) = v := fun v => (congrFun hρ (.const v)).symm
                      have v1 : ρ (.tmp 57) = .int .i64 bv := (congrFun hρ (.tmp 57)).symm.trans ((HF.out.ev 1 rfl d1).trans (HVA.out 1 _ (by rw [HVV.out]; rfl) d1))
                      have v6 : ρ (.tmp 62) = .int .i64 px := (congrFun hρ (.tmp 62)).symm.trans ((HF.out.ev 6 rfl d6).trans (HVA.out 6 _ (by rw [HVV.out]; rfl) d6))
                      have hsum := HSUM.out
                      rw [if_pos (by simp [Region.wanted])]
                      unfold Oper.wp
                      rw [hρ]
                      clear hρ
                      go_simp
                      exact hK.out _ _ ⟨HVA.out.set (i := 7) (by rw [HVV.out]; rfl), h0', h1', hgW, hcW⟩
                    focus
                      clear hd
                      obtain ⟨ρ, hρ⟩ : ∃ ρ, a'.eval = ρ := ⟨_, rfl⟩
                      have hcst : ∀ v, ρ (.const v) = v := fun v => (congrFun hρ (.const v)).symm
                      have l5 : ρ (.tmp 5) = .map (some bm) := (congrFun hρ (.tmp 5)).symm.trans (HF.out.lo 5 rfl)
                      rw [if_pos (by simp [Region.wanted])]
                      unfold Oper.wp
                      rw [hρ]
                      clear hρ
                      go_simp
                      exact hK.out _ _ ⟨HVA.out.set (i := 8) (by rw [HVV.out]; rfl), h0', h1', hgW, hcW⟩
                    focus
                      clear hd
                      obtain ⟨ρ, hρ⟩ : ∃ ρ, a'.eval = ρ := ⟨_, rfl⟩
                      have hcst : ∀ v, ρ (.const v) = v := fun v => (congrFun hρ (.const v)).symm
                      have l12 : ρ (.tmp 12) = .int .i64 ix := (congrFun hρ (.tmp 12)).symm.trans (HF.out.lo 12 rfl)
                      rw [if_pos (by simp [Region.wanted])]
                      unfold Oper.wp
                      rw [hρ]
                      clear hρ
                      go_simp
                      exact hK.out _ _ ⟨HVA.out.set (i := 9) (by rw [HVV.out]; rfl), h0', h1', hgW, hcW⟩
                    focus
                      obtain ⟨d8, d9, _⟩ := hd
                      have v8 : a'.eval (.tmp 64) = .map (some bm) := (HF.out.ev 8 rfl d8).trans (HVA.out 8 _ (by rw [HVV.out]; rfl) d8)
                      have v9 : a'.eval (.tmp 65) = .int .i64 ix := (HF.out.ev 9 rfl d9).trans (HVA.out 9 _ (by rw [HVV.out]; rfl) d9)
                      rw [if_pos (by simp [Region.wanted])]
                      have hN : L 11 = false := by
                        cases e : L 11 with
                        | false => rfl
                        | true => have := hcW e; rw [HLI.out] at this; cases this
                      refine wp_lookup_ints (.tmp 64) (.tmp 65) rfl Try.underlying83 Try.underlying3 (Try.zeroValue3 _) v8 (h0' hN) v9 HLK.out ?_
                      exact hK.out _ _ ⟨HVA.out.set (i := 10) (by rw [HVV.out]; rfl), h0', h1', hgW, (fun _ => rfl)⟩
                    focus
                      obtain ⟨d0, d7, d10, _, d1, d2, d3, d4, d5, d6, _, d8, d9, _, _⟩ := hd
                      have v0 : a'.eval (.tmp 56) = .map (some bm) := (HF.out.ev 0 rfl d0).trans (HVA.out 0 _ (by rw [HVV.out]; rfl) d0)
                      have v7 : a'.eval (.tmp 63) = .int .i64 (bv + px) := (HF.out.ev 7 rfl d7).trans (HVA.out 7 _ (by rw [HVV.out]; rfl) d7)
                      have v10 : a'.eval (.tmp 66) = .int .i64 (t : Int) := (HF.out.ev 10 rfl d10).trans (HVA.out 10 _ (by rw [HVV.out]; rfl) d10)
                      rw [if_pos (by simp [Region.wanted])]
                      refine wp_update_ints (.tmp 56) (.tmp 63) (.tmp 66) rfl Try.underlying83 Try.underlying3 v0 (h0' HLI.out) v7 v10 ?_
                      intro w3 q1 q2 q3
                      exact hK.out undef _ ⟨HVA.out.free (i := 11) (by rw [HVV.out]; rfl) _, (fun h => by cases h), (fun _ => q1), grown_trans hgW q2, (fun _ => d10)⟩
                  focus
                    intro L w' xs hL hJ
                    obtain ⟨hv, h0', h1', hgW, hcW⟩ := hJ
                    have e0 : xs 0 = .map (some bm) := hv 0 _ (by rw [HVV.out]; rfl) (hL 0 (by decide))
                    have e1 : xs 1 = .int .i64 bv := hv 1 _ (by rw [HVV.out]; rfl) (hL 1 (by decide))
                    have e2 : xs 2 = .pointer (some ⟨m, 2, none⟩) := hv 2 _ (by rw [HVV.out]; rfl) (hL 2 (by decide))
                    have e3 : xs 3 = .slice (some ⟨b2, off2, none⟩) d.perm.length cap2 := hv 3 _ (by rw [HVV.out]; rfl) (hL 3 (by decide))
                    have e4 : xs 4 = .int .i64 (q : Int) := hv 4 _ (by rw [HVV.out]; rfl) (hL 4 (by decide))
                    have e5 : xs 5 = .pointer (some ⟨b2, off2 + q, none⟩) := hv 5 _ (by rw [HVV.out]; rfl) (hL 5 (by decide))
                    have e6 : xs 6 = .int .i64 px := hv 6 _ (by rw [HVV.out]; rfl) (hL 6 (by decide))
                    have e7 : xs 7 = .int .i64 (bv + px) := hv 7 _ (by rw [HVV.out]; rfl) (hL 7 (by decide))
                    have e8 : xs 8 = .map (some bm) := hv 8 _ (by rw [HVV.out]; rfl) (hL 8 (by decide))
                    have e9 : xs 9 = .int .i64 ix := hv 9 _ (by rw [HVV.out]; rfl) (hL 9 (by decide))
                    have e10 : xs 10 = .int .i64 (t : Int) := hv 10 _ (by rw [HVV.out]; rfl) (hL 10 (by decide))
                    simp only [putGo, Act.put, List.setIfInBounds_toArray, List.set_cons_zero, List.set_cons_succ, e0, e1, e2, e3, e4, e5, e6, e7, e8, e9, e10]
                    clear hv e0 e1 e2 e3 e4 e5 e6 e7 e8 e9 e10
                  have HM5 := Lib.hid (h1' (hL 11 (by decide)))
                  have HG5 := Lib.hid hgW
                  clear h0' h1' hgW hcW hL
                  obtain ⟨w5, rfl⟩ : ∃ W, W = w' := ⟨_, rfl⟩
                  go_wp2_with (at_delete; refine wpList_delete_ints rfl _ _ rfl Try.underlying83 Try.underlying3 rfl HM5.out rfl ?_; intro w8 hm8 hg8 hz8; have HM8 := Lib.hid hm8; have HG8 := Lib.hid hg8; clear hm8 hg8 hz8)
                  go_roundw
                  case rel =>
                    refine ⟨q + 1, by omega, by go_num, HI.out.go HM8.out ?_ (grown_trans HG5.out HG8.out), grown_trans HGR.out (grown_trans HG5.out HG8.out)⟩
                    have h := HSL.out.move ht HFRE.out HSTEP.out
                    rw [HET.out] at h
                    exact h
                  case measure => simp [intOf]; omega
                · obtain rfl : q = d.ins.length := by omega
                  go_wp2
                  go_roundw
                  case rel => exact ⟨j + 1, by omega, by go_num, HI.out.eq (fun s _ => HEN.out s), HC3.out.grown HGR.out (by simp; omega)⟩
                  case measure => simp [intOf]; omega
            · obtain rfl : j = f.lots.length := by omega
              obtain ⟨_, hbx, hbm0, l, hml, hsl⟩ := id HI.out
              have HML := Lib.hid hml
              have HSL := Lib.hid hsl
              obtain ⟨z3, r3⟩ := hbx
              have HSZ := Lib.hid HI.out.1.size
              clear hml hsl HI1 HC1
              obtain ⟨W5, rfl⟩ : ∃ W, W = wr := ⟨_, rfl⟩
              go_wp2_with (first
                | (at_make; refine wpList_make_ints (m := k) (C := w.heap.size) rfl _ _ rfl rfl rfl (by omega) HSZ.out ?_; intro w6 ho6 hb6 hz6; have HO6 := Lib.hid ho6; have HB6 := Lib.hid hb6; have HM6 := Lib.hid (HML.out.ext hb6); have hz6' := hz6; clear ho6 hb6 hz6)
                | (refine wpList_range_ints rfl (.tmp 74) rfl Try.underlying83 rfl HM6.out ?_; intro w9 hit9 hb9 hz9; have HIT9 := Lib.hid hit9; have HB9 := Lib.hid hb9; have hz9' := hz9; clear hit9 hb9 hz9))
              obtain ⟨g, hg⟩ : ∃ x, W5.heap.size = x := ⟨_, rfl⟩
              obtain ⟨r, hr⟩ : ∃ x, w6.heap.size = x := ⟨_, rfl⟩
              have hgr : w.heap.size ≤ g ∧ r = g + 1 ∧ bm < g := by have := HSZ.out; have := HI.out.lt; omega
              rw [hg] at HO6
              rw [hr] at HIT9
              rw [hg, hr]
              have HO9 := Lib.hid (HO6.out.below HB9.out)
              have HB59 : Hid (Below w.heap.size w w9) := Lib.hid (HI.out.1.trans ((HB6.out.trans (HB9.out.mono (by omega))).mono HI.out.1.size))
              have HMP : Hid (∀ s, s < k → nth (mapL f) s = spotAt f (s : Int) f.lots.length ∧ I64 (spotAt f (s : Int) f.lots.length)) := Lib.hid fun s hs => ⟨mapL_at (by rw [HTN.out]; exact hs), by
                obtain ⟨p, p1, p2, p3⟩ := spot_asg HS0.out HLT.out HKN.out
                rw [← p3 s (by rw [HTN.out]; exact hs)]
                have h1 := (p2.2 _).1 (nth_mem' (l := p) (i := s) (by rw [p1, HTN.out]; exact hs))
                have h2 := HBB.out f.lots.length (Nat.le_refl _)
                unfold I64
                omega⟩
              have HML' : Hid ((mapL f).length = k) := Lib.hid (by rw [mapL_len, HTN.out])
              obtain ⟨n1, n2, n3, n4, n5⟩ : g ≠ r ∧ r ≠ bm ∧ g ≠ bm ∧ w.heap.size ≤ g ∧ w.heap.size ≤ r := by omega
              clear hgr hg hr hz6' hz9' HML HM6 HO6 HB6 HB9 z3 r3
              simp only [Act.put, List.setIfInBounds_toArray, List.set_cons_zero, List.set_cons_succ]
              go_loopw [] (fun W => ∃ left ys, MapIter W bm r l left ∧ OwnInts w.heap.size W (.slice (some ⟨g, 0, none⟩) k k) ys ∧ ys.length = k ∧ (∀ s, s < k → nth ys s = spotAt f (s : Int) f.lots.length ∨ (spotAt f (s : Int) f.lots.length, Value.int .i64 (s : Int)) ∈ left) ∧ (∀ p ∈ left, p ∈ l) ∧ Below w.heap.size w W) (fun W => iterLeft W bm r)
              case atStart => exact ⟨l, List.replicate k 0, HIT9.out, HO9.out, by simp, fun s hs => .inr ((HSL.out.2 _ _).2 ⟨s, hs, rfl, rfl⟩), fun p hp => hp, HB59.out⟩
              case round =>
                obtain ⟨left, ys, hit, ho, hys, hin, hsub, hbl⟩ := hrel
                have HIT := Lib.hid hit
                have HLEFT := Lib.hid hit.left
                have HO := Lib.hid ho
                have HYS := Lib.hid hys
                have HIN := Lib.hid hin
                have HSUB := Lib.hid hsub
                have HBL := Lib.hid hbl
                have hne : r ≠ bm := by omega
                clear hit ho hys hin hsub hbl HIT9 HO9 HB59
                by_cases hlf : left = []
                · have HRES : Hid (ys = mapL f) := Lib.hid (ext_nth (by rw [HYS.out, HML'.out]) (fun s hs => by
                    rw [HYS.out] at hs
                    rcases HIN.out s hs with h | h
                    · rw [h, (HMP.out s hs).1]
                    · rw [hlf] at h; cases h))
                  go_wp2_with (refine wpList_next_doneA rfl (.tmp 75) rfl rfl HIT.out hne hlf ?_)
                  go_ret2
                  exact ⟨_, by rw [HE.out]; rfl, by rw [HR.out, ← HRES.out]; exact HO.out, HBL.out⟩
                · go_wp2_with (refine wpList_next_moreA rfl (.tmp 75) rfl rfl HIT.out hne hlf ?_; intro A x v B' w3 hl2 hit3 hg3 hz3 hen; have HIT3 := Lib.hid hit3; have HG3 := Lib.hid hg3; have HL2 := Lib.hid hl2; obtain ⟨s, hs, hps, rfl⟩ := (HSL.out.2 x v).1 (HSUB.out _ (by rw [hl2]; simp)); have HPS := Lib.hid hps; have hs' : s < ys.length := (by rw [HYS.out]; exact hs); have HO3 := Lib.hid (HO.out.kept hg3 (.inr (by simp [Value.ownBlock]; omega))); have c1 := HO3.out.cellAt HYS.out.symm hs'; have c2 := HO3.out.freeAt HYS.out.symm s; have hsk : (s : Int) < (k : Int) := (by omega); clear hit3 hg3 hz3 hl2 hps)
                  have hl2 := HL2.out
                  have hps := HPS.out
                  have HB3 : Hid (Below w.heap.size w w3) := Lib.hid (HBL.out.grown HG3.out HBL.out.size (fun z hz => by cases hz; omega))
                  have HST := Lib.hid (HO3.out.store HYS.out.symm s (y := x) (by rw [← hps]; exact (HMP.out s hs).2))
                  have HLN : Hid ((A ++ B').length < left.length) := Lib.hid (by rw [hl2]; simp)
                  have HSUB2 : Hid (∀ p ∈ A ++ B', p ∈ l) := Lib.hid fun p hp => HSUB.out p (by
                    rw [hl2]
                    rcases List.mem_append.1 hp with h | h
                    · exact List.mem_append_left _ h
                    · exact List.mem_append_right _ (List.mem_cons_of_mem _ h))
                  have HIN2 : Hid (∀ u, u < k → nth (ys.set s x) u = spotAt f (u : Int) f.lots.length ∨ (spotAt f (u : Int) f.lots.length, Value.int .i64 (u : Int)) ∈ A ++ B') := Lib.hid fun u hu => by
                    by_cases e : u = s
                    · subst e
                      left
                      unfold nth
                      rw [List.getD_eq_getElem?_getD, List.getElem?_set_self hs', ← hps]
                      rfl
                    · rcases HIN.out u hu with h | h
                      · left
                        rw [← h]
                        unfold nth
                        rw [List.getD_eq_getElem?_getD, List.getElem?_set_ne (fun h => e h.symm), ← List.getD_eq_getElem?_getD]
                      · right
                        rw [hl2] at h
                        rcases List.mem_append.1 h with h | h
                        · exact List.mem_append_left _ h
                        · rcases List.mem_cons.1 h with h | h
                          · simp only [Prod.mk.injEq, Value.int.injEq] at h
                            exact absurd (by have := h.2; omega) e
                          · exact List.mem_append_right _ h
                  clear hl2 hps
                  go_roundw
                  case rel => exact ⟨A ++ B', ys.set s x, HIT3.out.kept (grown_setCell _ ⟨g, s, none⟩ _) (by simp; omega) (by simp; omega), HST.out, by rw [List.length_set]; exact HYS.out, HIN2.out, HSUB2.out, HB3.out.setCell (p := ⟨g, s, none⟩) (by show w.heap.size ≤ g; omega) _⟩
                  case measure =>
                    have h1 := (HIT3.out.kept (grown_setCell _ ⟨g, s, none⟩ (.int .i64 x)) (by simp; omega) (by simp; omega)).left
                    rw [h1, HLEFT.out]
                    exact HLN.out
  · have HF := Lib.hid hf
    have HE : Hid (mapE f = checkE f) := Lib.hid (by unfold mapE; rw [if_pos hck])
    have HR : Hid (mapR f = []) := Lib.hid (by unfold mapR; rw [if_neg (by rw [HE.out]; exact hck)])
    have HC := Lib.hid (fun o => fcheck_any B (w.alloc o) _ _ f (HF.out.below (box_below hB o) (Nat.le_refl _)) (by simp; omega))
    have hck1 : (checkE f != 0) = true := by simpa using hck
    obtain ⟨rfl, ⟨hs1, hs2⟩, hl⟩ := hf
    obtain ⟨b, off, cap, ⟨a, rfl, hcap, hmax, ha⟩, hlen, hc⟩ := hl
    clear hc ha hck
    go_enter Try.func30, Try.ntmps30
    go_wp2_with fail
    refine (HC.out _).mono ?_
    rintro e w1 ⟨rfl, hb1⟩
    have HW1 : Hid (Below w.heap.size w w1) := Lib.hid ((box_below' w _).trans (hb1.mono (by simp)))
    clear hb1
    go_wp2
    go_ret2
    exact ⟨.slice none 0 0, by rw [HE.out]; rfl, by rw [HR.out]; exact OwnInts.nil _ _, HW1.out⟩

end Go.Proofs.Ythekefnocphcdaa

set_option linter.unusedVariables false

set_option linter.unusedSimpArgs false

namespace Go.Proofs.Ythekefnocphcdaa

open Go.ChangeShapes Go.WideShapes Go.ChangeAt Go.RowKit Go.Deep

def IsU8s (B : Nat) (w : World) (v : Value) (us : List Int) : Prop :=
  ∃ b off cap, SliceV v us.length b off cap ∧ us.length ≤ 140737488351232 ∧ (∀ x ∈ us, (0 : Int) ≤ x ∧ x ≤ 255) ∧ ∀ j, j < us.length → CellB B w b (off + j) (.int .u8 (us.getD j 0))

theorem IsU8s.below {B B' : Nat} {w w' : World} {v : Value} {us : List Int} (h : IsU8s B w v us) (hb : Below B' w w') (hB : B ≤ B') : IsU8s B w' v us := by
  obtain ⟨b, off, cap, h1, h2, h3, h4⟩ := h
  exact ⟨b, off, cap, h1, h2, h3, fun j hj => (h4 j hj).below hb hB⟩

theorem IsU8s.form {B : Nat} {w : World} {v : Value} {us : List Int} (h : IsU8s B w v us) : ∃ a c, v = .slice a us.length c ∧ us.length ≤ c ∧ c ≤ 9223372036854775807 ∧ us.length ≤ 140737488351232 := by
  obtain ⟨b, off, cap, ⟨a, rfl, h2, h3, h4⟩, h5, _⟩ := h
  exact ⟨a, cap, rfl, h2, h3, h5⟩

theorem IsU8s.cell {B : Nat} {w : World} {a : Option Addr} {c : Nat} {us : List Int} (h : IsU8s B w (.slice a us.length c) us) {k : Nat} (hk : k < us.length) : ∃ b off u, a = some ⟨b, off, none⟩ ∧ b < B ∧ u = us.getD k 0 ∧ 0 ≤ u ∧ u ≤ 255 ∧ w.cell? ⟨b, off + k, none⟩ = some (.int .u8 u) := by
  obtain ⟨b, off, cap, ⟨a', he, h2, h3, h4⟩, h5, h6, h7⟩ := h
  cases he
  have hm : us.getD k 0 ∈ us := by rw [List.getD_eq_getElem?_getD, List.getElem?_eq_getElem hk]; exact List.getElem_mem hk
  obtain ⟨m1, m2⟩ := h6 _ hm
  refine ⟨b, off, _, ?_, (h7 k hk).1, rfl, m1, m2, (h7 k hk).2⟩
  rcases h4 with h4 | h4
  · exact h4
  · omega

variable {H : Type} {enc : TypeId × Value → H} {w : World}

theorem open_bytes {fuel : Nat} {v : Value} {x : DataW H × List MemPlace} (h : DataW.trod enc Try.prog w 0 (fun _ => true) true fuel 50 [v] = some x)
    (hsz : ∀ n ∈ x.1.weights Try.prog 50, n ≤ reachBytes) : ∃ us, IsU8s w.heap.size w v us := by
  have hb : Try.prog.bytesOf 5 = 1 := by kernel_rfl
  rcases open_ints Try.underlying50 Try.underlying5 (by kernel_rfl) h with ⟨hv, rfl⟩ | ⟨a, len, cap, zs, hv, _, hl, hm, hzl, rfl, hcell, hwf⟩
  · cases hv
    exact ⟨[], 0, 0, 0, ⟨none, rfl, Nat.le_refl _, by omega, Or.inr rfl⟩, by simp, by simp, fun j hj => by simp at hj⟩
  · cases hv
    simp only [if_true] at hzl
    have h8 := hsz (((lits .u8 (zs.take len) : List (DataW H)).length + (lits .u8 (zs.drop len) : List (DataW H)).length) * Try.prog.bytesOf 5) (by simp only [DataW.weights, Try.underlying50]; exact List.mem_cons_self)
    rw [hb] at h8
    have hlt : (lits .u8 (zs.take len) : List (DataW H)).length = len := by simp [lits]; omega
    have hld : (lits .u8 (zs.drop len) : List (DataW H)).length = cap - len := by simp [lits]; omega
    rw [hlt, hld] at h8
    unfold reachBytes at h8
    have hn : (zs.take len).length = len := by simp; omega
    refine ⟨zs.take len, a.block, a.off, cap, ⟨some a, by rw [hn], by omega, by unfold maxLen at hm; omega, ?_⟩, by omega, fun y hy => ?_, fun j hj => ?_⟩
    · by_cases h0 : len = 0
      · exact Or.inr (by omega)
      · have := (cell_spot (hcell 0 (by omega))).1
        left
        obtain ⟨b, o, sp⟩ := a
        simp [Addr.add] at this
        rw [this]
    · have := hwf y (List.mem_of_mem_take hy)
      simp [Lit.wf, IntKind.min, IntKind.max, IntKind.signed, IntKind.bits] at this
      omega
    · rw [hn] at hj
      have hc := hcell j (by omega)
      have h0 := (cell_spot (hcell 0 (by omega))).1
      have hb2 := (cell_spot hc).2
      obtain ⟨b, o, sp⟩ := a
      simp [Addr.add] at h0
      subst h0
      rw [add_plain] at hc hb2
      refine ⟨hb2, ?_⟩
      rw [hc]
      rw [List.getD_eq_getElem?_getD, List.getD_eq_getElem?_getD, List.getElem?_take, if_pos hj]

set_option maxRecDepth 100000 in
theorem open_IsBytes {r : Reach} {b0 : Nat} {v : Value} {d : DataW H} {p : List MemPlace} (hv : Value.okWide Try.prog w r b0 50 v) (h : DataW.Trod enc Try.prog w 0 (fun _ => true) true 50 v d p)
    (hsz : ∀ n ∈ d.weights Try.prog 50, n ≤ reachBytes) : ∃ us, IsU8s w.heap.size w v us := by
  obtain ⟨fuel, hf⟩ := h
  obtain ⟨a, l, c, rfl⟩ := okWide_slice Try.underlying50 hv
  exact open_bytes hf hsz

end Go.Proofs.Ythekefnocphcdaa

set_option linter.unusedVariables false

set_option linter.unusedSimpArgs false

namespace Go.Proofs.Ythekefnocphcdaa

open Go.RowKit

theorem IsIntsX.keepX {g : Nat} {w w' : World} {v : Value} {xs : List Int} {row : Option Nat} (h : IsIntsX (fun q => q ≠ g) w v xs) (hg : w.grownBy w' row) (hr : ∀ k, row = some k → k = g) : IsIntsX (fun q => q ≠ g) w' v xs := by
  obtain ⟨b, off, cap, h1, h2, h3, h4⟩ := h
  refine ⟨b, off, cap, h1, h2, h3, fun j hj => ?_⟩
  obtain ⟨a, c, d⟩ := h4 j hj
  exact ⟨a, by have := hg.size; omega, (grown_cell hg c (fun e => a (hr _ e))).trans d⟩

theorem OwnInts.intsX {C g : Nat} {w : World} {v : Value} {xs : List Int} (h : OwnInts C w v xs) (hg : g < C) : IsIntsX (fun q => q ≠ g) w v xs := by
  obtain ⟨b, off, cap, h1, h2, h3, h4⟩ := h.isInts
  refine ⟨b, off, cap, h1, h2, h3, fun j hj => ⟨?_, (h4 j hj).1, (h4 j hj).2⟩⟩
  obtain ⟨⟨_, k1⟩, _, _⟩ := h
  obtain ⟨a, e, _, _, ha⟩ := h1
  rcases k1 with ⟨rfl, hn⟩ | ⟨g', cap', cur, rfl, hC, rest⟩
  · omega
  · cases e
    rcases ha with ha | ha
    · cases ha; show b ≠ g; omega
    · omega

def LotX (g : Nat) (w : World) (vi vk vp : Value) (x : Lot) : Prop := IsIntsX (fun q => q ≠ g) w vi x.ins ∧ vk = .bool x.known ∧ IsIntsX (fun q => q ≠ g) w vp x.perm

theorem LotX.keep {g : Nat} {w w' : World} {vi vk vp : Value} {x : Lot} {row : Option Nat} (h : LotX g w vi vk vp x) (hg : w.grownBy w' row) (hr : ∀ k, row = some k → k = g) : LotX g w' vi vk vp x :=
  ⟨h.1.keepX hg hr, h.2.1, h.2.2.keepX hg hr⟩

/-- block g holds the lots ls -/
def LotsX (g : Nat) (w : World) (n cap : Nat) (ls : List Lot) : Prop :=
  ∃ vals : List V3, w.ownsRow 0 39 3 (.slice (some ⟨g, 0, none⟩) n cap) n (flat vals) ∧ vals.length = ls.length ∧ n = ls.length ∧ ls.length ≤ 2513169434900 ∧ ∀ j, j < ls.length → LotX g w (v3At vals j).i (v3At vals j).k (v3At vals j).p (lotAt ls j)

theorem OwnLots.lotsX {C g n cap : Nat} {w : World} {ls : List Lot} (h : OwnLots C w (.slice (some ⟨g, 0, none⟩) n cap) ls) (hn : n = ls.length) (hC : C ≤ w.heap.size) : LotsX g w n cap ls := by
  subst hn
  obtain ⟨vals, h1, h2, h3, h4⟩ := h
  have hg := (h1.lt g rfl).1
  refine ⟨vals, ⟨h1.1, ?_⟩, h2, rfl, h3, fun j hj => ?_⟩
  · rcases h1.2 with hn | ⟨g', cap', cur, hv, hb, rest⟩
    · exact Or.inl hn
    · exact Or.inr ⟨g', cap', cur, hv, by omega, rest⟩
  · obtain ⟨a, b, c⟩ := h4 j hj
    exact ⟨a.kind hC (fun k hk => by show k ≠ g; omega), b, c.kind hC (fun k hk => by show k ≠ g; omega)⟩

theorem LotsX.lt {g n cap : Nat} {w : World} {ls : List Lot} (h : LotsX g w n cap ls) : g < w.heap.size := by
  obtain ⟨vals, h1, _⟩ := h
  exact (h1.lt g rfl).2

theorem LotsX.keep {g n cap : Nat} {w w' : World} {ls : List Lot} {row : Option Nat} (h : LotsX g w n cap ls) (hg : w.grownBy w' row) (hr : row ≠ some g) (hr2 : row = none) : LotsX g w' n cap ls := by
  subst hr2
  obtain ⟨vals, h1, h2, h3, h4, h5⟩ := h
  exact ⟨vals, h1.kept hg (.inr (by simp [Value.ownBlock])), h2, h3, h4, fun j hj => (h5 j hj).keep hg (by simp)⟩

theorem LotsX.below {g n cap : Nat} {w w' : World} {ls : List Lot} (h : LotsX g w n cap ls) (hb : Below w.heap.size w w') : LotsX g w' n cap ls :=
  h.keep (row := none) ⟨hb.os, hb.tape, hb.output, hb.size, fun k hk _ => hb.block k hk⟩ (by simp) rfl

theorem LotsX.cells3 {g n cap k : Nat} {w : World} {ls : List Lot} (h : LotsX g w n cap ls) (hk : k < ls.length) :
    ∃ vi vk vp, w.cell? ⟨g, k * 3, none⟩ = some vi ∧ w.cell? ⟨g, k * 3 + 1, none⟩ = some vk ∧ w.cell? ⟨g, k * 3 + 2, none⟩ = some vp ∧ LotX g w vi vk vp (lotAt ls k) ∧ ∀ j, w.frozen? ⟨g, j, none⟩ = false := by
  obtain ⟨vals, h1, h2, rfl, h3, h4⟩ := h
  have hf := flat_get vals k (by omega)
  exact ⟨_, _, _, (h1.cellAt (k * 3) (by omega)).trans hf.1, (h1.cellAt (k * 3 + 1) (by omega)).trans hf.2.1, (h1.cellAt (k * 3 + 2) (by omega)).trans hf.2.2, h4 k hk, fun j => h1.frozenAt j⟩

theorem LotsX.store {g n cap k : Nat} {w : World} {ls : List Lot} {x : Lot} {vi vk vp : Value} (h : LotsX g w n cap ls) (hk : k < ls.length) (hx : LotX g w vi vk vp x) :
    LotsX g (((w.setCell ⟨g, k * 3, none⟩ vi).setCell ⟨g, k * 3 + 1, none⟩ vk).setCell ⟨g, k * 3 + 2, none⟩ vp) n cap (ls.set k x) := by
  obtain ⟨vals, h1, h2, rfl, h3, h4⟩ := h
  have s1 := (h1.stored (k * 3) vi).1
  have s2 := (s1.stored (k * 3 + 1) vk).1
  have s3 := (s2.stored (k * 3 + 2) vp).1
  rw [flat_set (by omega) ⟨vi, vk, vp⟩] at s3
  have hg := grown_trans (grown_trans (grown_setCell w ⟨g, k * 3, none⟩ vi) (grown_setCell _ ⟨g, k * 3 + 1, none⟩ vk)) (grown_setCell _ ⟨g, k * 3 + 2, none⟩ vp)
  refine ⟨vals.set k ⟨vi, vk, vp⟩, s3, by simp [h2], by simp, by simpa using h3, fun j hj => ?_⟩
  rw [List.length_set] at hj
  rw [v3At_set (by omega), lotAt_setL hk]
  by_cases e : j = k
  · rw [if_pos e, if_pos e]; exact hx.keep hg (by simp)
  · rw [if_neg e, if_neg e]; exact (h4 j hj).keep hg (by simp)

theorem LotsX.isLots {g n cap : Nat} {w : World} {ls : List Lot} (h : LotsX g w n cap ls) : IsLots w.heap.size w (.slice (some ⟨g, 0, none⟩) n cap) ls := by
  have hc := fun k hk => h.cells3 (k := k) hk
  have hg := h.lt
  obtain ⟨vals, h1, h2, rfl, h3, h4⟩ := h
  rcases h1.2 with ⟨hv, _⟩ | ⟨g', cap', cur, hv, hb, _, hnc, hcm, _⟩
  · cases hv
  · cases hv
    refine ⟨g, 0, cap, ⟨some ⟨g, 0, none⟩, rfl, hnc, by unfold maxLen at hcm; omega, .inl rfl⟩, h3, fun j hj => ?_⟩
    obtain ⟨vi, vk, vp, m0, m1, m2, hl, _⟩ := hc j hj
    rw [Nat.zero_add]
    exact ⟨vi, vk, vp, ⟨hg, m0⟩, ⟨hg, m1⟩, ⟨hg, m2⟩, hl.1.ints, hl.2.1, hl.2.2.ints⟩

/-- the form of a list of lots of the call's own -/
theorem OwnLots.formN {C : Nat} {w : World} {v : Value} {ls : List Lot} (h : OwnLots C w v ls) : ∃ a cap, v = .slice a ls.length cap := by
  obtain ⟨vals, ⟨hl, h1⟩, h2, h3, h4⟩ := h
  rcases h1 with ⟨rfl, hn⟩ | ⟨g, cap, cur, rfl, _⟩
  · exact ⟨none, 0, by rw [hn]⟩
  · exact ⟨_, cap, rfl⟩

end Go.Proofs.Ythekefnocphcdaa

set_option linter.unusedVariables false

set_option linter.unusedSimpArgs false

namespace Go.Proofs.Ythekefnocphcdaa

open Go.RowKit

/-- what holds at the head of the loop: the copy at g, its box at p -/
def KnInv (W : World) (f : Flow) (us : List Int) (p : Nat) (a5 : Option Addr) (c5 : Nat) (k : Nat) (wr : World) : Prop :=
  IsLots wr.heap.size wr (.slice a5 f.lots.length c5) (fillF f us k).lots ∧ (∀ g, a5 = some ⟨g, 0, none⟩ → 0 < f.lots.length → LotsX g wr f.lots.length c5 (fillF f us k).lots) ∧
    CellsN wr p #[.int .i64 f.senders, .slice a5 f.lots.length c5] ∧ Below W.heap.size W wr

theorem grown_belowX {W w w' : World} {g : Nat} (h : Below W.heap.size W w) (hg : w.grownBy w' (some g)) (hW : W.heap.size ≤ g) : Below W.heap.size W w' :=
  h.grown hg h.size (fun q hq => by cases hq; exact hW)

set_option maxHeartbeats 16000000 in
set_option maxRecDepth 100000 in
/-- CountKnown -/
theorem countKnown_any (B : Nat) (w : World) (vs vl vu : Value) (f : Flow) (us : List Int) (hf : IsFlow B w vs vl f) (hu : IsU8s B w vu us) (hB : B ≤ w.heap.size) :
    Calls Try.prog 8 #[.agg #[vs, vl], vu] w fun e w' => e = .returned (.bool true) ∧ Below w.heap.size w w' := by
  have HU := Lib.hid hu
  obtain ⟨au, cu, rfl, hu1, hu2, hu3⟩ := hu.form
  clear hu
  have HF := Lib.hid hf
  obtain ⟨rfl, ⟨hs1, hs2⟩, hl⟩ := hf
  obtain ⟨b, off, cap, ⟨a, rfl, hcap, hmax, ha⟩, hlen, hc⟩ := hl
  have HC := Lib.hid hc
  have HA := Lib.hid ha
  clear hc ha
  go_enter Try.func8, Try.ntmps8
  go_wp2_with fail
  refine (sane27_any _).mono ?_
  rintro e w1 ⟨rfl, hb1⟩
  have HX1 := Lib.hid ((Box.new w #[.int .i64 f.senders, .slice a f.lots.length cap] 24).ext hb1)
  have HW1 : Hid (Below w.heap.size w w1) := Lib.hid ((box_below' w _).trans (hb1.mono (by simp)))
  obtain ⟨z1, r1⟩ := HX1.out
  clear hb1
  go_wp2_with fail
  refine (few27_any B w1 _ _ f (HF.out.below HW1.out hB) (Nat.le_trans hB HW1.out.size)).mono ?_
  rintro e w2 ⟨rfl, hb2⟩
  have HX2 := Lib.hid (HX1.out.ext hb2)
  have HW2 : Hid (Below w.heap.size w w2) := Lib.hid (HW1.out.trans (hb2.mono HW1.out.size))
  clear hb2 z1 r1
  cases hfew : few27 f
  · clear hfew
    go_wp2
    go_ret
    exact ⟨rfl, HW2.out⟩
  · have HFW := Lib.hid hfew
    clear hfew
    obtain ⟨z2, r2⟩ := HX2.out
    go_wp2_with fail
    refine (check25_any B w2 _ _ f (HF.out.below HW2.out hB) (Nat.le_trans hB HW2.out.size)).mono ?_
    rintro e w3 ⟨rfl, hb3⟩
    have HX3 := Lib.hid (HX2.out.ext hb3)
    have HW3 : Hid (Below w.heap.size w w3) := Lib.hid (HW2.out.trans (hb3.mono HW2.out.size))
    clear hb3 z2 r2
    by_cases hck : checkE f = 0
    · rw [hck]
      have HCK := Lib.hid hck
      clear hck
      obtain ⟨z3, r3⟩ := HX3.out
      by_cases h5 : 5 < f.senders
      · have h5' : decide (5 < f.senders) = true := decide_eq_true h5
        clear h5
        go_wp2
        go_ret
        exact ⟨rfl, HW3.out⟩
      · have h5' : decide (5 < f.senders) = false := decide_eq_false h5
        have hs5 : f.senders ≤ 5 := by omega
        have H5 := Lib.hid hs5
        have HLAW := Lib.hid (fun G (hG : G = fillF f us f.lots.length) => fill_law HCK.out hs5 us hG)
        have hl2 : f.lots.length ≤ 2000 := (checkE_ok HCK.out).2.2.1
        have HN5 : Hid (∀ k, k < f.lots.length → (lotAt f.lots k).ins.length ≤ 5) := Lib.hid (fun k hk => by
          obtain ⟨h0, _, _, _, hl⟩ := checkE_ok HCK.out
          have h := ins_few h0 hl hk
          omega)
        clear h5 hs5
        go_upto_region 5 with fail
        have HSF : Hid (∀ W, Below w3.heap.size w3 W → SrcLots w3.heap.size W (.slice a f.lots.length cap) f.lots) := Lib.hid fun W hW => (HF.out.2.2.below (HW3.out.trans (hW.mono HW3.out.size)) hB).src (Nat.le_trans hB HW3.out.size)
        have HKP : Hid (∀ W, Below w3.heap.size w3 W → W.cell? ⟨w.heap.size, 0, none⟩ = some (.int .i64 f.senders) ∧ W.cell? ⟨w.heap.size, 1, none⟩ = some (.slice a f.lots.length cap)) := Lib.hid fun W hW => ⟨(HX3.out.below hW z3).2 0, (HX3.out.below hW z3).2 1⟩
        clear r3
        obtain ⟨V, hV⟩ : ∃ V : List (Option Value), V = [some (.pointer (some ⟨w.heap.size, 0, none⟩)), some (.int .i64 f.senders), none, some (.pointer (some ⟨w.heap.size, 1, none⟩)), some (.slice a f.lots.length cap), none, none, none, none] := ⟨_, rfl⟩
        have HVV := Lib.hid hV
        clear hV
        refine wp_region_V [some 31, some 32, some 33, some 34, some 35, some 36, some 37, some 5, none] (fun L w' xs => ValsAt V L xs ∧ (AC w3 f.lots (.int .i64 f.senders) L (xs 2) (xs 5) (xs 6) (xs 7) w')) (by kernel_rfl) (by kernel_rfl) (by rfl) (by rfl) (by rfl) ?_ ?_ ?_
        focus
          exact fun xs => ⟨ValsAt.none _ _, AC.start (below_drewN (Below.refl _ _) 1)⟩
        focus
          refine ⟨?_, ?_, ?_, ?_, ?_, ?_, ?_, ?_, ?_, trivial⟩
          all_goals
            intro L a' w' xs hi hd hf hJ K hK
            obtain ⟨hv, hA⟩ := hJ
            have HF := Lib.hid hf
            have HVA := Lib.hid hv
            have HLI := Lib.hid hi
            clear hf hv hi
          focus
            clear hd
            obtain ⟨ρ, hρ⟩ : ∃ ρ, a'.eval = ρ := ⟨_, rfl⟩
            have hcst : ∀ v, ρ (.const v) = v := fun v => (congrFun hρ (.const v)).symm
            have l2 : ρ (.tmp 2) = .pointer (some ⟨w.heap.size, 0, none⟩) := (congrFun hρ (.tmp 2)).symm.trans (HF.out.lo 2 rfl)
            rw [if_pos (by simp [Region.wanted])]
            unfold Oper.wp
            rw [hρ]
            clear hρ
            go_simp
            exact hK.out _ _ ⟨HVA.out.set (i := 0) (by rw [HVV.out]; rfl), (by simp only [updV_ne (xs := xs) (show (2 : Nat) ≠ 0 by decide), updV_ne (xs := xs) (show (5 : Nat) ≠ 0 by decide), updV_ne (xs := xs) (show (6 : Nat) ≠ 0 by decide), updV_ne (xs := xs) (show (7 : Nat) ≠ 0 by decide)]; exact hA.pass (by omega))⟩
          focus
            obtain ⟨d0, _⟩ := hd
            obtain ⟨ρ, hρ⟩ : ∃ ρ, a'.eval = ρ := ⟨_, rfl⟩
            have hcst : ∀ v, ρ (.const v) = v := fun v => (congrFun hρ (.const v)).symm
            have v0 : ρ (.tmp 31) = .pointer (some ⟨w.heap.size, 0, none⟩) := (congrFun hρ (.tmp 31)).symm.trans ((HF.out.ev 0 rfl d0).trans (HVA.out 0 _ (by rw [HVV.out]; rfl) d0))
            obtain ⟨k0, k1⟩ := HKP.out _ hA.hb
            rw [if_pos (by simp [Region.wanted])]
            unfold Oper.wp
            rw [hρ]
            clear hρ
            go_simp
            exact hK.out _ _ ⟨HVA.out.set (i := 1) (by rw [HVV.out]; rfl), (by simp only [updV_ne (xs := xs) (show (2 : Nat) ≠ 1 by decide), updV_ne (xs := xs) (show (5 : Nat) ≠ 1 by decide), updV_ne (xs := xs) (show (6 : Nat) ≠ 1 by decide), updV_ne (xs := xs) (show (7 : Nat) ≠ 1 by decide)]; exact hA.pass (by omega))⟩
          focus
            clear hd
            obtain ⟨ρ, hρ⟩ : ∃ ρ, a'.eval = ρ := ⟨_, rfl⟩
            have hcst : ∀ v, ρ (.const v) = v := fun v => (congrFun hρ (.const v)).symm
            rw [if_pos (by simp [Region.wanted])]
            unfold Oper.wp
            rw [hρ]
            clear hρ
            go_simp
            exact hK.out _ _ ⟨HVA.out.free (i := 2) (by rw [HVV.out]; rfl) _, (by simp only [updV_ne (xs := xs) (show (5 : Nat) ≠ 2 by decide), updV_ne (xs := xs) (show (6 : Nat) ≠ 2 by decide), updV_ne (xs := xs) (show (7 : Nat) ≠ 2 by decide), updV_self]; exact hA.s2 HLI.out)⟩
          focus
            clear hd
            obtain ⟨ρ, hρ⟩ : ∃ ρ, a'.eval = ρ := ⟨_, rfl⟩
            have hcst : ∀ v, ρ (.const v) = v := fun v => (congrFun hρ (.const v)).symm
            have l2 : ρ (.tmp 2) = .pointer (some ⟨w.heap.size, 0, none⟩) := (congrFun hρ (.tmp 2)).symm.trans (HF.out.lo 2 rfl)
            rw [if_pos (by simp [Region.wanted])]
            unfold Oper.wp
            rw [hρ]
            clear hρ
            go_simp
            exact hK.out _ _ ⟨HVA.out.set (i := 3) (by rw [HVV.out]; rfl), (by simp only [updV_ne (xs := xs) (show (2 : Nat) ≠ 3 by decide), updV_ne (xs := xs) (show (5 : Nat) ≠ 3 by decide), updV_ne (xs := xs) (show (6 : Nat) ≠ 3 by decide), updV_ne (xs := xs) (show (7 : Nat) ≠ 3 by decide)]; exact hA.pass (by omega))⟩
          focus
            obtain ⟨d3, _⟩ := hd
            obtain ⟨ρ, hρ⟩ : ∃ ρ, a'.eval = ρ := ⟨_, rfl⟩
            have hcst : ∀ v, ρ (.const v) = v := fun v => (congrFun hρ (.const v)).symm
            have v3 : ρ (.tmp 34) = .pointer (some ⟨w.heap.size, 1, none⟩) := (congrFun hρ (.tmp 34)).symm.trans ((HF.out.ev 3 rfl d3).trans (HVA.out 3 _ (by rw [HVV.out]; rfl) d3))
            obtain ⟨k0, k1⟩ := HKP.out _ hA.hb
            rw [if_pos (by simp [Region.wanted])]
            unfold Oper.wp
            rw [hρ]
            clear hρ
            go_simp
            exact hK.out _ _ ⟨HVA.out.set (i := 4) (by rw [HVV.out]; rfl), (by simp only [updV_ne (xs := xs) (show (2 : Nat) ≠ 4 by decide), updV_ne (xs := xs) (show (5 : Nat) ≠ 4 by decide), updV_ne (xs := xs) (show (6 : Nat) ≠ 4 by decide), updV_ne (xs := xs) (show (7 : Nat) ≠ 4 by decide)]; exact hA.pass (by omega))⟩
          focus
            obtain ⟨d2, d4, _⟩ := hd
            have v2 : a'.eval (.tmp 33) = xs 2 := HF.out.ev 2 rfl d2
            have v4 : a'.eval (.tmp 35) = .slice a f.lots.length cap := (HF.out.ev 4 rfl d4).trans (HVA.out 4 _ (by rw [HVV.out]; rfl) d4)
            rw [if_pos (by simp [Region.wanted])]
            obtain ⟨v5, w5, q1, q2, q3, q4⟩ := run_append_lots (ty := 22) (hA.h2 d2 HLI.out) (HSF.out _ hA.hb) (by simp; omega) hA.hb.size
            refine wp_of_append w' rfl v2 v4 q1 ?_
            exact hK.out _ _ ⟨HVA.out.free (i := 5) (by rw [HVV.out]; rfl) _, (by simp only [updV_ne (xs := xs) (show (2 : Nat) ≠ 5 by decide), updV_ne (xs := xs) (show (6 : Nat) ≠ 5 by decide), updV_ne (xs := xs) (show (7 : Nat) ≠ 5 by decide), updV_self]; exact hA.s5 HLI.out d2 (by simpa using q2) q3 q4)⟩
          focus
            obtain ⟨d1, d5, _⟩ := hd
            obtain ⟨ρ, hρ⟩ : ∃ ρ, a'.eval = ρ := ⟨_, rfl⟩
            have hcst : ∀ v, ρ (.const v) = v := fun v => (congrFun hρ (.const v)).symm
            have v1 : ρ (.tmp 32) = .int .i64 f.senders := (congrFun hρ (.tmp 32)).symm.trans ((HF.out.ev 1 rfl d1).trans (HVA.out 1 _ (by rw [HVV.out]; rfl) d1))
            have v5 : ρ (.tmp 36) = xs 5 := (congrFun hρ (.tmp 36)).symm.trans (HF.out.ev 5 rfl d5)
            rw [if_pos (by simp [Region.wanted])]
            unfold Oper.wp
            rw [hρ]
            clear hρ
            obtain ⟨a6, c6, e6⟩ := (hA.h5 d5).form
            rw [e6] at v5
            have HE6 := Lib.hid e6
            clear e6
            go_simp
            exact hK.out _ _ ⟨HVA.out.free (i := 6) (by rw [HVV.out]; rfl) _, (by simp only [updV_ne (xs := xs) (show (2 : Nat) ≠ 6 by decide), updV_ne (xs := xs) (show (5 : Nat) ≠ 6 by decide), updV_ne (xs := xs) (show (7 : Nat) ≠ 6 by decide), updV_self]; rw [← HE6.out]; exact hA.s6 HLI.out d5)⟩
          focus
            clear hd
            obtain ⟨ρ, hρ⟩ : ∃ ρ, a'.eval = ρ := ⟨_, rfl⟩
            have hcst : ∀ v, ρ (.const v) = v := fun v => (congrFun hρ (.const v)).symm
            rw [if_pos (by simp [Region.wanted])]
            unfold Oper.wp
            rw [hρ]
            clear hρ
            go_simp
            exact hK.out _ _ ⟨HVA.out.free (i := 7) (by rw [HVV.out]; rfl) _, (by simp only [updV_ne (xs := xs) (show (2 : Nat) ≠ 7 by decide), updV_ne (xs := xs) (show (5 : Nat) ≠ 7 by decide), updV_ne (xs := xs) (show (6 : Nat) ≠ 7 by decide), updV_self]; exact hA.s7 HLI.out _)⟩
          focus
            obtain ⟨d7, d6, d5, d0, d1, d2, d3, d4, _, _, _, _⟩ := hd
            obtain ⟨ρ, hρ⟩ : ∃ ρ, a'.eval = ρ := ⟨_, rfl⟩
            have hcst : ∀ v, ρ (.const v) = v := fun v => (congrFun hρ (.const v)).symm
            have v7 : ρ (.tmp 5) = xs 7 := (congrFun hρ (.tmp 5)).symm.trans (HF.out.ev 7 rfl d7)
            have v6 : ρ (.tmp 37) = xs 6 := (congrFun hρ (.tmp 37)).symm.trans (HF.out.ev 6 rfl d6)
            rw [if_pos (by simp [Region.wanted])]
            unfold Oper.wp
            rw [hρ]
            clear hρ
            obtain ⟨a6, c6, e6⟩ := (hA.h5 (hA.c6 d6)).form
            obtain ⟨p, e7, p1, p2, p3, p4⟩ := hA.h7 d7 HLI.out
            rw [e7] at v7
            rw [hA.h6 d6, e6] at v6
            have HE6 := Lib.hid e6
            have HE7 := Lib.hid e7
            have m0 := p2.cell 0
            have m1 := p2.cell 1
            have g0 := p2.free 0
            have g1 := p2.free 1
            simp at m0 m1
            clear e6 e7 p1 p2 p3 p4
            go_simp
            exact hK.out undef _ ⟨HVA.out.free (i := 8) (by rw [HVV.out]; rfl) _, (by simp only [updV_ne (xs := xs) (show (2 : Nat) ≠ 8 by decide), updV_ne (xs := xs) (show (5 : Nat) ≠ 8 by decide), updV_ne (xs := xs) (show (6 : Nat) ≠ 8 by decide), updV_ne (xs := xs) (show (7 : Nat) ≠ 8 by decide)]; exact hA.s8 HLI.out d7 d6 (hA.c6 d6) d2 HE7.out HE6.out)⟩
        focus
          intro L w' xs hL hJ
          obtain ⟨hv, hA⟩ := hJ
          have e0 : xs 0 = .pointer (some ⟨w.heap.size, 0, none⟩) := hv 0 _ (by rw [HVV.out]; rfl) (hL 0 (by decide))
          have e1 : xs 1 = .int .i64 f.senders := hv 1 _ (by rw [HVV.out]; rfl) (hL 1 (by decide))
          have e3 : xs 3 = .pointer (some ⟨w.heap.size, 1, none⟩) := hv 3 _ (by rw [HVV.out]; rfl) (hL 3 (by decide))
          have e4 : xs 4 = .slice a f.lots.length cap := hv 4 _ (by rw [HVV.out]; rfl) (hL 4 (by decide))
          simp only [putGo, Act.put, List.setIfInBounds_toArray, List.set_cons_zero, List.set_cons_succ, e0, e1, e3, e4]
          clear hv e0 e1 e3 e4
          obtain ⟨p, n5, c5, a5, e7, hp1, hp2, ho5, hb5⟩ := hA.h8 (hL 8 (by decide))
          simp only [e7]
          clear e7 hL hA
          obtain ⟨W5, hW5⟩ : ∃ W, W = w' := ⟨_, rfl⟩
          rw [← hW5] at hp2 ho5 hb5 ⊢
          clear hW5
          obtain ⟨a5', c5', e5⟩ := ho5.formN
          obtain ⟨rfl, rfl, rfl⟩ : a5 = a5' ∧ n5 = f.lots.length ∧ c5 = c5' := by simpa using e5
          have HA5 : Hid (0 < f.lots.length → ∃ g, a5 = some ⟨g, 0, none⟩ ∧ w3.heap.size ≤ g ∧ p ≠ g) := Lib.hid fun h => by
            obtain ⟨g, c, e, h1, h2, h3⟩ := ho5.addr h
            obtain ⟨rfl, _, _⟩ : a5 = some ⟨g, 0, none⟩ ∧ True ∧ c5 = c := by simpa using e
            exact ⟨g, rfl, h1, ho5.apart rfl h hp2⟩
          have HI5 : Hid (KnInv w3 f us p a5 c5 0 W5) := Lib.hid ⟨ho5.isLots hb5.size, fun g e h => by subst e; exact ho5.lotsX rfl hb5.size, hp2, hb5⟩
          have HP0 := Lib.hid hp1
          clear ho5 hb5 e5 hp2 hp1
          simp only [Nat.zero_add, Nat.reduceAdd]
          go_wp2
          go_loopw [6, 7] (fun v i wr => ∃ k : Nat, k ≤ f.lots.length ∧ i = .int .i64 k ∧ v = .int .i64 (openN f k) ∧ KnInv w3 f us p a5 c5 k wr) (fun _ i _ => f.lots.length - (intOf i).toNat)
          case atStart => exact ⟨0, by omega, rfl, rfl, HI5.out⟩
          case round =>
            obtain ⟨k, hk, rfl, rfl, hinv⟩ := hrel
            have HI := Lib.hid hinv
            obtain ⟨_, hlx, hpp, hbr⟩ := hinv
            have HBR := Lib.hid hbr
            have HPP := Lib.hid hpp
            have HLX := Lib.hid hlx
            have m0 := hpp.cell 0
            have m1 := hpp.cell 1
            simp at m0 m1
            clear hlx hpp hbr HI5
            by_cases hlt : k < f.lots.length
            · obtain ⟨g, rfl, hgW, hpg⟩ := HA5.out (by omega)
              have HL := Lib.hid (HLX.out g rfl (by omega))
              have hflen := fill_len f us k
              have hat := fill_at (f := f) (ps := us) hlt k (by omega)
              rw [if_neg (by omega)] at hat
              obtain ⟨vi, vk, vp, x0, x1, x2, hlot, hfz⟩ := HL.out.cells3 (k := k) (by rw [hflen]; exact hlt)
              rw [hat] at hlot
              obtain ⟨hxi, rfl, hxp⟩ := hlot
              have HXI := Lib.hid hxi
              obtain ⟨_, _, ci, ⟨ai, rfl, _⟩, _⟩ := hxi
              have hon := openN_le f k
              have HFL := Lib.hid hflen
              have HFZ := Lib.hid hfz
              have HOS : Hid (openN f (k + 1) = if (lotAt f.lots k).known then openN f k else openN f k + 1) := Lib.hid rfl
              have HFS : Hid (fillF f us (k + 1) = if (lotAt f.lots k).known then fillF f us k else setK (fillF f us k) k (choP f us k)) := Lib.hid rfl
              have HST := Lib.hid (fun h => fill_step (f := f) (ps := us) hlt h)
              have hn5 := HN5.out k hlt
              clear hxp hflen hat hfz x2 HLX
              cases hkn : (lotAt f.lots k).known
              · have HKN := Lib.hid hkn
                rw [hkn] at x1
                clear hkn
                go_wp2_with fail
                refine (perms27_any (lotAt f.lots k).ins.length (by omega) wr).mono ?_
                rintro e w6 ⟨v6, rfl, ho6, hb6⟩
                have HO6 := Lib.hid ho6
                have HB6 := Lib.hid hb6
                obtain ⟨hcl, hcc⟩ := (⟨choN_lt f us k, rfl⟩ : choN f us k < (permsL (lotAt f.lots k).ins.length).length ∧ choP f us k = rowAt (permsL (lotAt f.lots k).ins.length) (choN f us k))
                have HCN : Hid (choN f us k = if openN f k < us.length then (us.getD (openN f k) 0).toNat % (permsL (lotAt f.lots k).ins.length).length else 0) := Lib.hid rfl
                have hpl : (permsL (lotAt f.lots k).ins.length).length ≤ 120 := by
                  rw [permsL_len]
                  exact Nat.le_trans (facN_mono hn5) (by decide)
                obtain ⟨P, hP⟩ : ∃ P, permsL (lotAt f.lots k).ins.length = P := ⟨_, rfl⟩
                rw [hP] at HO6 ho6 hcl hcc HCN hpl
                obtain ⟨gp, c6, rfl, hgp1, hgp2, _⟩ := ho6.addr (by omega)
                obtain ⟨vr, hr1, hr2⟩ := ho6.rowsO rfl _ hcl
                obtain ⟨ar, cr, rfl, _⟩ := hr2.form
                rw [← hcc] at hr1 hr2
                have HR2 := Lib.hid hr2
                have HCC := Lib.hid hcc
                have x0' := (hb6.cell (p := ⟨g, k * 3, none⟩) (HL.out.lt)).trans x0
                have HL6 := Lib.hid (HL.out.below hb6)
                have hp6 := HPP.out.ext hb6
                have HP6 := Lib.hid hp6
                obtain ⟨_, _, _, _, _, _, _, hfz6⟩ := HL6.out.cells3 (k := k) (by rw [HFL.out]; exact hlt)
                have f0 := hfz6 (k * 3)
                have f1 := hfz6 (k * 3 + 1)
                have f2 := hfz6 (k * 3 + 2)
                have HGL : Hid (g < wr.heap.size) := Lib.hid HL.out.lt
                have m0' := hp6.cell 0
                have m1' := hp6.cell 1
                simp at m0' m1'
                clear hP ho6 hb6 hr2 hcc m0 m1 x0 x1 hp6 hfz6
                by_cases hpu : openN f k < us.length
                · obtain ⟨bu, ou, u, rfl, hub, hue, hu0, hu255, huc⟩ := HU.out.cell hpu
                  have huc' := (((HW3.out.trans (HBR.out.mono HW3.out.size)).trans (HB6.out.mono (Nat.le_trans HW3.out.size HBR.out.size))).cell (p := ⟨bu, ou + openN f k, none⟩) (by show bu < _; omega)).trans huc
                  have HCV : Hid (choN f us k = u.toNat % P.length) := Lib.hid (by rw [HCN.out, if_pos hpu, hue])
                  obtain ⟨un, rfl⟩ : ∃ un : Nat, u = (un : Int) := ⟨u.toNat, by omega⟩
                  have hm1 : ((un : Int).tmod (P.length : Int)) = ((un % P.length : Nat) : Int) := by rw [Int.ofNat_tmod]
                  have hcv : un % P.length = choN f us k := by rw [HCV.out]; simp
                  rw [hcv] at hm1
                  clear hue huc hcv
                  go_upto_region 16 with fail
                  go_still_tail 15, (by kernel_rfl)
                  change wpList _ _ _ _ _ w6.drew
                  go_wp2
                  have HX : Hid (LotX g w6 (.slice ai (lotAt f.lots k).ins.length ci) (.bool true) (.slice ar (choP f us k).length cr) ⟨(lotAt f.lots k).ins, true, choP f us k⟩) := Lib.hid
                    ⟨HXI.out.keepX (row := none) ⟨HB6.out.os, HB6.out.tape, HB6.out.output, HB6.out.size, fun k hk _ => HB6.out.block k hk⟩ (by simp), rfl, HR2.out.intsX HGL.out⟩

                  go_roundw
                  case rel =>
                    refine ⟨k + 1, by omega, by go_num, by rw [HOS.out, HKN.out]; go_num, ?_⟩
                    have hL := HL6.out.store (k := k) (by rw [HFL.out]; exact hlt) HX.out
                    rw [← HST.out HKN.out] at hL
                    have hg := grown_trans (grown_trans (grown_trans (grown_setCell w6 ⟨g, k * 3, none⟩ (.slice ai (lotAt f.lots k).ins.length ci)) (grown_setCell _ ⟨g, k * 3 + 1, none⟩ (.bool true))) (grown_setCell _ ⟨g, k * 3 + 2, none⟩ (.slice ar (choP f us k).length cr))) (grown_drew _ (some g))
                    exact ⟨hL.isLots, fun g' e _ => by cases e; exact hL, HP6.out.grown hg (by simpa using hpg), grown_belowX (HBR.out.trans (HB6.out.mono HBR.out.size)) hg hgW⟩
                  case measure => simp [intOf]; omega
                · have hpu' : decide ((openN f k : Int) < (us.length : Int)) = false := decide_eq_false (by omega)
                  have hc0 : choN f us k = 0 := by rw [HCN.out, if_neg hpu]
                  rw [hc0] at hr1 hcl
                  go_upto_region 16 with fail
                  go_still_tail 15, (by kernel_rfl)
                  change wpList _ _ _ _ _ w6.drew
                  go_wp2
                  have HX : Hid (LotX g w6 (.slice ai (lotAt f.lots k).ins.length ci) (.bool true) (.slice ar (choP f us k).length cr) ⟨(lotAt f.lots k).ins, true, choP f us k⟩) := Lib.hid
                    ⟨HXI.out.keepX (row := none) ⟨HB6.out.os, HB6.out.tape, HB6.out.output, HB6.out.size, fun k hk _ => HB6.out.block k hk⟩ (by simp), rfl, HR2.out.intsX HGL.out⟩

                  go_roundw
                  case rel =>
                    refine ⟨k + 1, by omega, by go_num, by rw [HOS.out, HKN.out]; go_num, ?_⟩
                    have hL := HL6.out.store (k := k) (by rw [HFL.out]; exact hlt) HX.out
                    rw [← HST.out HKN.out] at hL
                    have hg := grown_trans (grown_trans (grown_trans (grown_setCell w6 ⟨g, k * 3, none⟩ (.slice ai (lotAt f.lots k).ins.length ci)) (grown_setCell _ ⟨g, k * 3 + 1, none⟩ (.bool true))) (grown_setCell _ ⟨g, k * 3 + 2, none⟩ (.slice ar (choP f us k).length cr))) (grown_drew _ (some g))
                    exact ⟨hL.isLots, fun g' e _ => by cases e; exact hL, HP6.out.grown hg (by simpa using hpg), grown_belowX (HBR.out.trans (HB6.out.mono HBR.out.size)) hg hgW⟩
                  case measure => simp [intOf]; omega
              · rw [hkn] at x1 HOS HFS
                clear hkn
                go_wp2
                go_roundw
                case rel => exact ⟨k + 1, by omega, by go_num, by rw [HOS.out]; rfl, by unfold KnInv; rw [HFS.out]; exact HI.out⟩
                case measure => simp [intOf]; omega
            · obtain rfl : k = f.lots.length := by omega
              obtain ⟨G, hG⟩ : ∃ G, G = fillF f us f.lots.length := ⟨_, rfl⟩
              obtain ⟨y1, y2, y3, y4, y5⟩ := HLAW.out G hG
              have HGF : Hid (IsFlow wr.heap.size wr (.int .i64 f.senders) (.slice a5 f.lots.length c5) G) := Lib.hid ⟨by rw [hG, fill_snd], by rw [hG, fill_snd]; exact ⟨hs1, hs2⟩, by rw [hG]; exact HI.out.1⟩
              have HME : Hid (mapE G = 0 ∧ mapR G = mapL G) := Lib.hid (by
                have : mapE G = 0 := by
                  unfold mapE
                  rw [if_neg (by simp [y1]), known_knownB (by rw [hG]; exact fill_known f us)]
                  rfl
                exact ⟨this, by unfold mapR; rw [if_pos this]⟩)
              have HY2 := Lib.hid y2
              have HY3 := Lib.hid y3
              have HY4 := Lib.hid y4
              have HY5 := Lib.hid y5
              have HWR : Hid (Below w.heap.size w wr) := Lib.hid (HW3.out.trans (HBR.out.mono HW3.out.size))
              have HXR := Lib.hid (HX3.out.below HBR.out z3)
              clear y1 y2 y3 y4 y5 hG
              go_wp2_with fail
              refine (fmap_any wr.heap.size wr _ _ G HGF.out (Nat.le_refl _)).mono ?_
              rintro e w9 ⟨v9, rfl, ho9, hb9⟩
              rw [HME.out.1]
              rw [HME.out.2] at ho9
              have HO9 := Lib.hid ho9
              have HB9 := Lib.hid hb9
              have HX9 := Lib.hid (HXR.out.ext hb9)
              have HP9 := Lib.hid (HPP.out.ext hb9)
              obtain ⟨a9, c9, rfl, _⟩ := ho9.form
              obtain ⟨z9, r9⟩ := HX9.out
              clear ho9 hb9 m0 m1
              go_wp2_with fail
              refine (cposs_any w9.heap.size w9 _ _ _ f (mapL G) ((HF.out.below (HWR.out.trans (HB9.out.mono HWR.out.size)) hB).mono (Nat.le_trans hB (Nat.le_trans HWR.out.size HB9.out.size))) HO9.out.isInts (Nat.le_refl _)).mono ?_
              rintro e w10 ⟨rfl, hb10⟩
              rw [HY4.out, HY5.out]
              have HB10 : Hid (Below wr.heap.size wr w10) := Lib.hid (HB9.out.trans (hb10.mono HB9.out.size))
              have HP10 := HP9.out.ext hb10
              have HO10 := Lib.hid (HO9.out.below hb10)
              have q0 := HP10.cell 0
              have q1 := HP10.cell 1
              simp at q0 q1
              clear hb10 z9 r9 HP10
              go_wp2_with fail
              refine (all27_any wr.heap.size w10 _ _ G (HGF.out.below HB10.out (Nat.le_refl _)) HB10.out.size).mono ?_
              rintro e w11 ⟨v11, rfl, ho11, hb11⟩
              rw [HY2.out]
              rw [HY3.out] at ho11
              have HM11 := Lib.hid ho11
              have HB11 := Lib.hid hb11
              have HO11 := Lib.hid (HO10.out.below hb11)
              obtain ⟨a11, c11, rfl, _⟩ := ho11.form
              have HBF : Hid (Below w.heap.size w w11) := Lib.hid (HWR.out.trans ((HB10.out.trans (HB11.out.mono HB10.out.size)).mono HWR.out.size))
              have hz11 : wr.heap.size ≤ w11.heap.size := Nat.le_trans HB10.out.size HB11.out.size
              have HIK := Lib.hid (OwnMat.one HO11.out rfl hz11)
              have HI11 := Lib.hid (ho11.isMat.below (box_below' w11 (.cells #[.slice a9 (mapL G).length c9] 34)) (Nat.le_refl _))
              have HSB : Hid (sameM [mapL G] [mapL G] = true) := Lib.hid (decide_eq_true rfl)
              clear ho11 hb11 q0 q1
              go_wp2_with fail
              refine (sameM_any _ _ _ _ _ _ _ HI11.out HIK.out.isMat).mono ?_
              rintro e w12 ⟨rfl, hd12⟩
              have HD12 := Lib.hid hd12
              clear hd12
              rw [HSB.out]
              go_wp2
              go_ret
              exact ⟨rfl, (HBF.out.alloc HBF.out.size _).trans ((HD12.out.below _).mono (by have := HBF.out.size; simp; omega))⟩
    · have hck1 : (checkE f != 0) = true := by simpa using hck
      clear hck
      obtain ⟨z3, r3⟩ := HX3.out
      go_wp2
      go_ret
      exact ⟨rfl, HW3.out⟩

end Go.Proofs.Ythekefnocphcdaa

set_option linter.unusedVariables false

set_option linter.unusedSimpArgs false

namespace Go.Proofs.Ythekefnocphcdaa

open Go.RowKit

set_option maxHeartbeats 16000000 in
set_option maxRecDepth 100000 in
/-- CountViews -/
theorem countViews_any (B : Nat) (w : World) (vs vl vm vc : Value) (f : Flow) (lines : List (List Int)) (c : List Int) (q : Nat) (hf : IsFlow B w vs vl f) (hm : IsMat B w vm lines) (hc : IsInts B w vc c) (hB : B ≤ w.heap.size) (hq : q < 4294967296) :
    Calls Try.prog 9 #[.agg #[vs, vl], vm, vc, .int .u32 q] w fun e w' => e = .returned (.bool true) ∧ Below w.heap.size w w' := by
  have HF := Lib.hid hf
  have HM := Lib.hid hm
  have HC := Lib.hid hc
  obtain ⟨rfl, ⟨hs1, hs2⟩, hl⟩ := hf
  obtain ⟨b, off, cap, ⟨a, rfl, hcap, hmax, ha⟩, hlen, hcl⟩ := hl
  obtain ⟨b1, off1, cap1, ⟨a1, rfl, hcap1, hmax1, ha1⟩, hlen1, hcm⟩ := hm
  obtain ⟨b2, off2, cap2, ⟨a2, rfl, hcap2, hmax2, ha2⟩, hlen2, hz2, hcc⟩ := hc
  have HCC := Lib.hid hcc
  have HA2 := Lib.hid ha2
  have HZ2 := Lib.hid hz2
  clear hcl hcm hcc hz2 ha ha1 ha2
  go_enter Try.func9, Try.ntmps9
  go_wp2_with fail
  refine (sane27_any _).mono ?_
  rintro e w1 ⟨rfl, hb1⟩
  have HX1 := Lib.hid ((Box.new w #[.int .i64 f.senders, .slice a f.lots.length cap] 24).ext hb1)
  have HW1 : Hid (Below w.heap.size w w1) := Lib.hid ((box_below (Nat.le_refl _) _).trans (hb1.mono (by simp)))
  obtain ⟨z1, r1⟩ := HX1.out
  clear hb1
  go_wp2_with fail
  refine (few27_any B w1 _ _ f (HF.out.below HW1.out hB) (by have := HW1.out.size; omega)).mono ?_
  rintro e w2 ⟨rfl, hb2⟩
  have HX2 := Lib.hid (HX1.out.ext hb2)
  have HW2 : Hid (Below w.heap.size w w2) := Lib.hid (HW1.out.trans (hb2.mono HW1.out.size))
  clear hb2 z1 r1
  cases hfew : few27 f
  · clear hfew
    go_wp2
    go_ret
    exact ⟨rfl, HW2.out⟩
  · have HFW := Lib.hid hfew
    clear hfew
    obtain ⟨z2, r2⟩ := HX2.out
    by_cases hl20 : lines.length > 20
    · have hl20' : decide ((20 : Int) < (lines.length : Int)) = true := decide_eq_true (by omega)
      go_wp2
      go_ret
      exact ⟨rfl, HW2.out⟩
    · have hl20' : decide ((20 : Int) < (lines.length : Int)) = false := decide_eq_false (by omega)
      by_cases hc24 : c.length > 24
      · have hc24' : decide ((24 : Int) < (c.length : Int)) = true := decide_eq_true (by omega)
        go_wp2
        go_ret
        exact ⟨rfl, HW2.out⟩
      · have hc24' : decide ((24 : Int) < (c.length : Int)) = false := decide_eq_false (by omega)
        go_wp2_with fail
        refine (view_any B w2 _ _ _ _ f lines c (HF.out.below HW2.out hB) (HM.out.below HW2.out hB) (HC.out.below HW2.out hB) (by have := HW2.out.size; omega)).mono ?_
        rintro e w3 ⟨vx, rfl, hx3, hb3⟩
        have HX3 := Lib.hid (HX2.out.ext hb3)
        have HW3 : Hid (Below w.heap.size w w3) := Lib.hid (HW2.out.trans (hb3.mono HW2.out.size))
        have HXL := Lib.hid hx3
        obtain ⟨bx, ox, cx, ⟨ax, rfl, _⟩, _⟩ := hx3
        clear hb3 z2 r2
        obtain ⟨z3, r3⟩ := HX3.out
        by_cases h0 : viewE f lines c = 0
        · have h0' : (viewE f lines c != 0) = false := by simpa using h0
          have HLS := Lib.hid (view_less q h0)
          have HVR : Hid (viewR f lines c = viewF f lines c) := Lib.hid (by unfold viewR; rw [if_pos h0])
          have HSX : Hid (IsFlow w3.heap.size w3 (.int .i64 f.senders) (.slice ax (viewF f lines c).lots.length cx) (viewF f lines c)) := Lib.hid ⟨rfl, HF.out.2.1, by have := HXL.out; rw [HVR.out] at this; exact this⟩
          have HCK := Lib.hid HLS.out.2.1
          have HKN := Lib.hid (knownB_all HLS.out.2.2)
          have HSUBS : Hid (∀ x ∈ pickTo c q c.length, x ∈ c) := Lib.hid pickTo_sub
          have HVR2 : Hid (viewR f lines (pickTo c q c.length) = viewF f lines (pickTo c q c.length)) := Lib.hid (by unfold viewR; rw [if_pos HLS.out.1])
          rw [HVR.out]
          clear h0
          obtain ⟨nx, hnx⟩ : ∃ n, (viewF f lines c).lots.length = n := ⟨_, rfl⟩
          rw [hnx] at HSX ⊢
          have hes : (viewF f lines c).senders = f.senders := rfl
          rw [hes]
          clear hnx hes
          obtain ⟨w4, hw4⟩ : ∃ W, w3.alloc (.cells #[.int .i64 f.senders, .slice ax nx cx] 24) = W := ⟨_, rfl⟩
          have HX4 : Hid (Box w4 w.heap.size #[.int .i64 f.senders, .slice a f.lots.length cap]) := Lib.hid (by rw [← hw4]; exact HX3.out.alloc _)
          have HBX4 : Hid (Box w4 w3.heap.size #[.int .i64 f.senders, .slice ax nx cx]) := Lib.hid (by rw [← hw4]; exact Box.new _ _ _)
          have HW4 : Hid (Below w.heap.size w w4) := Lib.hid (by rw [← hw4]; exact HW3.out.alloc HW3.out.size _)
          have HSX4 : Hid (IsFlow w3.heap.size w4 (.int .i64 f.senders) (.slice ax nx cx) (viewF f lines c)) := Lib.hid (by rw [← hw4]; exact HSX.out.below (box_below' w3 _) (Nat.le_refl _))
          have HZ34 : Hid (w3.heap.size < w4.heap.size) := Lib.hid (by rw [← hw4]; simp)
          clear z3 r3
          go_wp2
          clear hw4
          go_loopw [11, 12] (fun vn vi wr => ∃ k : Nat, k ≤ c.length ∧ vi = .int .i64 k ∧ OwnInts w4.heap.size wr vn (pickTo c q k) ∧ Below w4.heap.size w4 wr) (fun _ vi _ => c.length - (intOf vi).toNat)
          case atStart => exact ⟨0, by omega, rfl, OwnInts.nil _ _, Below.refl _ _⟩
          case round =>
            obtain ⟨k, hk, rfl, hvn, hbr⟩ := hrel
            have HO := Lib.hid hvn
            have HBR := Lib.hid hbr
            clear hvn hbr
            by_cases hlt : k < c.length
            · obtain rfl : a2 = some ⟨b2, off2, none⟩ := by rcases HA2.out with ha | ha; exact ha; omega
              have HA := Lib.hid (and_one32v q hq k)
              have HPL := Lib.hid (pickTo_len c q k)
              have hcell := ((HW4.out.trans (HBR.out.mono HW4.out.size)).cell (p := ⟨b2, off2 + k, none⟩) (by have := (HCC.out k hlt).1; show b2 < _; omega)).trans (HCC.out k hlt).2
              have hzk : I64 (nth c k) := HZ2.out _ (nth_mem hlt)
              have HZK := Lib.hid hzk
              clear hzk
              cases hbit : q.testBit k
              · have HS : Hid (pickTo c q (k + 1) = pickTo c q k) := Lib.hid (by simp [pickTo, hbit])
                have hA := HA.out
                rw [hbit] at hA
                clear hbit
                go_wp2
                go_roundw
                case rel => exact ⟨k + 1, by omega, by go_num, by rw [HS.out]; exact HO.out, HBR.out⟩
                case measure => simp [intOf]; omega
              · have HS : Hid (pickTo c q (k + 1) = pickTo c q k ++ [nth c k]) := Lib.hid (by simp [pickTo, hbit])
                have hA := HA.out
                rw [hbit] at hA
                clear hbit
                go_wp2_with (at_builtin; refine append_int (n := nth c k) rfl _ _ rfl rfl (HO.out.alloc _) rfl (World.cell?_alloc_at _ _ _ _ rfl) HZK.out (by have := HPL.out; omega) (by have := HBR.out.size; simp; omega) ?_; intro v6 w6 ho6 hg6; have HO6 := Lib.hid ho6; have HB6 : Hid (Below w4.heap.size w4 w6) := Lib.hid ((HBR.out.alloc HBR.out.size _).grown hg6 (by have := HBR.out.size; simp; omega) (fun j hj => (HO.out.1.lt j hj).1)); clear ho6 hg6)
                go_roundw
                case rel => exact ⟨k + 1, by omega, by go_num, by rw [HS.out]; exact HO6.out, HB6.out⟩
                case measure => simp [intOf]; omega
            · obtain rfl : k = c.length := by omega
              have HWR : Hid (Below w.heap.size w wr) := Lib.hid (HW4.out.trans (HBR.out.mono HW4.out.size))
              have HXR := Lib.hid (HX4.out.ext HBR.out)
              have HBXR := Lib.hid (HBX4.out.ext HBR.out)
              have HSXR := Lib.hid (HSX4.out.below HBR.out (by have := HZ34.out; omega))
              have HIP := Lib.hid HO.out.isInts
              obtain ⟨an, cn, rfl, _⟩ := HO.out.form
              obtain ⟨zr, rr⟩ := HXR.out
              obtain ⟨c', hc'⟩ : ∃ l, pickTo c q c.length = l := ⟨_, rfl⟩
              rw [hc'] at HIP HSUBS HVR2 HLS ⊢
              clear hc'
              go_wp2_with fail
              refine (view_any wr.heap.size wr _ _ _ _ f lines c' ((HF.out.below HWR.out hB).mono (by have := HWR.out.size; omega)) ((HM.out.below HWR.out hB).mono (by have := HWR.out.size; omega)) HIP.out (Nat.le_refl _)).mono ?_
              rintro e w5 ⟨vy, rfl, hx5, hb5⟩
              have HX5 := Lib.hid (HXR.out.ext hb5)
              have HBX5 := Lib.hid (HBXR.out.ext hb5)
              have HW5 : Hid (Below w.heap.size w w5) := Lib.hid (HWR.out.trans (hb5.mono HWR.out.size))
              have HSX5 := Lib.hid (HSXR.out.below hb5 (by have := HBR.out.size; have := HZ34.out; omega))
              have HZ5 : Hid (w3.heap.size < w5.heap.size) := Lib.hid (by have := HZ34.out; have := HBR.out.size; have := hb5.size; omega)
              rw [HVR2.out] at hx5
              rw [HVR2.out, HLS.out.1]
              have hes : (viewF f lines c').senders = f.senders := rfl
              rw [hes]
              have HSY5 : Hid (IsFlow w5.heap.size w5 (.int .i64 f.senders) vy (viewF f lines c')) := Lib.hid ⟨rfl, HF.out.2.1, hx5⟩
              obtain ⟨by5, oy5, cy5, ⟨ay5, rfl, _⟩, _⟩ := hx5
              clear hb5 zr rr hes
              obtain ⟨ny, hny⟩ : ∃ n, (viewF f lines c').lots.length = n := ⟨_, rfl⟩
              rw [hny] at HSY5 ⊢
              clear hny
              obtain ⟨w6, hw6⟩ : ∃ W, w5.alloc (.cells #[.int .i64 f.senders, .slice ay5 ny cy5] 24) = W := ⟨_, rfl⟩
              have HX6 : Hid (Box w6 w.heap.size #[.int .i64 f.senders, .slice a f.lots.length cap]) := Lib.hid (by rw [← hw6]; exact HX5.out.alloc _)
              have HBX6 : Hid (Box w6 w3.heap.size #[.int .i64 f.senders, .slice ax nx cx]) := Lib.hid (by rw [← hw6]; exact HBX5.out.alloc _)
              have HBY6 : Hid (Box w6 w5.heap.size #[.int .i64 f.senders, .slice ay5 ny cy5]) := Lib.hid (by rw [← hw6]; exact Box.new _ _ _)
              have HW6 : Hid (Below w.heap.size w w6) := Lib.hid (by rw [← hw6]; exact HW5.out.alloc HW5.out.size _)
              have HSX6 : Hid (IsFlow w3.heap.size w6 (.int .i64 f.senders) (.slice ax nx cx) (viewF f lines c)) := Lib.hid (by rw [← hw6]; exact HSX5.out.below (box_below' w5 _) (by have := HZ5.out; omega))
              have HSY6 : Hid (IsFlow w5.heap.size w6 (.int .i64 f.senders) (.slice ay5 ny cy5) (viewF f lines c')) := Lib.hid (by rw [← hw6]; exact HSY5.out.below (box_below' w5 _) (Nat.le_refl _))
              have HZ6 : Hid (w3.heap.size < w6.heap.size ∧ w5.heap.size < w6.heap.size) := Lib.hid (by rw [← hw6]; have := HZ5.out; simp; omega)
              have HKA := Lib.hid (knownB_at HLS.out.2.2)
              have HSUBV := Lib.hid (views_sub (lines := lines) HCK.out HKA.out HSUBS.out)
              have HTR := Lib.hid (views_truth (lines := lines) (c := c) HCK.out HKA.out)
              have HLE := Lib.hid (views_len (lines := lines) HCK.out HKA.out HSUBS.out)
              have HFEX := Lib.hid (views_few HCK.out HFW.out lines c)
              have HFEY := Lib.hid (views_few HCK.out HFW.out lines c')
              have HME : Hid (mapE f = 0 ∧ mapR f = mapL f) := Lib.hid (by
                have : mapE f = 0 := by
                  unfold mapE
                  rw [if_neg (by simp [HCK.out]), HLS.out.2.2]
                  rfl
                exact ⟨this, by unfold mapR; rw [if_pos this]⟩)
              have HMLN : Hid ((mapL f).length ≤ 64) := Lib.hid (by
                rw [mapL_len]
                have := (checkE_ok HCK.out).2.1
                omega)
              obtain ⟨y6, q6⟩ := HX6.out
              go_wp2_with fail
              refine (fmap_any B w6 _ _ f (HF.out.below HW6.out hB) (Nat.le_trans hB HW6.out.size)).mono ?_
              rintro e w7 ⟨v7, rfl, ho7, hb7⟩
              rw [HME.out.1]
              rw [HME.out.2] at ho7
              have HT7 := Lib.hid ho7
              obtain ⟨a7, c7, rfl, _⟩ := ho7.form
              have HX7 := Lib.hid (HX6.out.ext hb7)
              have HBX7 := Lib.hid (HBX6.out.ext hb7)
              have HBY7 := Lib.hid (HBY6.out.ext hb7)
              have HW7 : Hid (Below w.heap.size w w7) := Lib.hid (HW6.out.trans (hb7.mono HW6.out.size))
              have HSX7 := Lib.hid (HSX6.out.below hb7 (by have := HZ6.out; omega))
              have HSY7 := Lib.hid (HSY6.out.below hb7 (by have := HZ6.out; omega))
              have HZ7 : Hid (w3.heap.size < w7.heap.size ∧ w5.heap.size < w7.heap.size) := Lib.hid (by have := HZ6.out; have := hb7.size; omega)
              clear ho7 hb7 y6 q6 hw6
              obtain ⟨T, hT⟩ : ∃ T, mapL f = T := ⟨_, rfl⟩
              rw [hT] at HT7 HTR HMLN ⊢
              clear hT
              obtain ⟨y7, q7⟩ := HBX7.out
              go_wp2_with fail
              refine (all27_any w3.heap.size w7 _ _ (viewF f lines c) HSX7.out (by have := HZ7.out; omega)).mono ?_
              rintro e w8 ⟨v8, rfl, ho8, hb8⟩
              have HL8 := Lib.hid ho8
              obtain ⟨a8, c8, rfl, _⟩ := ho8.form
              have HX8 := Lib.hid (HX7.out.ext hb8)
              have HBY8 := Lib.hid (HBY7.out.ext hb8)
              have HW8 : Hid (Below w.heap.size w w8) := Lib.hid (HW7.out.trans (hb8.mono HW7.out.size))
              have HSY8 := Lib.hid (HSY7.out.below hb8 (by have := HZ7.out; omega))
              have HT8 := Lib.hid (HT7.out.below hb8)
              have HZ8 : Hid (w5.heap.size < w8.heap.size) := Lib.hid (by have := HZ7.out; have := hb8.size; omega)
              clear ho8 hb8 y7 q7
              obtain ⟨y8, q8⟩ := HBY8.out
              go_wp2_with fail
              refine (all27_any w5.heap.size w8 _ _ (viewF f lines c') HSY8.out (by have := HZ8.out; omega)).mono ?_
              rintro e w9 ⟨v9, rfl, ho9, hb9⟩
              have HM9 := Lib.hid ho9
              obtain ⟨a9, c9, rfl, _⟩ := ho9.form
              have HX9 := Lib.hid (HX8.out.ext hb9)
              have HBY9 := Lib.hid (HBY8.out.ext hb9)
              have HW9 : Hid (Below w.heap.size w w9) := Lib.hid (HW8.out.trans (hb9.mono HW8.out.size))
              have HSY9 := Lib.hid (HSY8.out.below hb9 (by have := HZ8.out; omega))
              have HT9 := Lib.hid (HT8.out.below hb9)
              have HL9 := Lib.hid (HL8.out.below hb9)
              have HZ9 : Hid (w5.heap.size < w9.heap.size) := Lib.hid (by have := HZ8.out; have := hb9.size; omega)
              clear ho9 hb9 y8 q8
              rcases HFEX.out with ⟨h5, ex⟩ | ⟨h8, ex⟩
              · obtain ⟨_, ey⟩ : f.senders ≤ 5 ∧ allE (viewF f lines c') = 0 := by
                  rcases HFEY.out with h | h
                  · exact h
                  · omega
                have HEY := Lib.hid ey
                have HRX : Hid (allR (viewF f lines c) = asgL (viewF f lines c)) := Lib.hid (by unfold allR; rw [if_pos ex])
                have HRY : Hid (allR (viewF f lines c') = asgL (viewF f lines c')) := Lib.hid (by unfold allR; rw [if_pos ey])
                have HPB : Hid (∀ k, k < (asgL (viewF f lines c)).length → possB (viewF f lines c') (rowAt (asgL (viewF f lines c)) k) = true) := Lib.hid fun k hk => by
                  unfold possB
                  rw [ey, decide_eq_true rfl, Bool.true_and]
                  exact decide_eq_true (HSUBV.out _ (row_mem hk))
                have hM5 : (asgL (viewF f lines c')).length ≤ 5040 := by
                  have hcv := view_check (lines := lines) (c := c') HCK.out
                  obtain ⟨h0, _, _, _, hl⟩ := checkE_ok hcv
                  exact asg_few h0 h5 hl
                rw [ex, ey, HRX.out, HRY.out]
                rw [HRX.out] at HL9
                rw [HRY.out] at HM9
                obtain ⟨QL, hL⟩ : ∃ QL, asgL (viewF f lines c) = QL := ⟨_, rfl⟩
                obtain ⟨M, hM⟩ : ∃ QL, asgL (viewF f lines c') = QL := ⟨_, rfl⟩
                rw [hL] at HL9 HTR HLE HPB ⊢
                rw [hM] at HM9 HLE hM5 ⊢
                have hle := HLE.out
                have hle' : decide ((QL.length : Int) ≤ (M.length : Int)) = true := decide_eq_true (by omega)
                have HMET : Hid (anyRow QL (fun r => sameB r T) QL.length = true) := Lib.hid (by rw [anyRow_same (Nat.le_refl _), List.take_length]; exact decide_eq_true HTR.out)
                clear hL hM ex ey h5
                go_wp2
                go_loopw [21, 22] (fun v i wr => ∃ k : Nat, k ≤ QL.length ∧ i = .int .i64 k ∧ v = .bool (anyRow QL (fun r => sameB r T) k) ∧ Below w9.heap.size w9 wr) (fun _ i _ => QL.length - (intOf i).toNat)
                case atStart => exact ⟨0, by omega, rfl, rfl, Below.refl _ _⟩
                case round =>
                  obtain ⟨k, hk, rfl, rfl, hbr⟩ := hrel
                  have HBR := Lib.hid hbr
                  clear hbr
                  by_cases hlt : k < QL.length
                  · obtain ⟨gl, cl', e9, hgl1, hgl2, _⟩ := HL9.out.addr (by omega)
                    obtain ⟨rfl, rfl⟩ : a8 = some ⟨gl, 0, none⟩ ∧ c8 = cl' := by simpa using e9
                    obtain ⟨r, hr1, hr2⟩ := HL9.out.rowsO rfl k hlt
                    have HRO := Lib.hid (hr2.below HBR.out)
                    obtain ⟨ar, cr, rfl, _⟩ := hr2.form
                    have hrw := (HBR.out.cell (p := ⟨gl, k, none⟩) hgl2).trans hr1
                    have HBYR := Lib.hid (HBY9.out.ext HBR.out)
                    have HKB : Hid (∀ W, Below wr.heap.size wr W → W.cell? ⟨w5.heap.size, 0, none⟩ = some (.int .i64 f.senders) ∧ W.cell? ⟨w5.heap.size, 1, none⟩ = some (.slice ay5 ny cy5) ∧ W.cell? ⟨gl, k, none⟩ = some (.slice ar (rowAt QL k).length cr)) := Lib.hid fun W hW =>
                      ⟨(HBYR.out.ext hW).2 0, (HBYR.out.ext hW).2 1, (hW.cell (p := ⟨gl, k, none⟩) (by show gl < _; have := HBR.out.size; omega)).trans hrw⟩
                    have HPOS : Hid (∀ W, Below wr.heap.size wr W → Calls Try.prog 20 #[.agg #[.int .i64 f.senders, .slice ay5 ny cy5], .slice ar (rowAt QL k).length cr] W fun e w' => e = .returned (.tuple #[.bool true, .int .i64 0]) ∧ Below W.heap.size W w') := Lib.hid fun W hW => by
                      have h := cposs_any W.heap.size W _ _ _ (viewF f lines c') (rowAt QL k) (((HSY9.out.below HBR.out (by have := HZ9.out; omega)).below hW (by have := HZ9.out; have := HBR.out.size; omega)).mono (by have := HZ9.out; have := HBR.out.size; have := hW.size; omega)) (HRO.out.below hW).isInts (Nat.le_refl _)
                      rw [HPB.out k hlt, HEY.out] at h
                      exact h
                    have HAS : Hid (anyRow QL (fun r => sameB r T) (k + 1) = (anyRow QL (fun r => sameB r T) k || sameB (rowAt QL k) T)) := Lib.hid rfl
                    obtain ⟨met, hmet⟩ : ∃ b, anyRow QL (fun r => sameB r T) k = b := ⟨_, rfl⟩
                    rw [hmet] at HAS ⊢
                    clear hmet hr1 hr2 e9 hrw
                    obtain ⟨WA, rfl⟩ : ∃ W, W = wr := ⟨_, rfl⟩
                    go_upto_region 26 with fail
                    obtain ⟨V, hV⟩ : ∃ V : List (Option Value), V = [some (.agg #[.int .i64 f.senders, .slice ay5 ny cy5]), some (.slice (some ⟨gl, 0, none⟩) QL.length c8), some (.int .i64 (k : Int)), some (.pointer (some ⟨gl, k, none⟩)), some (.slice ar (rowAt QL k).length cr), some (.tuple #[.bool true, .int .i64 0]), some (.tuple #[.bool true, .int .i64 0]), some (.bool true), some (.int .i64 0), some (.bool true), some (.int .i64 0)] := ⟨_, rfl⟩
                    have HVV := Lib.hid hV
                    clear hV
                    refine wp_region_V [some 119, some 120, some 121, some 122, some 123, some 124, some 118, some 125, some 126, some 23, some 24] (fun L w' xs => ValsAt V L xs ∧ (Below WA.heap.size WA w')) (by kernel_rfl) (by kernel_rfl) (by rfl) (by rfl) (by rfl) ?_ ?_ ?_
                    focus
                      exact fun xs => ⟨ValsAt.none _ _, (Below.refl _ _).drew⟩
                    focus
                      refine ⟨?_, ?_, ?_, ?_, ?_, ?_, ?_, ?_, ?_, ?_, ?_, trivial⟩
                      all_goals
                        intro L a' w' xs hi hd hf hJ K hK
                        obtain ⟨hv, hb⟩ := hJ
                        have HF := Lib.hid hf
                        have HVA := Lib.hid hv
                        have HLI := Lib.hid hi
                        clear hf hv hi
                      focus
                        clear hd
                        obtain ⟨ρ, hρ⟩ : ∃ ρ, a'.eval = ρ := ⟨_, rfl⟩
                        have hcst : ∀ v, ρ (.const v) = v := fun v => (congrFun hρ (.const v)).symm
                        have l13 : ρ (.tmp 13) = .pointer (some ⟨w5.heap.size, 0, none⟩) := (congrFun hρ (.tmp 13)).symm.trans (HF.out.lo 13 rfl)
                        obtain ⟨k0, k1, k2⟩ := HKB.out _ hb
                        rw [if_pos (by simp [Region.wanted])]
                        unfold Oper.wp
                        rw [hρ]
                        clear hρ
                        go_simp
                        exact hK.out _ _ ⟨HVA.out.set (i := 0) (by rw [HVV.out]; rfl), hb⟩
                      focus
                        clear hd
                        obtain ⟨ρ, hρ⟩ : ∃ ρ, a'.eval = ρ := ⟨_, rfl⟩
                        have hcst : ∀ v, ρ (.const v) = v := fun v => (congrFun hρ (.const v)).symm
                        have l17 : ρ (.tmp 17) = .slice (some ⟨gl, 0, none⟩) QL.length c8 := (congrFun hρ (.tmp 17)).symm.trans (HF.out.lo 17 rfl)
                        rw [if_pos (by simp [Region.wanted])]
                        unfold Oper.wp
                        rw [hρ]
                        clear hρ
                        go_simp
                        exact hK.out _ _ ⟨HVA.out.set (i := 1) (by rw [HVV.out]; rfl), hb⟩
                      focus
                        clear hd
                        obtain ⟨ρ, hρ⟩ : ∃ ρ, a'.eval = ρ := ⟨_, rfl⟩
                        have hcst : ∀ v, ρ (.const v) = v := fun v => (congrFun hρ (.const v)).symm
                        have l22 : ρ (.tmp 22) = .int .i64 (k : Int) := (congrFun hρ (.tmp 22)).symm.trans (HF.out.lo 22 rfl)
                        rw [if_pos (by simp [Region.wanted])]
                        unfold Oper.wp
                        rw [hρ]
                        clear hρ
                        go_simp
                        exact hK.out _ _ ⟨HVA.out.set (i := 2) (by rw [HVV.out]; rfl), hb⟩
                      focus
                        obtain ⟨d1, d2, _⟩ := hd
                        obtain ⟨ρ, hρ⟩ : ∃ ρ, a'.eval = ρ := ⟨_, rfl⟩
                        have hcst : ∀ v, ρ (.const v) = v := fun v => (congrFun hρ (.const v)).symm
                        have v1 : ρ (.tmp 120) = .slice (some ⟨gl, 0, none⟩) QL.length c8 := (congrFun hρ (.tmp 120)).symm.trans ((HF.out.ev 1 rfl d1).trans (HVA.out 1 _ (by rw [HVV.out]; rfl) d1))
                        have v2 : ρ (.tmp 121) = .int .i64 (k : Int) := (congrFun hρ (.tmp 121)).symm.trans ((HF.out.ev 2 rfl d2).trans (HVA.out 2 _ (by rw [HVV.out]; rfl) d2))
                        rw [if_pos (by simp [Region.wanted])]
                        unfold Oper.wp
                        rw [hρ]
                        clear hρ
                        go_simp
                        exact hK.out _ _ ⟨HVA.out.set (i := 3) (by rw [HVV.out]; rfl), hb⟩
                      focus
                        obtain ⟨d3, _⟩ := hd
                        obtain ⟨ρ, hρ⟩ : ∃ ρ, a'.eval = ρ := ⟨_, rfl⟩
                        have hcst : ∀ v, ρ (.const v) = v := fun v => (congrFun hρ (.const v)).symm
                        have v3 : ρ (.tmp 122) = .pointer (some ⟨gl, k, none⟩) := (congrFun hρ (.tmp 122)).symm.trans ((HF.out.ev 3 rfl d3).trans (HVA.out 3 _ (by rw [HVV.out]; rfl) d3))
                        obtain ⟨k0, k1, k2⟩ := HKB.out _ hb
                        rw [if_pos (by simp [Region.wanted])]
                        unfold Oper.wp
                        rw [hρ]
                        clear hρ
                        go_simp
                        exact hK.out _ _ ⟨HVA.out.set (i := 4) (by rw [HVV.out]; rfl), hb⟩
                      focus
                        obtain ⟨d0, d4, _⟩ := hd
                        obtain ⟨ρ, hρ⟩ : ∃ ρ, a'.eval = ρ := ⟨_, rfl⟩
                        have hcst : ∀ v, ρ (.const v) = v := fun v => (congrFun hρ (.const v)).symm
                        have hfun : ∀ k, ρ (.func k) = .func (.func k) #[] #[] := fun k => (congrFun hρ (.func k)).symm
                        have v0 : ρ (.tmp 119) = .agg #[.int .i64 f.senders, .slice ay5 ny cy5] := (congrFun hρ (.tmp 119)).symm.trans ((HF.out.ev 0 rfl d0).trans (HVA.out 0 _ (by rw [HVV.out]; rfl) d0))
                        have v4 : ρ (.tmp 123) = .slice ar (rowAt QL k).length cr := (congrFun hρ (.tmp 123)).symm.trans ((HF.out.ev 4 rfl d4).trans (HVA.out 4 _ (by rw [HVV.out]; rfl) d4))
                        rw [if_pos (by simp [Region.wanted])]
                        unfold Oper.wp
                        rw [hρ]
                        clear hρ
                        go_simp
                        go_at_call 20
                        refine (HPOS.out _ hb).mono ?_
                        rintro e w5' ⟨rfl, hb5⟩
                        exact hK.out _ _ ⟨HVA.out.set (i := 5) (by rw [HVV.out]; rfl), hb.trans (hb5.mono hb.size)⟩
                      focus
                        obtain ⟨d5, _⟩ := hd
                        obtain ⟨ρ, hρ⟩ : ∃ ρ, a'.eval = ρ := ⟨_, rfl⟩
                        have hcst : ∀ v, ρ (.const v) = v := fun v => (congrFun hρ (.const v)).symm
                        have v5 : ρ (.tmp 124) = .tuple #[.bool true, .int .i64 0] := (congrFun hρ (.tmp 124)).symm.trans ((HF.out.ev 5 rfl d5).trans (HVA.out 5 _ (by rw [HVV.out]; rfl) d5))
                        rw [if_pos (by simp [Region.wanted])]
                        unfold Oper.wp
                        rw [hρ]
                        clear hρ
                        go_simp
                        exact hK.out _ _ ⟨HVA.out.set (i := 6) (by rw [HVV.out]; rfl), hb⟩
                      focus
                        obtain ⟨d6, _⟩ := hd
                        obtain ⟨ρ, hρ⟩ : ∃ ρ, a'.eval = ρ := ⟨_, rfl⟩
                        have hcst : ∀ v, ρ (.const v) = v := fun v => (congrFun hρ (.const v)).symm
                        have v6 : ρ (.tmp 118) = .tuple #[.bool true, .int .i64 0] := (congrFun hρ (.tmp 118)).symm.trans ((HF.out.ev 6 rfl d6).trans (HVA.out 6 _ (by rw [HVV.out]; rfl) d6))
                        rw [if_pos (by simp [Region.wanted])]
                        unfold Oper.wp
                        rw [hρ]
                        clear hρ
                        go_simp
                        exact hK.out _ _ ⟨HVA.out.set (i := 7) (by rw [HVV.out]; rfl), hb⟩
                      focus
                        obtain ⟨d6, _⟩ := hd
                        obtain ⟨ρ, hρ⟩ : ∃ ρ, a'.eval = ρ := ⟨_, rfl⟩
                        have hcst : ∀ v, ρ (.const v) = v := fun v => (congrFun hρ (.const v)).symm
                        have v6 : ρ (.tmp 118) = .tuple #[.bool true, .int .i64 0] := (congrFun hρ (.tmp 118)).symm.trans ((HF.out.ev 6 rfl d6).trans (HVA.out 6 _ (by rw [HVV.out]; rfl) d6))
                        rw [if_pos (by simp [Region.wanted])]
                        unfold Oper.wp
                        rw [hρ]
                        clear hρ
                        go_simp
                        exact hK.out _ _ ⟨HVA.out.set (i := 8) (by rw [HVV.out]; rfl), hb⟩
                      focus
                        obtain ⟨d7, d5, d0, d1, d2, d3, d4, _, d6, _, _⟩ := hd
                        obtain ⟨ρ, hρ⟩ : ∃ ρ, a'.eval = ρ := ⟨_, rfl⟩
                        have hcst : ∀ v, ρ (.const v) = v := fun v => (congrFun hρ (.const v)).symm
                        have v7 : ρ (.tmp 125) = .bool true := (congrFun hρ (.tmp 125)).symm.trans ((HF.out.ev 7 rfl d7).trans (HVA.out 7 _ (by rw [HVV.out]; rfl) d7))
                        rw [if_pos (by simp [Region.wanted])]
                        unfold Oper.wp
                        rw [hρ]
                        clear hρ
                        go_simp
                        exact hK.out _ _ ⟨HVA.out.set (i := 9) (by rw [HVV.out]; rfl), hb⟩
                      focus
                        obtain ⟨d8, d9, d0, d1, d2, d3, d4, d5, d6, d7, _, _, _⟩ := hd
                        obtain ⟨ρ, hρ⟩ : ∃ ρ, a'.eval = ρ := ⟨_, rfl⟩
                        have hcst : ∀ v, ρ (.const v) = v := fun v => (congrFun hρ (.const v)).symm
                        have v8 : ρ (.tmp 126) = .int .i64 0 := (congrFun hρ (.tmp 126)).symm.trans ((HF.out.ev 8 rfl d8).trans (HVA.out 8 _ (by rw [HVV.out]; rfl) d8))
                        rw [if_pos (by simp [Region.wanted])]
                        unfold Oper.wp
                        rw [hρ]
                        clear hρ
                        go_simp
                        exact hK.out _ _ ⟨HVA.out.set (i := 10) (by rw [HVV.out]; rfl), hb⟩
                    focus
                      intro L w' xs hL hJ
                      obtain ⟨hv, hb⟩ := hJ
                      have e0 : xs 0 = .agg #[.int .i64 f.senders, .slice ay5 ny cy5] := hv 0 _ (by rw [HVV.out]; rfl) (hL 0 (by decide))
                      have e1 : xs 1 = .slice (some ⟨gl, 0, none⟩) QL.length c8 := hv 1 _ (by rw [HVV.out]; rfl) (hL 1 (by decide))
                      have e2 : xs 2 = .int .i64 (k : Int) := hv 2 _ (by rw [HVV.out]; rfl) (hL 2 (by decide))
                      have e3 : xs 3 = .pointer (some ⟨gl, k, none⟩) := hv 3 _ (by rw [HVV.out]; rfl) (hL 3 (by decide))
                      have e4 : xs 4 = .slice ar (rowAt QL k).length cr := hv 4 _ (by rw [HVV.out]; rfl) (hL 4 (by decide))
                      have e5 : xs 5 = .tuple #[.bool true, .int .i64 0] := hv 5 _ (by rw [HVV.out]; rfl) (hL 5 (by decide))
                      have e6 : xs 6 = .tuple #[.bool true, .int .i64 0] := hv 6 _ (by rw [HVV.out]; rfl) (hL 6 (by decide))
                      have e7 : xs 7 = .bool true := hv 7 _ (by rw [HVV.out]; rfl) (hL 7 (by decide))
                      have e8 : xs 8 = .int .i64 0 := hv 8 _ (by rw [HVV.out]; rfl) (hL 8 (by decide))
                      have e9 : xs 9 = .bool true := hv 9 _ (by rw [HVV.out]; rfl) (hL 9 (by decide))
                      have e10 : xs 10 = .int .i64 0 := hv 10 _ (by rw [HVV.out]; rfl) (hL 10 (by decide))
                      simp only [putGo, Act.put, List.setIfInBounds_toArray, List.set_cons_zero, List.set_cons_succ, e0, e1, e2, e3, e4, e5, e6, e7, e8, e9, e10]
                      clear hv e0 e1 e2 e3 e4 e5 e6 e7 e8 e9 e10
                      obtain ⟨wB, rfl⟩ : ∃ W, W = w' := ⟨_, rfl⟩
                      have HBB : Hid (Below w9.heap.size w9 wB) := Lib.hid (HBR.out.trans (hb.mono HBR.out.size))
                      have HRB := Lib.hid (HRO.out.below hb)
                      have HTB := Lib.hid (HT9.out.below HBB.out)
                      obtain ⟨_, _, k2⟩ := HKB.out _ hb
                      clear hb hL
                      cases met
                      · have HSM := Lib.hid (same_any wB.heap.size wB _ _ _ _ HRB.out.isInts HTB.out.isInts)
                        obtain ⟨sb, hsb⟩ : ∃ b, sameB (rowAt QL k) T = b := ⟨_, rfl⟩
                        rw [hsb] at HSM HAS
                        clear hsb
                        go_wp2_with fail
                        refine HSM.out.mono ?_
                        rintro e w10 ⟨rfl, hd10⟩
                        have HD10 := Lib.hid hd10
                        clear hd10
                        go_wp2
                        go_roundw
                        case rel => exact ⟨k + 1, by omega, by go_num, by rw [HAS.out]; rfl, HBB.out.trans (HD10.out.below _)⟩
                        case measure => simp [intOf]; omega
                      · go_wp2
                        go_roundw
                        case rel => exact ⟨k + 1, by omega, by go_num, by rw [HAS.out]; rfl, HBB.out⟩
                        case measure => simp [intOf]; omega
                  · obtain rfl : k = QL.length := by omega
                    rw [HMET.out]
                    go_wp2
                    go_ret
                    exact ⟨rfl, HW9.out.trans (HBR.out.mono HW9.out.size)⟩
              · obtain ⟨_, ey⟩ : 8 < f.senders ∧ allE (viewF f lines c') = 2 := by
                  rcases HFEY.out with h | h
                  · omega
                  · exact h
                rw [ex, ey]
                have h8' : decide (8 < f.senders) = true := decide_eq_true h8
                obtain ⟨y9, q9⟩ := HX9.out
                obtain ⟨nx2, hnx2⟩ : ∃ n, (allR (viewF f lines c)).length = n := ⟨_, rfl⟩
                obtain ⟨ny2, hny2⟩ : ∃ n, (allR (viewF f lines c')).length = n := ⟨_, rfl⟩
                rw [hnx2, hny2]
                clear ex ey h8 hnx2 hny2
                go_wp2
                go_ret
                exact ⟨rfl, HW9.out⟩
        · have h0' : (viewE f lines c != 0) = true := by simpa using h0
          clear h0
          go_wp2
          go_ret
          exact ⟨by simp, HW3.out.alloc HW3.out.size _⟩

end Go.Proofs.Ythekefnocphcdaa
