/- Layers Pm3 Pm4 Shl27 K8 Sr1 Sr2 C11 RegPut RegV Rc1 Rc2 Rc3 Rc4 Rc5 Mk Cl1 KLoop Sr3 So27 RegIn K8In C12 Marks: the walks and the plain laws under the last text, merged and cut to what it uses; nothing is assumed. -/
import Derived.Shelf.Small.Bits
import Derived.Shelf.Strconv.Itoa0
import Derived.Shelf.Sort.Plain
import Derived.Shelf.Slices.In.SortNone
import Derived.Ground.SlsfProg
import Derived.Shelf.SlSortCmp.Insertion
import Derived.Shelf.SlSortCmp.SiftDown1
import Derived.Shelf.SlSortCmp.HeapSort1
import Derived.Shelf.SlSortCmp.Insertion1
import Derived.Shelf.SlSortCmp.Median1
import Derived.Shelf.SlSortCmp.Pivot1
import Derived.Shelf.SlSortCmp.ReverseRange1
import Derived.Shelf.SlSortCmp.PartialInsertion1
import Derived.Shelf.SlSortCmp.PartitionEqual1
import Derived.Shelf.SlSortCmp.Partition1
import Derived.Shelf.SlSortCmp.Pdq1
import Derived.Shelf.SlSortCmp.Whole1
import Derived.Test.YthekefnocphcdaaProg
import Derived.WideKeyPair
import Derived.DeepKeys5
import Derived.Maps.Keyed
import Derived.Deep.WholeRow
import Derived.Laws.CopyRow
import Derived.Laws.OwnMore
import Derived.Maps.AppendAt
import Derived.Lib.SliceRun
import Derived.Laws.Rows
import Derived.OrdersIn
import Derived.RangeFuncLeaves
import Derived.Test.YthekefnocphcdaaGcc

set_option linter.unusedVariables false

set_option linter.unusedSimpArgs false

namespace Go.Proofs.Ythekefnocphcdaa

open Go.RowKit

attribute [local go_sem] Oper.semAt_some

attribute [local go_sem] run_store_func

/-- the lists that an iterator hands over, below block B or in blocks of its own -/
def EncP (B : Nat) (L : List (List Int)) (base i : Nat) (W : World) (args : Array Value) : Prop := ∃ v, args = #[v] ∧ IsIntsX (fun k => k < B ∨ base ≤ k) W v (L.getD i [])

set_option maxHeartbeats 4000000 in
set_option maxRecDepth 100000 in
theorem perms_iter (B bn n : Nat) (w : World) (hn : n ≤ 100000) (hx : Box w bn #[.int .i64 (n : Int)]) :
    IterB Try.prog 114 #[.pointer (some ⟨bn, 0, none⟩)] (permsL n).length (EncP B (permsL n)) (fun k => k < B ∨ k = bn) w := by
  intro l ob W J Jx hwW hob hJ hJx hst hY
  have hxW := hx.turned hwW (fun h => h (Or.inr rfl))
  have HX := Lib.hid hxW
  have HOB := Lib.hid hob
  have HJ := Lib.hid hJ
  have HST := Lib.hid hst
  have HY := Lib.hid hY
  have HN := Lib.hid hn
  have hn9 : (n : Int) ≤ 100000 := by omega
  obtain ⟨zx, rx⟩ := hxW
  have r0 := rx 0
  simp only [List.getElem?_toArray, List.getElem?_cons_zero] at r0
  clear hob hJ hJx hst hY rx hx hwW hn
  have hmf := @run_makeFunc_any Try.prog
  obtain ⟨i0, hi, hz0, hz1, hz2⟩ := info_parts int_info
  have HI := Lib.hid hi
  refine callsIn_of_wp Try.func114 rfl trivial ?_ rfl
  simp only [Try.ntmps114, List.size_toArray, List.length_cons, List.length_nil, Nat.reduceAdd, Nat.reduceSub, Array.replicate_succ, Array.replicate_zero, List.push_toArray, List.append_toArray, List.nil_append, List.cons_append]
  gi_wp2_with (gi_at_make; refine wpListIn_make_own _ rfl _ _ 34 rfl W.heap.size 3 i0 (.int .i64 0) 1 Try.underlying34 HI.out hz0 hz1 .i64 .i64 (n : Int) n rfl rfl rfl ?b1 ?b2 ?b3 ?b4)
  case b1 => have := HN.out; omega
  case b2 => unfold maxLen; have := HN.out; omega
  case b4 =>
    intro w2 hr2 hg2
    clear hi
    have hsz : (W.alloc (.cells #[.func (.yield l) #[] #[]] 77)).heap.size = W.heap.size + 1 := by simp
    have hrow2 : RowAt W.heap.size (W.heap.size + 1) n [] w2 := by unfold RowAt; simpa [hsz] using hr2
    have hw2 := hg2.size
    rw [hsz] at hw2
    have HR2 := Lib.hid hrow2
    have HG2 := Lib.hid hg2
    have HW2 := Lib.hid hw2
    have HZX := Lib.hid zx
    clear hr2 hrow2 hg2 hw2 hsz hz0 hz1 hz2
    gi_wp2
    obtain ⟨w5, hw5⟩ : ∃ w5, w2.alloc (.cells #[.slice (some ⟨W.heap.size + 1, 0, none⟩) 0 n] 34) = w5 := ⟨_, rfl⟩
    have HC5 : Hid (Cell1 w5 w2.heap.size (.slice (some ⟨W.heap.size + 1, 0, none⟩) 0 n)) := Lib.hid (by rw [← hw5]; exact Cell1.new _ _ _)
    have hT5 : Turned (fun _ => False) w2 w5 := by rw [← hw5]; exact Turned.of_below (box_below' _ _)
    have hs5 : w5.heap.size = w2.heap.size + 1 := by rw [← hw5]; simp
    rw [hw5]
    clear hw5
    obtain ⟨w6, hw6⟩ : ∃ w6, w5.alloc (.cells #[.func (.func 115) #[] #[.pointer (some ⟨w2.heap.size, 0, none⟩), .pointer (some ⟨bn, 0, none⟩), .pointer (some ⟨W.heap.size, 0, none⟩), .pointer (some ⟨w2.heap.size + 1, 0, none⟩)]] 25) = w6 := ⟨_, rfl⟩
    have hT6 : Turned (fun _ => False) w5 w6 := by rw [← hw6]; exact Turned.of_below (box_below' _ _)
    have hs6 : w6.heap.size = w2.heap.size + 2 := by rw [← hw6]; simp [hs5]
    have hbe : Box w6 (w2.heap.size + 1) #[.func (.func 115) #[] #[.pointer (some ⟨w2.heap.size, 0, none⟩), .pointer (some ⟨bn, 0, none⟩), .pointer (some ⟨W.heap.size, 0, none⟩), .pointer (some ⟨w2.heap.size + 1, 0, none⟩)]] := by
      rw [← hw6, ← hs5]; exact Box.new _ _ _
    rw [hw6]
    clear hw6
    have hT0 : Turned (fun _ => False) (W.alloc (.cells #[.func (.yield l) #[] #[]] 77)) w6 := ((Turned.of_grown HG2.out (fun k e => by cases e)).trans hT5).trans hT6
    have hTW : Turned (fun _ => False) W w6 := (Turned.of_below (box_below' W _)).trans hT0
    have hE : ExtW W.heap.size l n (W.heap.size + 1) w2.heap.size bn W.heap.size (w2.heap.size + 1) [] w6 :=
      ⟨HC5.out.turned hT6 (fun h => h), HR2.out.turned (hT5.trans hT6) (fun h => h), HX.out.turned hTW (fun h => h), (Box.new W _ _).turned hT0 (fun h => h), hbe⟩
    have hB6 : Below W.heap.size W w6 := hTW.below (Nat.le_refl _) (fun _ _ h => h)
    have hw2 := HW2.out
    have hJ0 := HST.out (w2.heap.size + 2) w6 (by omega) (by omega) hB6
    have hzx := HZX.out
    have hlt2 := HR2.out.lt.1
    refine ⟨trivial, (extend_any l n (W.heap.size + 1) w2.heap.size bn W.heap.size (w2.heap.size + 1) W.heap.size (w2.heap.size + 2) (permsL n).length (fun k => k < B ∨ W.heap.size ≤ k) (permsL n) rfl (by have := HN.out; omega) ob (J (w2.heap.size + 2)) (Jx (w2.heap.size + 2))
      (by omega) (by omega) hzx (fun k hk => ⟨(HOB.out k hk).1, fun e => (HOB.out k hk).2 (Or.inr e)⟩) (Or.inr (by omega)) (fun i A B h ht => HJ.out _ _ _ _ (by omega) h ht)
      (fun i A args h1 h2 h3 h4 => HY.out _ _ _ _ (by omega) h1 h2 h3 h4) n 9 [] 0 w6 ⟨List.nodup_nil, fun x h => by cases h⟩ (by simp) ⟨[], [], by simp [permsL], rfl⟩ (by omega) hE hJ0).mono ?_⟩
    clear hE hJ0 hTW hT0 hB6 hT5 hT6 hbe
    rintro e W' (⟨rfl, _, hJ', hs'⟩ | ⟨rfl, ⟨i', hi', hx'⟩, hs'⟩)
    · have HJ' := Lib.hid hJ'
      clear hJ'
      gi_wp2
      go_end0
      exact ⟨⟨_, rfl⟩, w2.heap.size + 2, by omega, hs', Or.inl (by have := HJ'.out; rwa [Nat.zero_add] at this)⟩
    · have HJ' := Lib.hid hx'
      clear hx'
      gi_wp2
      go_end0
      exact ⟨⟨_, rfl⟩, w2.heap.size + 2, by omega, hs', Or.inr ⟨i', hi', HJ'.out⟩⟩

end Go.Proofs.Ythekefnocphcdaa

set_option linter.unusedVariables false

set_option linter.unusedSimpArgs false

namespace Go.Proofs.Ythekefnocphcdaa

open Go.RowKit

attribute [local go_sem] Oper.semAt_some

theorem permutations_any (n : Int) (w : World) :
    Calls Try.prog 84 #[.int .i64 n] w fun e w' => e = .returned (.func (.func 114) #[] #[.pointer (some ⟨w.heap.size, 0, none⟩)]) ∧ w' = w.alloc (.cells #[.int .i64 n] 3) := by
  have hmf := @run_makeFunc_any Try.prog
  go_enter Try.func84, Try.ntmps84
  go_wp2
  go_ret
  exact ⟨rfl, rfl⟩

set_option maxHeartbeats 4000000 in
set_option maxRecDepth 100000 in
theorem one_iter (B bx : Nat) (w : World) (vi vk vp : Value) (π : List Int) (hp : IsInts B w vp π) (hB : B ≤ w.heap.size) (hx : Box w bx #[vi, vk, vp]) :
    IterB Try.prog 85 #[.pointer (some ⟨bx, 0, none⟩)] 1 (EncP B [π]) (fun k => k < B ∨ k = bx) w := by
  intro l ob W J Jx hwW hob hJ hJx hst hY
  have hxW := hx.turned hwW (fun h => h (Or.inr rfl))
  have hBw : Below B w W := hwW.below hB (fun k hk hn => hn (Or.inl hk))
  have hpW := hp.below hBw (Nat.le_refl _)
  have hBW : B ≤ W.heap.size := Nat.le_trans hB hwW.size
  have HYY := Lib.hid (hY W.heap.size 0 W #[vp] (Nat.le_refl _) (Nat.le_refl _) (by omega) (hst _ _ (Nat.le_refl _) (Nat.le_refl _) (Below.refl _ _)) ⟨vp, rfl, hpW.kind hBW (fun k hk => Or.inl hk)⟩)
  obtain ⟨b, off, cap, ⟨a, rfl, _⟩, _⟩ := hpW
  obtain ⟨zx, rx⟩ := hxW
  have r0 := rx 2
  simp at r0
  obtain ⟨fn, tmps, assign, body, hy, hR⟩ := HYY.out
  have HR := Lib.hid hR
  clear hob hJ hJx hst hY rx hx hwW hR HYY hp hBw hB hBW
  refine callsIn_of_wp Try.func85 rfl trivial ?_ rfl
  simp only [Try.ntmps85, List.size_toArray, List.length_cons, List.length_nil, Nat.reduceAdd, Nat.reduceSub, Array.replicate_succ, Array.replicate_zero, List.push_toArray, List.append_toArray, List.nil_append, List.cons_append]
  gi_wp2
  refine HR.out.mono ?_
  rintro e W' (⟨rfl, hJ', ht⟩ | ⟨rfl, hJx', ht⟩)
  · have HJ' := Lib.hid hJ'
    have HT' := Lib.hid ht
    clear hJ' ht
    gi_wp2
    go_end0
    exact ⟨⟨_, rfl⟩, W.heap.size, Nat.le_refl _, HT'.out.size, Or.inl HJ'.out⟩
  · have HJ' := Lib.hid hJx'
    have HT' := Lib.hid ht
    clear hJx' ht
    gi_wp2
    go_end0
    exact ⟨⟨_, rfl⟩, W.heap.size, Nat.le_refl _, HT'.out.size, Or.inr ⟨0, by omega, HJ'.out⟩⟩

/-- what count.ways returns -/
def WaysPost (B : Nat) (w : World) (d : Lot) (e : Ending) (w' : World) : Prop :=
  ∃ gf lb bx, e = .returned (.func (.func gf) #[] lb) ∧ Enters Try.prog gf ∧ w.heap.size ≤ bx ∧ bx < w'.heap.size ∧ IterB Try.prog gf lb (permsOf d).length (EncP B (permsOf d)) (fun k => k < B ∨ k = bx) w' ∧ Below w.heap.size w w'

set_option maxHeartbeats 4000000 in
set_option maxRecDepth 100000 in
theorem ways_any (B : Nat) (w : World) (vi vk vp : Value) (d : Lot) (hd : IsLot B w vi vk vp d) (hB : B ≤ w.heap.size) (hn : d.ins.length ≤ 100000) :
    Calls Try.prog 46 #[.agg #[vi, vk, vp]] w (WaysPost B w d) := by
  obtain ⟨hi, rfl, hp⟩ := hd
  have HP := Lib.hid hp
  have HB := Lib.hid hB
  have HN := Lib.hid hn
  obtain ⟨b1, off1, cap1, ⟨a1, rfl, _⟩, _⟩ := hi
  obtain ⟨b2, off2, cap2, ⟨a2, rfl, _⟩, _⟩ := hp
  have hmf := @run_makeFunc_any Try.prog
  have hn9 : (d.ins.length : Int) ≤ 100000 := by omega
  have HPO : Hid (permsOf d = if d.known then [d.perm] else permsL d.ins.length) := Lib.hid rfl
  have HPC := Lib.hid (fun w => permutations_any (d.ins.length : Int) w)
  cases hk : d.known
  · rw [hk] at HPO
    clear hB hn
    go_enter Try.func46, Try.ntmps46
    go_wp2_with (go_at_call 84; refine (HPC.out _).mono ?_; rintro e w5 ⟨rfl, hw5⟩)
    go_ret
    have hsz : (w.alloc (.cells #[.slice a1 d.ins.length cap1, .bool false, .slice a2 d.perm.length cap2] 39)).heap.size = w.heap.size + 1 := by simp
    have hb5 : Box w5 (w.heap.size + 1) #[.int .i64 (d.ins.length : Int)] := by rw [hw5, ← hsz]; exact Box.new _ _ _
    have hbl : Below w.heap.size w w5 := by rw [hw5]; exact (box_below' w _).alloc (by simp) _
    have hsz5 : w5.heap.size = w.heap.size + 2 := by rw [hw5]; simp
    rw [← hw5]
    refine ⟨114, #[.pointer (some ⟨w.heap.size + 1, 0, none⟩)], w.heap.size + 1, by simp, enters_of Try.func114 (by kernel_rfl) rfl, by omega, by omega, ?_, hbl⟩
    have e : permsOf d = permsL d.ins.length := by rw [HPO.out]; rfl
    rw [e]
    exact perms_iter B _ _ w5 HN.out hb5
  · rw [hk] at HPO
    clear hB hn
    go_enter Try.func46, Try.ntmps46
    go_wp2
    go_ret
    have e : permsOf d = [d.perm] := by rw [HPO.out]; rfl
    refine ⟨_, _, w.heap.size, rfl, enters_of Try.func85 (by kernel_rfl) rfl, Nat.le_refl _, by simp, ?_, box_below' _ _⟩
    rw [e]
    exact one_iter B _ _ _ _ _ d.perm (HP.out.below ((Below.refl B w).alloc HB.out _) (Nat.le_refl _)) (by simp; have := HB.out; omega) (Box.new w _ _)

end Go.Proofs.Ythekefnocphcdaa

namespace Go.Proofs

open Go.Shelf

def Try.lays189_ren : Go.Shelf.Ren := ⟨fun | 189 => 45 | 125 => 83 | 257 => 82 | 128 => 112 | 129 => 113 | 294 => 104 | 295 => 105 | 296 => 106 | 297 => 107 | 298 => 108 | 299 => 109 | 216 => 95 | 300 => 110 | 301 => 111 | 328 => 126 | 329 => 127 | 330 => 128 | 331 => 129 | 332 => 130 | 215 => 119 | 343 => 142 | n => n, fun | 28 => 34 | 3 => 3 | 46 => 62 | 0 => 0 | 51 => 52 | 53 => 130 | 4 => 4 | 183 => 123 | 182 => 122 | 131 => 100 | 5 => 5 | 9 => 9 | 218 => 139 | 222 => 143 | 228 => 153 | 229 => 154 | n => n, fun | n => n⟩

theorem Try.lays189 : Go.Proofs.Lays.n189 Try.prog Try.lays189_ren := {
  mixed := by kernel_rfl
  f125 := Try.func83.trans (congrArg some (by kernel_rfl))
  f128 := Try.func112.trans (congrArg some (by kernel_rfl))
  f129 := Try.func113.trans (congrArg some (by kernel_rfl))
  f189 := Try.func45.trans (congrArg some (by kernel_rfl))
  f215 := Try.func119.trans (congrArg some (by kernel_rfl))
  f216 := Try.func95.trans (congrArg some (by kernel_rfl))
  f257 := Try.func82.trans (congrArg some (by kernel_rfl))
  f294 := Try.func104.trans (congrArg some (by kernel_rfl))
  f295 := Try.func105.trans (congrArg some (by kernel_rfl))
  f296 := Try.func106.trans (congrArg some (by kernel_rfl))
  f297 := Try.func107.trans (congrArg some (by kernel_rfl))
  f298 := Try.func108.trans (congrArg some (by kernel_rfl))
  f299 := Try.func109.trans (congrArg some (by kernel_rfl))
  f300 := Try.func110.trans (congrArg some (by kernel_rfl))
  f301 := Try.func111.trans (congrArg some (by kernel_rfl))
  f328 := Try.func126.trans (congrArg some (by kernel_rfl))
  f329 := Try.func127.trans (congrArg some (by kernel_rfl))
  f330 := Try.func128.trans (congrArg some (by kernel_rfl))
  f331 := Try.func129.trans (congrArg some (by kernel_rfl))
  f332 := Try.func130.trans (congrArg some (by kernel_rfl))
  f343 := Try.func142.trans (congrArg some (by kernel_rfl))
  t0 := Try.underlying0
  a0 := Try.isAgg0
  z0 := Try.sizeOf0
  v0 := Try.zeroValue0
  t3 := Try.underlying3
  a3 := Try.isAgg3
  z3 := Try.sizeOf3
  v3 := Try.zeroValue3
  t4 := Try.underlying4
  a4 := Try.isAgg4
  z4 := Try.sizeOf4
  v4 := Try.zeroValue4
  t5 := Try.underlying5
  a5 := Try.isAgg5
  z5 := Try.sizeOf5
  v5 := Try.zeroValue5
  t9 := Try.underlying9
  a9 := Try.isAgg9
  z9 := Try.sizeOf9
  v9 := Try.zeroValue9
  t28 := Try.underlying34
  a28 := Try.isAgg34
  z28 := Try.sizeOf34
  v28 := Try.zeroValue34
  t46 := Try.underlying62
  a46 := Try.isAgg62
  z46 := Try.sizeOf62
  v46 := Try.zeroValue62
  t51 := Try.underlying52
  a51 := Try.isAgg52
  z51 := Try.sizeOf52
  v51 := Try.zeroValue52
  t53 := Try.underlying130
  a53 := Try.isAgg130
  z53 := Try.sizeOf130
  v53 := Try.zeroValue130
  t131 := Try.underlying100
  a131 := Try.isAgg100
  z131 := Try.sizeOf100
  v131 := Try.zeroValue100
  t182 := Try.underlying122
  a182 := Try.isAgg122
  z182 := Try.sizeOf122
  v182 := Try.zeroValue122
  t183 := Try.underlying123
  a183 := Try.isAgg123
  z183 := Try.sizeOf123
  v183 := Try.zeroValue123
  t218 := Try.underlying139
  a218 := Try.isAgg139
  z218 := Try.sizeOf139
  v218 := Try.zeroValue139
  t222 := Try.underlying143
  a222 := Try.isAgg143
  z222 := Try.sizeOf143
  v222 := Try.zeroValue143
  t228 := Try.underlying153
  a228 := Try.isAgg153
  z228 := Try.sizeOf153
  v228 := Try.zeroValue153
  t229 := Try.underlying154
  a229 := Try.isAgg154
  z229 := Try.sizeOf154
  v229 := Try.zeroValue154 }

open Go.Sort Go.RowKit in
theorem Try.slices_Sort_int (blk off cap : Nat) (zs : List Int) (w : World) (hH : Holds (Value.int .i64) w blk off zs.toArray) (hblk : blk < w.heap.size) (hsz : zs.length < 4611686018427387904) :
    Calls Try.prog 45 #[.slice (some ⟨blk, off, none⟩) zs.length cap] w fun e w' =>
      e = .returned (.tuple #[]) ∧ ∃ n os, w' = grow (putRow (Value.int .i64) (Sort.ahead w n) blk off (zs.mergeSort fun x y => decide (x ≤ y)).toArray) os := Any.slices_Sort_int Try.lays189 blk off cap zs w hH hblk hsz

open Go.RowKit Go.Sort in
/-- .. and plain. (LAID: no walk: one application.) -/
theorem Try.slices_Sort_int_none (p : Option Addr) (cap : Nat) (w : World) :
    Calls Try.prog 45 #[.slice p 0 cap] w fun e w' => e = .returned (.tuple #[]) ∧ w' = w := Any.slices_Sort_int_none Try.lays189 p cap w

def Try.laysSlF6_f86_ren : Go.Shelf.Ren := ⟨fun | 6 => 86 | 15 => 83 | 14 => 116 | 28 => 112 | 29 => 113 | 20 => 131 | 21 => 132 | 22 => 133 | 23 => 134 | 24 => 135 | 25 => 136 | 26 => 137 | 27 => 138 | 46 => 143 | 47 => 127 | 48 => 128 | 49 => 144 | 50 => 145 | 57 => 146 | n => n, fun | 22 => 27 | 24 => 34 | 25 => 107 | 3 => 3 | 39 => 62 | 0 => 0 | 53 => 52 | 55 => 130 | 4 => 4 | 46 => 123 | 45 => 122 | 50 => 100 | 5 => 5 | 9 => 9 | 66 => 139 | 70 => 143 | 76 => 153 | 77 => 154 | n => n, fun | n => n⟩

theorem Try.laysSlF6_f86 : Go.Proofs.SlLaysF.n6 Try.prog Try.laysSlF6_f86_ren := {
  mixed := by kernel_rfl
  f6 := ⟨Try.f86.name, by decide, Try.func86.trans (congrArg some (by kernel_rfl))⟩
  f14 := ⟨Try.f116.name, by decide, Try.func116.trans (congrArg some (by kernel_rfl))⟩
  f15 := Try.func83.trans (congrArg some (by kernel_rfl))
  f20 := ⟨Try.f131.name, by decide, Try.func131.trans (congrArg some (by kernel_rfl))⟩
  f21 := ⟨Try.f132.name, by decide, Try.func132.trans (congrArg some (by kernel_rfl))⟩
  f22 := ⟨Try.f133.name, by decide, Try.func133.trans (congrArg some (by kernel_rfl))⟩
  f23 := ⟨Try.f134.name, by decide, Try.func134.trans (congrArg some (by kernel_rfl))⟩
  f24 := ⟨Try.f135.name, by decide, Try.func135.trans (congrArg some (by kernel_rfl))⟩
  f25 := ⟨Try.f136.name, by decide, Try.func136.trans (congrArg some (by kernel_rfl))⟩
  f26 := ⟨Try.f137.name, by decide, Try.func137.trans (congrArg some (by kernel_rfl))⟩
  f27 := ⟨Try.f138.name, by decide, Try.func138.trans (congrArg some (by kernel_rfl))⟩
  f28 := Try.func112.trans (congrArg some (by kernel_rfl))
  f29 := Try.func113.trans (congrArg some (by kernel_rfl))
  f46 := ⟨Try.f143.name, by decide, Try.func143.trans (congrArg some (by kernel_rfl))⟩
  f47 := Try.func127.trans (congrArg some (by kernel_rfl))
  f48 := Try.func128.trans (congrArg some (by kernel_rfl))
  f49 := ⟨Try.f144.name, by decide, Try.func144.trans (congrArg some (by kernel_rfl))⟩
  f50 := ⟨Try.f145.name, by decide, Try.func145.trans (congrArg some (by kernel_rfl))⟩
  f57 := ⟨Try.f146.name, by decide, Try.func146.trans (congrArg some (by kernel_rfl))⟩
  t0 := Try.underlying0
  a0 := Try.isAgg0
  z0 := Try.sizeOf0
  v0 := Try.zeroValue0
  t3 := Try.underlying3
  a3 := Try.isAgg3
  z3 := Try.sizeOf3
  v3 := Try.zeroValue3
  t4 := Try.underlying4
  a4 := Try.isAgg4
  z4 := Try.sizeOf4
  v4 := Try.zeroValue4
  t5 := Try.underlying5
  a5 := Try.isAgg5
  z5 := Try.sizeOf5
  v5 := Try.zeroValue5
  t9 := Try.underlying9
  a9 := Try.isAgg9
  z9 := Try.sizeOf9
  v9 := Try.zeroValue9
  t22 := Try.underlying27
  a22 := Try.isAgg27
  z22 := Try.sizeOf27
  v22 := Try.zeroValue27
  a24 := Try.isAgg34
  z24 := Try.sizeOf34
  t25 := Try.underlying107
  a25 := Try.isAgg107
  z25 := Try.sizeOf107
  v25 := Try.zeroValue107
  t39 := Try.underlying62
  a39 := Try.isAgg62
  z39 := Try.sizeOf62
  v39 := Try.zeroValue62
  t45 := Try.underlying122
  a45 := Try.isAgg122
  z45 := Try.sizeOf122
  v45 := Try.zeroValue122
  t46 := Try.underlying123
  a46 := Try.isAgg123
  z46 := Try.sizeOf123
  v46 := Try.zeroValue123
  t50 := Try.underlying100
  a50 := Try.isAgg100
  z50 := Try.sizeOf100
  v50 := Try.zeroValue100
  t53 := Try.underlying52
  a53 := Try.isAgg52
  z53 := Try.sizeOf52
  v53 := Try.zeroValue52
  t55 := Try.underlying130
  a55 := Try.isAgg130
  z55 := Try.sizeOf130
  v55 := Try.zeroValue130
  t66 := Try.underlying139
  a66 := Try.isAgg139
  z66 := Try.sizeOf139
  v66 := Try.zeroValue139
  t70 := Try.underlying143
  a70 := Try.isAgg143
  z70 := Try.sizeOf143
  v70 := Try.zeroValue143
  t76 := Try.underlying153
  a76 := Try.isAgg153
  z76 := Try.sizeOf153
  v76 := Try.zeroValue153
  t77 := Try.underlying154
  a77 := Try.isAgg154
  z77 := Try.sizeOf154
  v77 := Try.zeroValue154 }

open Go.RowKit Go.Lib Go.Sort in
/-- **slices.SortFunc, IN THE DOCUMENTATION's OWN TERMS: A PERMUTATION OF WHAT THE ROW HELD, SORTED BY 'cmp(a, b) < 0'.** Which of two equals comes first is left open ("The sort is not guaranteed to be stable"). (LAID AT THE INSTANCE 'slices.SortFunc[[][]int,[]int]': no walk: one application.) -/
theorem Try.slices_SortFunc {α : Type} [Inhabited α] (enc : α → Value) (h1 : OneCell enc) (cf : α → α → Int) (hO : SWO (ltOf cf)) (g : Nat) (cb : Array Value) (blk off cap : Nat) (d : Array α) (w : World) (eg : ∀ args w, (callFunc g args).run Try.prog w = .ok (.enter g args) w) (hcmp : CmpLays1 Try.prog g cb enc cf blk off d.size w) (hH : Holds enc w blk off d) (hblk : blk < w.heap.size) (hsz : d.size < 4611686018427387904) :
    Calls Try.prog 86 #[.slice (some ⟨blk, off, none⟩) d.size cap, .func (.func g) #[] cb] w fun e w' =>
      e = .returned (.tuple #[]) ∧ ∃ d' n os, PermIn 0 d.size d d' ∧ SortedIn (ltOf cf) 0 d.size d' ∧ w' = sortWorld enc w blk off n d' os := Any.slices_SortFunc Try.laysSlF6_f86 enc h1 cf hO g cb blk off cap d w eg hcmp hH hblk hsz

end Go.Proofs

set_option linter.unusedVariables false

set_option linter.unusedSimpArgs false

namespace Go.Proofs.Ythekefnocphcdaa

open Go.RowKit Go.ChangeShapes Go.WideShapes Go.WideMaps

/-- eight numbers -/
def K8 : Type := { l : List Int // l.length = 8 ∧ ∀ x ∈ l, I64 x }

instance : DecidableEq K8 := fun a b => decidable_of_iff (a.1 = b.1) ⟨Subtype.ext, fun h => by rw [h]⟩

def enc8 (k : K8) : Value := .agg (k.1.map (Value.int .i64)).toArray

theorem laidOut8 : laidOutB Try.prog = true := by kernel_rfl

theorem row8 : (64 : TypeId) < Try.prog.types.size := of_decide_eq_true (by kernel_rfl)

theorem wide8 : (match Try.prog.underlying 64 with | some (.array _ _) | some (.struct _) => true | _ => false) = true := by rw [Try.underlying64]

theorem arr8 : ArrKey Try.prog 64 3 8 := ⟨Try.underlying64, by kernel_rfl, by kernel_rfl, by kernel_rfl⟩

theorem keyAt8 : Try.prog.keyTypeAt 2 64 = true := by kernel_rfl

theorem small8 : 2 + 1 ≤ 10000 := by decide

set_option maxRecDepth 100000 in
theorem law8 : KeyLaw Try.prog 64 := deep_law_laid laidOut8 (m := 2) small8 row8 keyAt8 wide8

set_option maxRecDepth 100000 in
theorem types8 : ∃ m, Try.prog.types.size = m + 1 := by
  exact ⟨Try.prog.types.size - 1, (Nat.succ_pred_eq_of_pos (Nat.lt_of_le_of_lt (Nat.zero_le _) row8)).symm⟩

theorem key8 (k : K8) : ∃ l, keyOf Try.prog 64 (enc8 k) = some l := by
  obtain ⟨l, hl, hx⟩ := k
  obtain ⟨m, hm⟩ := types8
  have A := arr8
  have hkt := A.keyType ⟨m, hm⟩
  have he := Try.underlying3
  match l, hl, hx with
  | [a, b, c, d, e, f, g, h], _, hx =>
    have wf : ∀ x ∈ [a, b, c, d, e, f, g, h], (Lit.int .i64 x).wf = true := fun x hx' => by
      have := hx x hx'
      unfold I64 at this
      simp [Lit.wf, IntKind.min, IntKind.max, IntKind.bits, IntKind.signed]
      omega
    have w1 := wf a (by simp)
    have w2 := wf b (by simp)
    have w3 := wf c (by simp)
    have w4 := wf d (by simp)
    have w5 := wf e (by simp)
    have w6 := wf f (by simp)
    have w7 := wf g (by simp)
    have w8 := wf h (by simp)
    refine ⟨.string (keyBytes [.int .i64 a, .int .i64 b, .int .i64 c, .int .i64 d, .int .i64 e, .int .i64 f, .int .i64 g, .int .i64 h]), ?_⟩
    show keyOf Try.prog 64 (.agg #[.int .i64 a, .int .i64 b, .int .i64 c, .int .i64 d, .int .i64 e, .int .i64 f, .int .i64 g, .int .i64 h]) = _
    unfold keyOf
    simp only [A.hu]
    rw [if_pos (by simp [hkt, Value.formed, A.hu, A.size]), hm]
    unfold Program.keyLits
    simp only [A.hu, Value.cells]
    rw [if_pos (by rw [A.size]; rfl), show List.range 8 = [0, 1, 2, 3, 4, 5, 6, 7] from rfl, List.mapM_cons, List.mapM_cons, List.mapM_cons, List.mapM_cons, List.mapM_cons, List.mapM_cons, List.mapM_cons, List.mapM_cons, List.mapM_nil]
    simp [A.one, Program.keyLits, he, w1, w2, w3, w4, w5, w6, w7, w8]

theorem enc8_inj {x y : K8} (h : enc8 x = enc8 y) : x = y := by
  unfold enc8 at h
  simp only [Value.agg.injEq] at h
  have h' := congrArg Array.toList h
  simp only at h'
  refine Subtype.ext (List.map_inj_right (f := Value.int .i64) (fun a b e => by cases e; rfl) |>.1 h')

theorem encK8 : KeyEnc Try.prog 64 enc8 := ⟨Go.Maps.Keyed.of_law law8, enc8_inj, key8⟩

def arrN (l : List Int) : Array Value := (l.map (Value.int .i64)).toArray

theorem arrN_size (l : List Int) : (arrN l).size = l.length := by unfold arrN; simp

theorem enc8_arr8 (k : K8) : enc8 k = .agg (arrN k.1) := rfl

theorem info8 : (Try.prog.info? 64).map (·.size) = some 8 := by kernel_rfl

theorem arrN_one (l : List Int) : (arrN l).all (·.oneCell') = true := by
  unfold arrN
  rw [← Array.all_toList]
  simp [Value.oneCell']

/-- block b is an array of eight numbers that may be written -/
def Row8 (w : World) (b : Nat) (l : List Int) : Prop := w.heap[b]? = some (.cells (arrN l) 64 (0, 0)) ∧ l.length = 8

theorem Row8.lt {w : World} {b : Nat} {l : List Int} (h : Row8 w b l) : b < w.heap.size := (Array.getElem?_eq_some_iff.1 h.1).1

theorem Row8.new (w : World) {l : List Int} (hl : l.length = 8) : Row8 (w.alloc (.cells (arrN l) 64)) w.heap.size l := ⟨heap_alloc_new w _, hl⟩

theorem Row8.below {B b : Nat} {w w' : World} {l : List Int} (h : Row8 w b l) (hb : Below B w w') (hB : b < B) : Row8 w' b l := ⟨(hb.block b hB).trans h.1, h.2⟩

theorem Row8.ext {b : Nat} {w w' : World} {l : List Int} (h : Row8 w b l) (hb : Below w.heap.size w w') : Row8 w' b l := h.below hb h.lt

theorem Row8.grown {b : Nat} {w w' : World} {l : List Int} {row : Option Nat} (h : Row8 w b l) (hg : w.grownBy w' row) (hne : some b ≠ row) : Row8 w' b l := ⟨(hg.block b h.lt hne).trans h.1, h.2⟩

theorem Row8.cell {w : World} {b j : Nat} {l : List Int} (h : Row8 w b l) (hj : j < 8) : w.cell? ⟨b, j, none⟩ = some (.int .i64 (l.getD j 0)) := by
  obtain ⟨h1, h2⟩ := h
  simp only [World.cell?, h1]
  unfold arrN
  have : j < l.length := by omega
  simp [this]

theorem Row8.free {w : World} {b j : Nat} {l : List Int} (h : Row8 w b l) : w.frozen? ⟨b, j, none⟩ = false := by
  obtain ⟨h1, h2⟩ := h
  simp [World.frozen?, h1]

theorem Row8.set {w : World} {b : Nat} {l : List Int} (h : Row8 w b l) (j : Nat) (v : Int) : Row8 (w.setCell ⟨b, j, none⟩ (.int .i64 v)) b (l.set j v) := by
  obtain ⟨h1, h2⟩ := h
  refine ⟨?_, by simpa using h2⟩
  rw [heap_setCell_same w b j (arrN l) _ _ h1]
  congr 2
  unfold arrN
  rw [List.setIfInBounds_toArray, List.map_set]

/-- the walk's load of such an array -/
theorem Row8.load {w : World} {b : Nat} {l : List Int} (h : Row8 w b l) : (loadCellsFrom ⟨b, 0, none⟩ 0 8 #[]).run Try.prog w = .ok (arrN l) w := by
  obtain ⟨h1, h2⟩ := h
  have := run_loadCells_list (P := Try.prog) w ⟨b, 0, none⟩ (arrN l).toList (fun j v hv => by
    have hadd : (⟨b, 0, none⟩ : Addr).add j = ⟨b, j, none⟩ := by unfold Addr.add; split <;> simp_all
    rw [hadd, cell_of_row w b j (arrN l) _ _ h1]
    simpa using hv)
  have hl : (arrN l).toList.length = 8 := by simp [arrN_size, h2]
  rw [hl] at this
  simpa [loadCells] using this

section

variable {ops : Array Oper} {rest : List Oper} {o : Oper} {a : Act} {w : World} {Q : Exit → Act → World → Prop}

theorem wpList_load8 (x : Operand) {b : Nat} {l : List Int} (h : Row8 w b l) (hk : wpList Try.prog ops Q rest (a.put o.dst (.agg (arrN l))) w) (hgd : o.guard = none) (ho : o.op = .load 64 x) (hx : a.eval x = .pointer (some ⟨b, 0, none⟩)) :
    wpList Try.prog ops Q (o :: rest) a w :=
  wpList_load_row hgd 64 x ho b hx 64 (arrN l) (0, 0) _ h.1 Try.underlying64 rfl (by rw [arrN_size, h.2]; kernel_rfl) hk

theorem wpList_store8 (p v : Operand) {l : List Int} (hl : l.length = 8) (hk : wpList Try.prog ops Q rest (a.put o.dst undef) (w.alloc (.cells (arrN l) 64))) (hgd : o.guard = none) (ho : o.op = .store 64 p v) (hp : a.eval p = .pointer (some ⟨w.heap.size, 0, none⟩)) (hv : a.eval v = .agg (arrN l)) :
    wpList Try.prog ops Q (o :: rest) a (w.alloc (.cells #[.int .i64 0, .int .i64 0, .int .i64 0, .int .i64 0, .int .i64 0, .int .i64 0, .int .i64 0, .int .i64 0] 64)) := by
  refine wpList_plain hgd fun K hK => ?_
  have hr := run_storeAt_new (P := Try.prog) w 64 #[.int .i64 0, .int .i64 0, .int .i64 0, .int .i64 0, .int .i64 0, .int .i64 0, .int .i64 0, .int .i64 0] (arrN l) (by rw [info8, arrN_size, hl]) (by rw [arrN_size, hl]; rfl) (arrN_one l)
  unfold Oper.wp
  simp only [execOp, ho, hp, hv]
  simp [hr, Result.andThen]
  exact hK _ _ hk

end

end Go.Proofs.Ythekefnocphcdaa

set_option linter.unusedVariables false

set_option linter.unusedSimpArgs false

namespace Go.Proofs.Ythekefnocphcdaa

open Go.RowKit

/-- how two lists are ordered -/
def cmpL : List Int → List Int → Int
  | [], [] => 0
  | [], _ :: _ => -1
  | _ :: _, [] => 1
  | a :: r, b :: s => if cmpI a b ≠ 0 then cmpI a b else cmpL r s

theorem cmpI_zero {a b : Int} : cmpI a b = 0 ↔ a = b := by
  unfold cmpI
  split
  · omega
  · split <;> omega

theorem cmpL_lt : ∀ {a b : List Int}, a.length = b.length → (cmpL a b < 0 ↔ ltL a b = true)
  | [], [], _ => by simp [cmpL, ltL]
  | [], b :: s, h => by simp at h
  | a :: r, [], h => by simp at h
  | a :: r, b :: s, h => by
    simp only [cmpL, ltL]
    by_cases hab : a = b
    · rw [if_pos hab, if_neg (fun h => h (cmpI_zero.2 hab))]
      exact cmpL_lt (by simpa using h)
    · rw [if_neg hab, if_pos (by rw [ne_eq, cmpI_zero]; exact hab)]
      unfold cmpI
      by_cases hlt : a < b
      · rw [if_pos hlt]; simp [hlt]
      · rw [if_neg hlt, if_pos (by omega)]; simp [hlt]

theorem cmpL_self : ∀ a : List Int, cmpL a a = 0
  | [] => rfl
  | a :: r => by simp only [cmpL]; rw [if_neg (fun h => h (cmpI_zero.2 rfl)), cmpL_self r]

theorem cmpL_trans : ∀ {a b c : List Int}, cmpL a b < 0 → cmpL b c < 0 → cmpL a c < 0
  | [], [], c, h, _ => by simp [cmpL] at h
  | [], b :: s, [], _, h => by simp [cmpL] at h
  | [], b :: s, c :: t, _, _ => by simp [cmpL]
  | a :: r, [], c, h, _ => by simp [cmpL] at h
  | a :: r, b :: s, [], _, h => by simp [cmpL] at h
  | a :: r, b :: s, c :: t, h1, h2 => by
    have ih := @cmpL_trans r s t
    simp only [cmpL, cmpI, ne_eq] at *
    repeat' split at h1
    all_goals repeat' split at h2
    all_goals repeat' split
    all_goals first | omega | (apply ih <;> assumption)

theorem cmpL_ntrans : ∀ {a b c : List Int}, ¬ cmpL a b < 0 → ¬ cmpL b c < 0 → ¬ cmpL a c < 0
  | [], b, [], _, _ => by simp [cmpL]
  | [], [], c :: t, _, h => by simp [cmpL] at h
  | [], b :: s, c :: t, h, _ => by simp [cmpL] at h
  | a :: r, b, [], _, _ => by simp [cmpL]
  | a :: r, [], c :: t, _, h => by simp [cmpL] at h
  | a :: r, b :: s, c :: t, h1, h2 => by
    have ih := @cmpL_ntrans r s t
    simp only [cmpL, cmpI, ne_eq] at *
    repeat' split at h1
    all_goals repeat' split at h2
    all_goals repeat' split
    all_goals first | omega | (apply ih <;> assumption)

theorem cmpL_step {a b : List Int} {k : Nat} (h1 : k < a.length) (h2 : k < b.length) : cmpL (a.drop k) (b.drop k) = if cmpI (nth a k) (nth b k) ≠ 0 then cmpI (nth a k) (nth b k) else cmpL (a.drop (k + 1)) (b.drop (k + 1)) := by
  rw [List.drop_eq_getElem_cons h1, List.drop_eq_getElem_cons h2]
  simp only [cmpL]
  rw [nth_lt h1, nth_lt h2]

set_option maxHeartbeats 2000000 in
/-- slices.Compare -/
theorem compareL_any (B B' : Nat) (w : World) (v v' : Value) (xs ys : List Int) (hx : IsInts B w v xs) (hy : IsInts B' w v' ys) :
    Calls Try.prog 87 #[v, v'] w fun e w' => e = .returned (.int .i64 (cmpL xs ys)) ∧ w' = w := by
  obtain ⟨b, off, cap, ⟨a, rfl, hcap, hmax, ha⟩, hlen, hz, hc⟩ := hx
  obtain ⟨b', off', cap', ⟨a', rfl, hcap', hmax', ha'⟩, hlen', hz', hc'⟩ := hy
  have HC := Lib.hid hc
  have HC' := Lib.hid hc'
  have HA := Lib.hid ha
  have HA' := Lib.hid ha'
  clear hc hc' ha ha' hz hz'
  go_enter Try.func87, Try.ntmps87
  go_wp2
  go_loopw [11] (fun i wr => ∃ k : Nat, k ≤ xs.length ∧ k ≤ ys.length ∧ i = .int .i64 k ∧ wr = w ∧ cmpL xs ys = cmpL (xs.drop k) (ys.drop k)) (fun i _ => xs.length - (intOf i).toNat)
  case atStart => exact ⟨0, by omega, by omega, rfl, rfl, by simp⟩
  case round =>
    obtain ⟨k, hk, hk', rfl, rfl, he⟩ := hrel
    have HE := Lib.hid he
    clear he
    by_cases h1 : k < xs.length
    · obtain rfl : a = some ⟨b, off, none⟩ := by rcases HA.out with h | h; exact h; omega
      have c1 := (HC.out k h1).2
      by_cases h2 : k < ys.length
      · obtain rfl : a' = some ⟨b', off', none⟩ := by rcases HA'.out with h | h; exact h; omega
        have c2 := (HC'.out k h2).2
        have HS := Lib.hid (cmpL_step h1 h2)
        cases hq : decide (cmpI (nth xs k) (nth ys k) = 0)
        · have hq' := of_decide_eq_false hq
          have HQ := Lib.hid hq'
          have hq2 : (cmpI (nth xs k) (nth ys k) != 0) = true := by simpa using hq'
          clear hq hq'
          go_wp2_with (go_at_call 117; refine (compare_any _ _ _).mono ?_; rintro e w5 ⟨rfl, hw5⟩; obtain rfl := hw5.symm)
          go_ret
          exact ⟨by rw [HE.out, HS.out, if_pos HQ.out]; rfl, rfl⟩
        · have hq' := of_decide_eq_true hq
          have HQ := Lib.hid hq'
          have hq2 : (cmpI (nth xs k) (nth ys k) != 0) = false := by simpa using hq'
          clear hq hq'
          go_wp2_with (go_at_call 117; refine (compare_any _ _ _).mono ?_; rintro e w5 ⟨rfl, hw5⟩; obtain rfl := hw5.symm)
          go_roundw
          case rel => exact ⟨k + 1, by omega, by omega, by go_num, by first | rfl | trivial, by rw [HE.out, HS.out, if_neg (by simpa using HQ.out)]⟩
          case measure => simp [intOf]; omega
      · have HR : Hid (cmpL xs ys = 1) := Lib.hid (by
          rw [HE.out, List.drop_eq_getElem_cons h1, List.drop_of_length_le (l := ys) (show ys.length ≤ k by omega)]
          rfl)
        go_wp2
        go_ret
        exact ⟨by rw [HR.out]; rfl, rfl⟩
    · obtain rfl : k = xs.length := by omega
      by_cases h2 : xs.length < ys.length
      · have HR : Hid (cmpL xs ys = -1) := Lib.hid (by
          rw [HE.out, List.drop_of_length_le (l := xs) (Nat.le_refl _), List.drop_eq_getElem_cons h2]
          rfl)
        go_wp2
        go_ret
        exact ⟨by rw [HR.out]; rfl, rfl⟩
      · have HR : Hid (cmpL xs ys = 0) := Lib.hid (by
          rw [HE.out, List.drop_of_length_le (l := xs) (Nat.le_refl _), List.drop_of_length_le (l := ys) (by omega)]
          rfl)
        go_wp2
        go_ret
        exact ⟨by rw [HR.out]; rfl, rfl⟩

end Go.Proofs.Ythekefnocphcdaa

set_option linter.unusedVariables false

set_option linter.unusedSimpArgs false

namespace Go.Proofs.Ythekefnocphcdaa

open Go.RowKit

theorem world_sort {α : Type} [Inhabited α] (enc : α → Value) (w : World) (g n : Nat) (d : Array α) (os : Array Obj) (hgl : g < w.heap.size) :
    w.grownBy (Go.Proofs.sortWorld enc w g 0 n d os) (some g) := by
  unfold Go.Proofs.sortWorld Go.Sort.grow Go.Sort.putRow Go.Sort.mapBlock
  refine ⟨rfl, rfl, rfl, ?_, fun k hk hne => ?_⟩
  · show w.heap.size ≤ ((w.heap.modify g _) ++ os).size
    simp
  · show ((w.heap.modify g _) ++ os)[k]? = _
    rw [Array.getElem?_append_left (by simpa using hk), Array.getElem?_modify, if_neg (fun e => hne (by rw [e]))]

set_option maxHeartbeats 2000000 in
theorem sort_rows {C : Nat} {w : World} {v : Value} {rows : List (List Int)} (h : OwnMat C w v rows) (hne : rows ≠ []) :
    Calls Try.prog 86 #[v, .func (.func 87) #[] #[]] w fun e w' => e = .returned (.tuple #[]) ∧
      ∃ rows', OwnMat C w' v rows' ∧ rows'.Perm rows ∧ rows'.Pairwise (fun a b => ¬ cmpL b a < 0) ∧ w.grownBy w' v.ownBlock := by
  obtain ⟨vals, ⟨hl, h1⟩, h2, h3⟩ := h
  have hpos : 0 < rows.length := List.length_pos_iff.2 hne
  rcases h1 with ⟨rfl, hn⟩ | ⟨g, cap, cur, rfl, hb, hg, hnc, hcm, hcs, htk⟩
  · omega
  · have hgl := (Array.getElem?_eq_some_iff.1 hg).1
    have hap : ∀ j, j < rows.length → (valAt vals j).ownBlock = none ∨ (valAt vals j).ownBlock ≠ some g := fun j hj =>
      (h3 j hj).apart (B' := C) (v := .slice (some ⟨g, 0, none⟩) rows.length cap) (n := rows.length) (vals := vals) ⟨hl, Or.inr ⟨g, cap, cur, rfl, hb, hg, hnc, hcm, hcs, htk⟩⟩
    let α : Type := { p : Value × List Int // OwnInts C w p.1 p.2 ∧ (p.1.ownBlock = none ∨ p.1.ownBlock ≠ some g) }
    let enc : α → Value := fun p => p.1.1
    let cf : α → α → Int := fun p q => cmpL p.1.2 q.1.2
    let at0 : Fin rows.length → α := fun j => ⟨(valAt vals j.1, rowAt rows j.1), h3 j.1 j.2, hap j.1 j.2⟩
    letI : Inhabited α := ⟨at0 ⟨0, hpos⟩⟩
    let d : Array α := Array.ofFn at0
    have hds : d.size = rows.length := by simp [d]
    have hdj : ∀ j (hj : j < rows.length), d[j]! = at0 ⟨j, hj⟩ := fun j hj => by
      rw [getElem!_pos d j (by rw [hds]; exact hj)]
      simp [d]
    have h1c : OneCell enc := fun p => by
      obtain ⟨⟨pv, pl⟩, hp, _⟩ := p
      obtain ⟨a, cap, e, _⟩ := hp.form
      show pv.oneCell' = true
      have e' : pv = .slice a pl.length cap := e
      rw [e']; rfl
    have hO : Go.Sort.SWO (Go.Proofs.ltOf cf) := by
      refine ⟨fun x => ?_, fun x y z a b => ?_, fun x y z a b => ?_⟩
      · unfold Go.Proofs.ltOf
        show decide (cmpL x.1.2 x.1.2 < 0) = false
        rw [cmpL_self]; rfl
      · unfold Go.Proofs.ltOf at *
        exact decide_eq_true (cmpL_trans (of_decide_eq_true a) (of_decide_eq_true b))
      · unfold Go.Proofs.ltOf at *
        exact decide_eq_false (cmpL_ntrans (of_decide_eq_false a) (of_decide_eq_false b))
    have hH : Go.Sort.Holds enc w g 0 d := fun j hj => by
      have hj' : j < rows.length := by rw [hds] at hj; exact hj
      have hjv : j < vals.length := by omega
      have hjc : j < cur.size := by omega
      refine ⟨?_, by simp [World.frozen?, hg]⟩
      rw [hdj j hj']
      show w.cell? ⟨g, 0 + j, none⟩ = some (valAt vals j)
      simp only [World.cell?, hg, Nat.zero_add]
      have : (cur.toList.take (rows.length * 1))[j]? = vals[j]? := by rw [htk]
      rw [List.getElem?_take, if_pos (by omega)] at this
      unfold valAt
      rw [List.getD_eq_getElem?_getD, List.getElem?_eq_getElem hjv]
      rw [List.getElem?_eq_getElem hjv] at this
      simpa using this
    have hcmp : Go.Proofs.CmpLays1 Try.prog 87 #[] enc cf g 0 d.size w := fun m os dk hs x y => by
      have hgr := world_sort enc w g m dk os hgl
      have hx := (x.2.1.kept hgr x.2.2).isInts
      have hy := (y.2.1.kept hgr y.2.2).isInts
      refine (compareL_any _ _ _ _ _ _ _ hx hy).mono ?_
      rintro e w' ⟨rfl, rfl⟩
      exact ⟨rfl, 0, #[], by simp [World.drewN]⟩
    have eg : ∀ args w, (callFunc 87 args).run Try.prog w = .ok (.enter 87 args) w := enters_of Try.func87 (by kernel_rfl) rfl
    have hcon := Try.slices_SortFunc enc h1c cf hO 87 #[] g 0 cap d w eg hcmp hH hgl (by rw [hds]; omega)
    rw [hds] at hcon
    refine hcon.mono ?_
    rintro e w' ⟨rfl, d', n, os, hp, hs, rfl⟩
    obtain ⟨hps, _, hpp⟩ := hp
    have hds' : d'.size = rows.length := by rw [hps, hds]
    have hgr := world_sort enc w g n d' os hgl
    have hall : (d'.toList.map fun p => p.1.2).Perm rows := by
      have e1 : (d'.extract 0 rows.length).toList = d'.toList := by simp [← hds']
      have e2 : (d.extract 0 rows.length).toList = d.toList := by simp [← hds]
      rw [e1, e2] at hpp
      refine (hpp.map (fun p : α => p.1.2)).trans ?_
      have : d.toList.map (fun p : α => p.1.2) = rows := by
        apply List.ext_getElem
        · simp [hds]
        · intro i h1 h2
          simp only [List.getElem_map, Array.getElem_toList]
          have hi : i < rows.length := h2
          have := hdj i hi
          rw [getElem!_pos d i (by rw [hds]; exact hi)] at this
          rw [this]
          show rowAt rows i = rows[i]
          unfold rowAt
          rw [List.getD_eq_getElem?_getD, List.getElem?_eq_getElem hi]
          rfl
      rw [this]
    have hget : ∀ j, j < rows.length → ∃ hj : j < d'.size, d'[j]! = d'[j] := fun j hj => ⟨by omega, getElem!_pos d' j (by omega)⟩
    refine ⟨rfl, d'.toList.map fun p => p.1.2, ⟨d'.toList.map fun p => p.1.1, ?_, by simp [hds']; exact h2, fun j hj => ?_⟩, hall, ?_, hgr⟩
    · have hblk : (Go.Proofs.sortWorld enc w g 0 n d' os).heap[g]? = some (.cells (Go.Sort.putCells enc 0 d' cur) 34 (0, 0)) := by
        unfold Go.Proofs.sortWorld Go.Sort.grow Go.Sort.putRow Go.Sort.mapBlock
        show ((w.heap.modify g _) ++ os)[g]? = _
        rw [Array.getElem?_append_left (by simpa using hgl), Array.getElem?_modify, if_pos rfl, hg]
        rfl
      refine ⟨by simp, Or.inr ⟨g, cap, _, by simp [hds'], hb, hblk, by simp [hds']; exact hnc, hcm, ?_, ?_⟩⟩
      · unfold Go.Sort.putCells
        simpa using hcs
      · apply List.ext_getElem?
        intro i
        rw [List.getElem?_take, List.getElem?_map]
        simp only [List.length_map, Array.length_toList, hds', Nat.mul_one]
        by_cases hi : i < rows.length
        · have hi' : i < d'.size := by omega
          have hic : i < cur.size := by omega
          rw [if_pos hi]
          unfold Go.Sort.putCells
          simp [hic, hi', enc]
        · rw [if_neg hi, List.getElem?_eq_none (by simp; omega)]
          rfl
    · have hj' : j < rows.length := by simpa [hds'] using hj
      have hjd : j < d'.size := by omega
      have e1 : valAt (d'.toList.map fun p => p.1.1) j = (d'[j]).1.1 := by
        unfold valAt
        rw [List.getD_eq_getElem?_getD, List.getElem?_map, List.getElem?_eq_getElem (by simpa using hjd)]
        rfl
      have e2 : rowAt (d'.toList.map fun p => p.1.2) j = (d'[j]).1.2 := by
        unfold rowAt
        rw [List.getD_eq_getElem?_getD, List.getElem?_map, List.getElem?_eq_getElem (by simpa using hjd)]
        rfl
      rw [e1, e2]
      exact (d'[j]).2.1.kept hgr (d'[j]).2.2
    · rw [List.pairwise_map, List.pairwise_iff_getElem]
      intro i j hi hj hij
      simp only [Array.length_toList] at hi hj
      have := hs i j (Nat.zero_le _) hij (by omega)
      rw [getElem!_pos d' i hi, getElem!_pos d' j hj] at this
      unfold Go.Proofs.ltOf at this
      have := of_decide_eq_false this
      simpa using this

end Go.Proofs.Ythekefnocphcdaa

set_option linter.unusedVariables false

set_option linter.unusedSimpArgs false

namespace Go.Proofs.Ythekefnocphcdaa

def padL (p : List Int) : List Int := p ++ List.replicate (8 - p.length) 0

theorem padL_len {p : List Int} (h : p.length ≤ 8) : (padL p).length = 8 := by unfold padL; simp; omega

theorem padL_take (p : List Int) : (padL p).take p.length = p := by unfold padL; simp

theorem padL_inj {p q : List Int} (h : padL p = padL q) (hl : p.length = q.length) : p = q := by
  rw [← padL_take p, h, hl, padL_take]

theorem padL_set {p : List Int} {j : Nat} (v : Int) (h : j < p.length) : (padL p).set j v = padL (p.set j v) := by
  unfold padL
  rw [List.set_append_left _ _ h, List.length_set]

theorem padL_mem {p : List Int} {x : Int} (h : x ∈ padL p) : x ∈ p ∨ x = 0 := by
  unfold padL at h
  rcases List.mem_append.1 h with h | h
  · exact .inl h
  · exact .inr (List.eq_of_mem_replicate h)

/-- the places of spots -/
def ofL (p ins : List Int) : List Int := ins.map fun x => (p.idxOf x : Int)

/-- the numbers of a permutation, from n on, put at places -/
def putsL (n : Int) (s π p : List Int) : List Int := p.mapIdx fun j x => if hasB s (j : Int) then n + nth π (s.idxOf (j : Int)) else x

theorem putsL_len (n : Int) (s π p : List Int) : (putsL n s π p).length = p.length := by unfold putsL; simp

theorem putsL_nth {n : Int} {s π p : List Int} {j : Nat} (h : j < p.length) : nth (putsL n s π p) j = if hasB s (j : Int) then n + nth π (s.idxOf (j : Int)) else nth p j := by
  rw [nth_lt (by rw [putsL_len]; exact h)]
  unfold putsL
  rw [List.getElem_mapIdx, nth_lt h]

theorem putsL_nil (n : Int) (π p : List Int) : putsL n [] π p = p := by
  refine ext_nth (putsL_len _ _ _ _) fun j hj => ?_
  rw [putsL_len] at hj
  rw [putsL_nth hj, if_neg (by simp [hasB])]

theorem putsL_succ {n : Int} {s π p : List Int} {i j : Nat} (hn : s.Nodup) (hi : i < s.length) (hj : nth s i = (j : Int)) (hjp : j < p.length) :
    putsL n (s.take (i + 1)) π p = (putsL n (s.take i) π p).set j (n + nth π i) := by
  have hni : nth s i ∉ s.take i := by
    intro hm
    obtain ⟨a, ha, he⟩ := List.mem_iff_getElem.1 hm
    rw [List.getElem_take] at he
    rw [List.length_take] at ha
    rw [← nth_lt (show a < s.length by omega)] at he
    have := nth_injC hn (by omega) hi he
    omega
  refine ext_nth (by rw [List.length_set, putsL_len, putsL_len]) fun t ht => ?_
  rw [putsL_len] at ht
  have e1 : nth ((putsL n (s.take i) π p).set j (n + nth π i)) t = if t = j then n + nth π i else nth (putsL n (s.take i) π p) t := by
    unfold nth
    rw [List.getD_eq_getElem?_getD, List.getElem?_set, List.getD_eq_getElem?_getD]
    by_cases h : t = j
    · subst h; rw [if_pos rfl, if_pos rfl, if_pos (by rw [putsL_len]; exact ht)]; rfl
    · rw [if_neg (fun e => h e.symm), if_neg h, List.getD_eq_getElem?_getD]
  rw [e1, putsL_nth ht, putsL_nth ht, hasB_take_succ hi]
  rw [nth_lt hi] at hni
  by_cases h : t = j
  · subst h
    rw [if_pos rfl, hj, if_pos (by simp), List.take_succ_eq_append_getElem hi, ← hj, nth_lt hi, List.idxOf_append, if_neg hni]
    simp only [List.idxOf_cons_self, List.length_take]
    congr 2; omega
  · rw [if_neg h]
    have hne : (nth s i == (t : Int)) = false := by rw [hj]; simp; omega
    rw [hne, Bool.or_false]
    by_cases hm : hasB (s.take i) (t : Int) = true
    · rw [if_pos hm, if_pos hm, List.take_succ_eq_append_getElem hi, List.idxOf_append, if_pos (hasB_mem.1 hm)]
    · rw [if_neg hm, if_neg hm]

theorem mem_ofL {p ins : List Int} (hp : p.Nodup) (hi : ∀ x ∈ ins, x ∈ p) {t : Nat} (ht : t < p.length) : (t : Int) ∈ ofL p ins ↔ nth p t ∈ ins := by
  unfold ofL
  simp only [List.mem_map]
  constructor
  · rintro ⟨x, hx, he⟩
    have h1 : p.idxOf x = t := by omega
    have := List.getElem_idxOf (List.idxOf_lt_length_of_mem (hi x hx))
    rw [nth_lt ht]
    simp only [h1] at this
    rw [this]; exact hx
  · intro h
    refine ⟨_, h, ?_⟩
    rw [nth_lt ht, hp.idxOf_getElem]

theorem ofL_nodup {p ins : List Int} (hin : ins.Nodup) (hi : ∀ x ∈ ins, x ∈ p) : (ofL p ins).Nodup := by
  unfold ofL
  refine List.pairwise_map.2 (hin.imp_of_mem fun {a b} ha hb hne e => hne (idx_inj (hi a ha) (hi b hb) (by omega)))

theorem ofL_idx {p ins : List Int} (hin : ins.Nodup) (hi : ∀ x ∈ ins, x ∈ p) {x : Int} (hx : x ∈ ins) : (ofL p ins).idxOf (p.idxOf x : Int) = ins.idxOf x := by
  have hl := List.idxOf_lt_length_of_mem hx
  have h1 : (ofL p ins)[ins.idxOf x]'(by unfold ofL; rw [List.length_map]; exact hl) = (p.idxOf x : Int) := by
    unfold ofL
    rw [List.getElem_map, List.getElem_idxOf hl]
  rw [← h1]
  exact (ofL_nodup hin hi).idxOf_getElem _ _

theorem nth_map {l : List Int} {g : Int → Int} {i : Nat} (h : i < l.length) : nth (l.map g) i = g (nth l i) := by
  rw [nth_lt (by simpa using h), nth_lt h, List.getElem_map]

/-- the lot in its own order -/
theorem puts_of {p ins π : List Int} {n : Int} (hp : p.Nodup) (hi : ∀ x ∈ ins, x ∈ p) (hin : ins.Nodup) : putsL n (ofL p ins) π p = moveL ins π n p := by
  refine ext_nth (by rw [putsL_len]; simp [moveL]) fun t ht => ?_
  rw [putsL_len] at ht
  rw [putsL_nth ht, nth_move ht]
  unfold mvI
  by_cases h : nth p t ∈ ins
  · rw [if_pos (hasB_mem.2 ((mem_ofL hp hi ht).2 h)), if_pos (hasB_mem.2 h)]
    have hx : p.idxOf (nth p t) = t := by rw [nth_lt ht, hp.idxOf_getElem]
    have := ofL_idx hin hi h
    rw [hx] at this
    rw [this]
  · rw [if_neg (fun e => h ((mem_ofL hp hi ht).1 (hasB_mem.1 e))), if_neg (fun e => h (hasB_mem.1 e))]

def sigL (p ins s : List Int) : List Int := ins.map fun x => (s.idxOf (p.idxOf x : Int) : Int)

def compL (σ π : List Int) : List Int := σ.map fun j => nth π j.toNat

theorem sig_perm {p ins s : List Int} (hin : ins.Nodup) (hi : ∀ x ∈ ins, x ∈ p) (hs : s.Perm (ofL p ins)) : permB (sigL p ins s) (ins.length : Int) = true := by
  have hsl : s.length = ins.length := by rw [hs.length_eq]; simp [ofL]
  have hms : ∀ x ∈ ins, (p.idxOf x : Int) ∈ s := fun x hx => hs.mem_iff.2 (List.mem_map.2 ⟨x, hx, rfl⟩)
  unfold permB inB diffB sigL
  simp only [Bool.and_eq_true, decide_eq_true_eq, List.all_eq_true, List.mem_map, List.length_map, true_and]
  refine ⟨?_, ?_⟩
  · rintro y ⟨x, hx, rfl⟩
    have := List.idxOf_lt_length_of_mem (hms x hx)
    omega
  · refine List.pairwise_map.2 (hin.imp_of_mem fun {a b} ha hb hne e => hne ?_)
    have h1 := idx_inj (hms a ha) (hms b hb) (by omega)
    exact idx_inj (hi a ha) (hi b hb) (by omega)

theorem puts_move {p ins s π : List Int} {n : Int} (hp : p.Nodup) (hi : ∀ x ∈ ins, x ∈ p) (hin : ins.Nodup) (hs : s.Perm (ofL p ins)) :
    putsL n s π p = moveL ins (compL (sigL p ins s) π) n p := by
  refine ext_nth (by rw [putsL_len]; simp [moveL]) fun t ht => ?_
  rw [putsL_len] at ht
  rw [putsL_nth ht, nth_move ht]
  unfold mvI
  have hiff : hasB s (t : Int) = true ↔ nth p t ∈ ins := by rw [hasB_mem, hs.mem_iff, mem_ofL hp hi ht]
  by_cases h : nth p t ∈ ins
  · rw [if_pos (hiff.2 h), if_pos (hasB_mem.2 h)]
    have hl := List.idxOf_lt_length_of_mem h
    have hx : p.idxOf (nth p t) = t := by rw [nth_lt ht, hp.idxOf_getElem]
    unfold compL sigL
    rw [nth_map (by simpa using hl), nth_map hl]
    have h2 : nth ins (ins.idxOf (nth p t)) = nth p t := by rw [nth_lt hl, List.getElem_idxOf]
    rw [h2, hx]
    simp
  · rw [if_neg (fun e => h (hiff.1 e)), if_neg (fun e => h (hasB_mem.1 e))]

theorem comp_perm {σ π : List Int} {m : Nat} (hσ : permB σ (m : Int) = true) (hπ : permB π (m : Int) = true) : permB (compL σ π) (m : Int) = true := by
  obtain ⟨a1, a2, a3⟩ := permB_parts hσ
  obtain ⟨b1, b2, b3⟩ := permB_parts hπ
  unfold permB inB diffB compL
  simp only [Bool.and_eq_true, decide_eq_true_eq, List.all_eq_true, List.mem_map, List.length_map]
  refine ⟨?_, by omega, ?_⟩
  · rintro y ⟨x, hx, rfl⟩
    have := a1 x hx
    exact b1 _ (nth_mem' (by omega))
  · refine List.pairwise_map.2 (a3.imp_of_mem fun {a b} ha hb hne e => hne ?_)
    have h1 := a1 a ha
    have h2 := a1 b hb
    have := nth_injC b3 (by omega) (by omega) e
    omega

theorem comp_onto {σ ρ : List Int} {m : Nat} (hσ : permB σ (m : Int) = true) (hρ : permB ρ (m : Int) = true) : ∃ π, permB π (m : Int) = true ∧ compL σ π = ρ := by
  obtain ⟨a1, a2, a3⟩ := permB_parts hσ
  obtain ⟨b1, b2, b3⟩ := permB_parts hρ
  have hmem : ∀ j, j < m → σ.idxOf (j : Int) < m := fun j hj => by rw [← a2]; exact List.idxOf_lt_length_of_mem (full_of hσ hj)
  refine ⟨(List.range m).map fun (j : Nat) => nth ρ (σ.idxOf (j : Int)), ?_, ?_⟩
  · unfold permB inB diffB
    simp only [Bool.and_eq_true, decide_eq_true_eq, List.all_eq_true, List.mem_map, List.mem_range, List.length_map, List.length_range, true_and]
    refine ⟨?_, ?_⟩
    · rintro y ⟨j, hj, rfl⟩
      have := hmem j hj
      exact b1 _ (nth_mem' (by omega))
    · refine List.pairwise_map.2 (List.nodup_range.imp_of_mem fun {a b} ha hb hne e => hne ?_)
      have ha' := List.mem_range.1 ha
      have hb' := List.mem_range.1 hb
      have h1 := nth_injC b3 (by have := hmem a ha'; omega) (by have := hmem b hb'; omega) e
      have := idx_inj (full_of hσ ha') (full_of hσ hb') h1
      omega
  · refine ext_nth (by unfold compL; rw [List.length_map]; omega) fun t ht => ?_
    unfold compL at ht ⊢
    rw [List.length_map] at ht
    rw [nth_map ht]
    have h1 := a1 _ (nth_mem' ht)
    rw [nth_lt (by simp; omega), List.getElem_map, List.getElem_range]
    have h2 : (((nth σ t).toNat : Nat) : Int) = nth σ t := Int.toNat_of_nonneg h1.1
    rw [h2]
    congr 1
    rw [nth_lt ht, a3.idxOf_getElem]

/-- numbers from n on turned by a permutation -/
def renI (n : Int) (π : List Int) (x : Int) : Int := if x < n then x else n + nth π (x - n).toNat

theorem ren_move {ins σ π p : List Int} {n : Int} (hσ : permB σ (ins.length : Int) = true) (hp : ∀ x ∈ p, x < n) : (moveL ins σ n p).map (renI n π) = moveL ins (compL σ π) n p := by
  obtain ⟨a1, a2, a3⟩ := permB_parts hσ
  unfold moveL
  rw [List.map_map]
  refine List.map_congr_left fun x hx => ?_
  show renI n π (mvI ins σ n x) = mvI ins (compL σ π) n x
  by_cases h : x ∈ ins
  · have hl := List.idxOf_lt_length_of_mem h
    unfold mvI
    rw [if_pos (hasB_mem.2 h), if_pos (hasB_mem.2 h)]
    have h1 := a1 _ (nth_mem' (l := σ) (i := ins.idxOf x) (by omega))
    unfold renI compL
    rw [if_neg (by omega), nth_map (by omega)]
    congr 2; omega
  · rw [mv_out h, mv_out h]
    unfold renI
    rw [if_pos (hp x hx)]

variable {f : Flow} {k : Nat}

theorem ins_in {p : List Int} (hl : lotB f k = true) (h : AllAt f k p) : p.Nodup ∧ (∀ x ∈ (lotAt f.lots k).ins, x ∈ p) ∧ (lotAt f.lots k).ins.Nodup ∧ ∀ x ∈ p, x < beforeI f k := by
  obtain ⟨h1, h2, h3, h4, h5⟩ := lotB_parts hl
  exact ⟨h.1, fun x hx => (h.2 x).2 (h3 x hx), h2, fun x hx => ((h.2 x).1 hx).2.1⟩

/-- a known lot, in its own order -/
theorem outs_known {p : List Int} (hl : lotB f k = true) (h : AllAt f k p) (x : List Int) : x ∈ outsL f k p ↔ ∃ π ∈ permsOf (lotAt f.lots k), x = putsL (beforeI f k) (ofL p (lotAt f.lots k).ins) π p := by
  obtain ⟨h1, h2, h3, h4⟩ := ins_in hl h
  unfold outsL
  simp only [List.mem_map, puts_of h1 h2 h3]
  constructor
  · rintro ⟨π, hπ, rfl⟩; exact ⟨π, hπ, rfl⟩
  · rintro ⟨π, hπ, rfl⟩; exact ⟨π, hπ, rfl⟩

/-- an unknown lot, in any order -/
theorem outs_unknown {p s : List Int} (hl : lotB f k = true) (h : AllAt f k p) (hu : (lotAt f.lots k).known = false) (hs : s.Perm (ofL p (lotAt f.lots k).ins)) (x : List Int) :
    x ∈ outsL f k p ↔ ∃ π ∈ permsOf (lotAt f.lots k), x = putsL (beforeI f k) s π p := by
  obtain ⟨h1, h2, h3, h4⟩ := ins_in hl h
  have hsg := sig_perm h3 h2 hs
  have hpo : ∀ π, π ∈ permsOf (lotAt f.lots k) ↔ permB π ((lotAt f.lots k).ins.length : Int) = true := fun π => by unfold permsOf; rw [hu]; exact mem_permsL
  unfold outsL
  simp only [List.mem_map, puts_move h1 h2 h3 hs, hpo]
  constructor
  · rintro ⟨ρ, hρ, rfl⟩
    obtain ⟨π, hπ, he⟩ := comp_onto hsg hρ
    exact ⟨π, hπ, by rw [he]⟩
  · rintro ⟨π, hπ, rfl⟩
    exact ⟨_, comp_perm hsg hπ, rfl⟩

theorem comp_id {σ : List Int} {m : Nat} (hσ : permB σ (m : Int) = true) : compL σ (idL m) = σ := by
  obtain ⟨a1, a2, a3⟩ := permB_parts hσ
  unfold compL
  conv => rhs; rw [← List.map_id σ]
  refine List.map_congr_left fun x hx => ?_
  have := a1 x hx
  unfold idL
  rw [nth_lt (by simp; omega), List.getElem_map, List.getElem_range]
  show ((x.toNat : Nat) : Int) = x
  omega

/-- states with the same senders in the lot lead to the same states -/
theorem outs_same {p p' s s' : List Int} (hl : lotB f k = true) (h : AllAt f k p) (h' : AllAt f k p') (hu : (lotAt f.lots k).known = false) (hs : s.Perm (ofL p (lotAt f.lots k).ins)) (hs' : s'.Perm (ofL p' (lotAt f.lots k).ins))
    (he : putsL (beforeI f k) s (idL (lotAt f.lots k).ins.length) p = putsL (beforeI f k) s' (idL (lotAt f.lots k).ins.length) p') (x : List Int) : x ∈ outsL f k p ↔ x ∈ outsL f k p' := by
  have key : ∀ {p s : List Int}, AllAt f k p → s.Perm (ofL p (lotAt f.lots k).ins) → (x ∈ outsL f k p ↔ ∃ π ∈ permsOf (lotAt f.lots k), x = (putsL (beforeI f k) s (idL (lotAt f.lots k).ins.length) p).map (renI (beforeI f k) π)) := by
    intro p s h hs
    obtain ⟨h1, h2, h3, h4⟩ := ins_in hl h
    have hsg := sig_perm h3 h2 hs
    rw [outs_unknown hl h hu hs, puts_move h1 h2 h3 hs, comp_id hsg]
    simp only [ren_move hsg h4, puts_move h1 h2 h3 hs]
  rw [key h hs, key h' hs', he]

end Go.Proofs.Ythekefnocphcdaa

set_option linter.unusedVariables false

set_option linter.unusedSimpArgs false

namespace Go.Proofs.Ythekefnocphcdaa

open Go.RowKit

def updV (xs : Nat → Value) (i : Nat) (v : Value) : Nat → Value := fun j => if j = i then v else xs j

theorem updV_self (xs : Nat → Value) (i : Nat) (v : Value) : updV xs i v i = v := by unfold updV; rw [if_pos rfl]

theorem updV_ne {xs : Nat → Value} {i j : Nat} {v : Value} (h : j ≠ i) : updV xs i v j = xs j := by unfold updV; rw [if_neg h]

/-- the slots base .. base+n-1 hold xs, the others what a0 holds -/
structure FrameOf (a0 : Act) (base n : Nat) (xs : Nat → Value) (a : Act) : Prop where
  defers : a.defers = a0.defers
  size : a.tmps.size = a0.tmps.size
  slot : ∀ k, k < n → a.tmps.getD (base + k) undef = xs k
  out : ∀ t, (t < base ∨ base + n ≤ t) → a.tmps.getD t undef = a0.tmps.getD t undef

theorem FrameOf.start (a0 : Act) (base n : Nat) : FrameOf a0 base n (fun k => a0.tmps.getD (base + k) undef) a0 := ⟨rfl, rfl, fun _ _ => rfl, fun _ _ => rfl⟩

theorem getD_setIf {l : Array Value} {d t : Nat} {v : Value} (hd : d < l.size) : (l.setIfInBounds d v).getD t undef = if t = d then v else l.getD t undef := by
  rw [Array.getD_eq_getD_getElem?, Array.getD_eq_getD_getElem?]
  by_cases h : t = d
  · subst h
    rw [if_pos rfl]
    simp [hd]
  · rw [if_neg h, Array.getElem?_setIfInBounds_ne (fun e => h e.symm)]

theorem FrameOf.put {a0 a : Act} {base n : Nat} {xs : Nat → Value} (h : FrameOf a0 base n xs a) {i d : Nat} (v : Value) (hi : i < n) (hd : d = base + i) (hs : base + n ≤ a0.tmps.size) : FrameOf a0 base n (updV xs i v) (a.put (some d) v) := by
  subst hd
  have hsz : base + i < a.tmps.size := by rw [h.size]; omega
  refine ⟨h.defers, ?_, fun k hk => ?_, fun t ht => ?_⟩
  · show (a.tmps.setIfInBounds (base + i) v).size = _
    rw [Array.size_setIfInBounds, h.size]
  · show (a.tmps.setIfInBounds (base + i) v).getD (base + k) undef = _
    rw [getD_setIf hsz]
    unfold updV
    by_cases e : k = i
    · subst e; rw [if_pos rfl, if_pos rfl]
    · rw [if_neg (by omega), if_neg e, h.slot k hk]
  · show (a.tmps.setIfInBounds (base + i) v).getD t undef = _
    rw [getD_setIf hsz, if_neg (by omega), h.out t ht]

theorem FrameOf.ev {a0 a : Act} {base n : Nat} {xs : Nat → Value} (h : FrameOf a0 base n xs a) {k d : Nat} (hk : k < n) (hd : d = base + k) : a.eval (.tmp d) = xs k := by
  subst hd; exact h.slot k hk

theorem FrameOf.lo {a0 a : Act} {base n : Nat} {xs : Nat → Value} (h : FrameOf a0 base n xs a) {t : Nat} (ht : t < base) : a.eval (.tmp t) = a0.eval (.tmp t) := h.out t (.inl ht)

/-- two frames are one if all their slots are -/
theorem act_ext {a b : Act} (hd : a.defers = b.defers) (hs : a.tmps.size = b.tmps.size) (h : ∀ t, t < b.tmps.size → a.tmps.getD t undef = b.tmps.getD t undef) : a = b := by
  obtain ⟨x, y⟩ := a
  obtain ⟨x', y'⟩ := b
  simp only at hd hs h
  subst hd
  congr 1
  apply Array.ext hs
  intro i h1 h2
  have := h i h2
  rw [Array.getD_eq_getD_getElem?, Array.getD_eq_getD_getElem?, Array.getElem?_eq_getElem h1, Array.getElem?_eq_getElem h2] at this
  exact this

end Go.Proofs.Ythekefnocphcdaa

set_option linter.unusedVariables false

set_option linter.unusedSimpArgs false

namespace Go.Proofs.Ythekefnocphcdaa

open Go.RowKit

def dsInj : List (Option Nat) → Bool
  | [] => true
  | none :: r => dsInj r
  | some d :: r => !(r.contains (some d)) && dsInj r

def dsBd (n : Nat) : List (Option Nat) → Bool
  | [] => true
  | none :: r => dsBd n r
  | some d :: r => decide (d < n) && dsBd n r

theorem dsInj_at : ∀ {ds : List (Option Nat)}, dsInj ds = true → ∀ {i j d : Nat}, ds[i]? = some (some d) → ds[j]? = some (some d) → i = j
  | [], _, i, j, d, h, _ => by simp at h
  | none :: r, hi, 0, j, d, h, _ => by simp at h
  | none :: r, hi, i + 1, 0, d, _, h => by simp at h
  | none :: r, hi, i + 1, j + 1, d, h1, h2 => by
    have := dsInj_at (ds := r) hi (i := i) (j := j) (d := d) (by simpa using h1) (by simpa using h2)
    omega
  | some e :: r, hi, 0, 0, d, _, _ => rfl
  | some e :: r, hi, 0, j + 1, d, h1, h2 => by
    simp only [dsInj, Bool.and_eq_true, Bool.not_eq_true', List.contains_eq_mem, decide_eq_false_iff_not] at hi
    have e1 : e = d := by simpa using h1
    subst e1
    exact absurd (List.mem_of_getElem? (by simpa using h2)) hi.1
  | some e :: r, hi, i + 1, 0, d, h1, h2 => by
    simp only [dsInj, Bool.and_eq_true, Bool.not_eq_true', List.contains_eq_mem, decide_eq_false_iff_not] at hi
    have e1 : e = d := by simpa using h2
    subst e1
    exact absurd (List.mem_of_getElem? (by simpa using h1)) hi.1
  | some e :: r, hi, i + 1, j + 1, d, h1, h2 => by
    simp only [dsInj, Bool.and_eq_true] at hi
    have := dsInj_at (ds := r) hi.2 (i := i) (j := j) (d := d) (by simpa using h1) (by simpa using h2)
    omega

theorem dsBd_at : ∀ {ds : List (Option Nat)} {n : Nat}, dsBd n ds = true → ∀ {i d : Nat}, ds[i]? = some (some d) → d < n
  | [], n, _, i, d, h => by simp at h
  | none :: r, n, hi, 0, d, h => by simp at h
  | none :: r, n, hi, i + 1, d, h => dsBd_at (ds := r) hi (by simpa using h)
  | some e :: r, n, hi, 0, d, h => by
    simp only [dsBd, Bool.and_eq_true, decide_eq_true_eq] at hi
    have e1 : e = d := by simpa using h
    subst e1
    exact hi.1
  | some e :: r, n, hi, i + 1, d, h => by
    simp only [dsBd, Bool.and_eq_true] at hi
    exact dsBd_at (ds := r) hi.2 (by simpa using h)

/-- the frame a0 in which the done operations have put xs into their slots -/
structure FrameV (a0 : Act) (ds : List (Option Nat)) (L : Nat → Bool) (xs : Nat → Value) (a : Act) : Prop where
  defers : a.defers = a0.defers
  size : a.tmps.size = a0.tmps.size
  slot : ∀ i d, ds[i]? = some (some d) → L i = true → a.tmps.getD d undef = xs i
  out : ∀ t, ds.contains (some t) = false → a.tmps.getD t undef = a0.tmps.getD t undef
  rest : ∀ i d, ds[i]? = some (some d) → L i = false → a.tmps.getD d undef = a0.tmps.getD d undef

theorem FrameV.start (a0 : Act) (ds : List (Option Nat)) (xs : Nat → Value) : FrameV a0 ds (fun _ => false) xs a0 := ⟨rfl, rfl, (fun _ _ _ h => by cases h), (fun _ _ => rfl), (fun _ _ _ _ => rfl)⟩

theorem FrameV.put {a0 a : Act} {ds : List (Option Nat)} {L : Nat → Bool} {xs : Nat → Value} (h : FrameV a0 ds L xs a) (hi : dsInj ds = true) (hn : dsBd a0.tmps.size ds = true) {i : Nat} {o : Option Nat} (hd : ds[i]? = some o) (v : Value) : FrameV a0 ds (upd L i) (updV xs i v) (a.put o v) := by
  cases o with
  | none =>
    refine ⟨h.defers, h.size, fun j d hj hL => ?_, h.out, fun j d hj hL => ?_⟩
    · have hne : j ≠ i := fun e => by subst e; rw [hd] at hj; cases hj
      rw [updV_ne hne]
      refine h.slot j d hj ?_
      unfold upd at hL
      simpa [hne] using hL
    · refine h.rest j d hj ?_
      unfold upd at hL
      simp at hL
      exact hL.2
  | some d =>
    have hlt : d < a.tmps.size := by rw [h.size]; exact dsBd_at hn hd
    refine ⟨h.defers, ?_, fun j e hj hL => ?_, fun t ht => ?_, fun j e hj hL => ?_⟩
    · show (a.tmps.setIfInBounds d v).size = _
      rw [Array.size_setIfInBounds, h.size]
    · show (a.tmps.setIfInBounds d v).getD e undef = _
      rw [getD_setIf hlt]
      by_cases hne : j = i
      · subst hne
        rw [hd] at hj
        obtain rfl : d = e := by injection hj with hj; injection hj
        rw [if_pos rfl, updV_self]
      · rw [if_neg (fun e1 => hne (dsInj_at hi hj (by rw [e1]; exact hd))), updV_ne hne]
        refine h.slot j e hj ?_
        unfold upd at hL
        simpa [hne] using hL
    · show (a.tmps.setIfInBounds d v).getD t undef = _
      rw [getD_setIf hlt, if_neg, h.out t ht]
      rintro rfl
      have := List.mem_of_getElem? hd
      simp only [List.contains_eq_mem, decide_eq_false_iff_not] at ht
      exact ht this
    · show (a.tmps.setIfInBounds d v).getD e undef = _
      unfold upd at hL
      simp at hL
      rw [getD_setIf hlt, if_neg (fun e1 => hL.1 (dsInj_at hi hj (by rw [e1]; exact hd)))]
      exact h.rest j e hj hL.2

/-- the value of a done operation's slot -/
theorem FrameV.ev {a0 a : Act} {ds : List (Option Nat)} {L : Nat → Bool} {xs : Nat → Value} (h : FrameV a0 ds L xs a) (i : Nat) {d : Nat} (hd : ds[i]? = some (some d)) (hL : L i = true) : a.eval (.tmp d) = xs i := h.slot i d hd hL

/-- a slot that is none of the region's -/
theorem FrameV.lo {a0 a : Act} {ds : List (Option Nat)} {L : Nat → Bool} {xs : Nat → Value} (h : FrameV a0 ds L xs a) (t : Nat) (ht : ds.contains (some t) = false) : a.eval (.tmp t) = a0.eval (.tmp t) := h.out t ht

def putGo (xs : Nat → Value) : Nat → List (Option Nat) → Act → Act
  | _, [], a => a
  | k, d :: r, a => putGo xs (k + 1) r (a.put d (xs k))

theorem put_size (a : Act) (o : Option Nat) (v : Value) : (a.put o v).tmps.size = a.tmps.size := by
  cases o with
  | none => rfl
  | some d => show (a.tmps.setIfInBounds d v).size = _; rw [Array.size_setIfInBounds]

theorem put_defers (a : Act) (o : Option Nat) (v : Value) : (a.put o v).defers = a.defers := by cases o <;> rfl

theorem putGo_size (xs : Nat → Value) : ∀ (ds : List (Option Nat)) (k : Nat) (a : Act), (putGo xs k ds a).tmps.size = a.tmps.size ∧ (putGo xs k ds a).defers = a.defers
  | [], k, a => ⟨rfl, rfl⟩
  | d :: r, k, a => by
    obtain ⟨h1, h2⟩ := putGo_size xs r (k + 1) (a.put d (xs k))
    exact ⟨h1.trans (put_size _ _ _), h2.trans (put_defers _ _ _)⟩

theorem putGo_at (xs : Nat → Value) : ∀ (ds : List (Option Nat)) (k : Nat) (a : Act), dsInj ds = true → dsBd a.tmps.size ds = true → ∀ t,
    (∀ i, ds[i]? = some (some t) → (putGo xs k ds a).tmps.getD t undef = xs (k + i)) ∧ (ds.contains (some t) = false → (putGo xs k ds a).tmps.getD t undef = a.tmps.getD t undef)
  | [], k, a, _, _, t => ⟨fun i h => by simp at h, fun _ => rfl⟩
  | none :: r, k, a, hi, hn, t => by
    obtain ⟨h1, h2⟩ := putGo_at xs r (k + 1) (a.put none (xs k)) hi hn t
    refine ⟨fun i h => ?_, fun h => ?_⟩
    · match i, h with
      | 0, h => simp at h
      | i + 1, h => rw [show k + (i + 1) = k + 1 + i by omega]; exact h1 i (by simpa using h)
    · exact h2 (by simpa using h)
  | some d :: r, k, a, hi, hn, t => by
    simp only [dsInj, Bool.and_eq_true, Bool.not_eq_true'] at hi
    have hd : d < a.tmps.size := by simp only [dsBd, Bool.and_eq_true, decide_eq_true_eq] at hn; exact hn.1
    have hn2 : dsBd (a.put (some d) (xs k)).tmps.size r = true := by rw [put_size]; simp only [dsBd, Bool.and_eq_true] at hn; exact hn.2
    obtain ⟨h1, h2⟩ := putGo_at xs r (k + 1) (a.put (some d) (xs k)) hi.2 hn2 t
    refine ⟨fun i h => ?_, fun h => ?_⟩
    · match i, h with
      | 0, h =>
        obtain rfl : d = t := by simpa using h
        show (putGo xs (k + 1) r (a.put (some d) (xs k))).tmps.getD d undef = xs k
        rw [h2 hi.1]
        show (a.tmps.setIfInBounds d (xs k)).getD d undef = _
        rw [getD_setIf hd, if_pos rfl]
      | i + 1, h => rw [show k + (i + 1) = k + 1 + i by omega]; exact h1 i (by simpa using h)
    · have h' : t ≠ d ∧ r.contains (some t) = false := by simpa using h
      show (putGo xs (k + 1) r (a.put (some d) (xs k))).tmps.getD t undef = _
      rw [h2 h'.2]
      show (a.tmps.setIfInBounds d (xs k)).getD t undef = _
      rw [getD_setIf hd, if_neg h'.1]

theorem FrameV.final {a0 a : Act} {ds : List (Option Nat)} {L : Nat → Bool} {xs : Nat → Value} (h : FrameV a0 ds L xs a) (hi : dsInj ds = true) (hn : dsBd a0.tmps.size ds = true) (hL : ∀ i, i < ds.length → L i = true) : a = putGo xs 0 ds a0 := by
  obtain ⟨s1, s2⟩ := putGo_size xs ds 0 a0
  refine act_ext (h.defers.trans s2.symm) (h.size.trans s1.symm) fun t _ => ?_
  obtain ⟨p1, p2⟩ := putGo_at xs ds 0 a0 hi hn t
  by_cases hc : ds.contains (some t) = true
  · obtain ⟨i, hi'⟩ := List.getElem?_of_mem (by simpa using hc)
    rw [p1 i hi', h.slot i t hi' (hL i (List.getElem?_eq_some_iff.1 hi').1), Nat.zero_add]
  · have hc' : ds.contains (some t) = false := by simpa using hc
    rw [p2 hc', h.out t hc']

section

variable {P : Program} {ops : Array Oper} {Q : Exit → Act → World → Prop}

def VStep (P : Program) (ops : Array Oper) (Q : Exit → Act → World → Prop) (ds : List (Option Nat)) (a0 : Act) (J : (Nat → Bool) → World → (Nat → Value) → Prop) (i : Nat) (o : Oper) : Prop :=
  ∀ (L : Nat → Bool) (a' : Act) (w' : World) (xs : Nat → Value), L i = false → allOn L (depsOf o) → FrameV a0 ds L xs a' → J L w' xs →
    ∀ K : Act → World → Prop, Shut (∀ v w'', J (upd L i) w'' (updV xs i v) → K (a'.put o.dst v) w'') → if Region.wanted o (yielded ops a'.tmps) = true then Oper.wp P o a' w' K Q else K (a'.put o.dst undef) w'

def VSteps (P : Program) (ops : Array Oper) (Q : Exit → Act → World → Prop) (ds : List (Option Nat)) (a0 : Act) (J : (Nat → Bool) → World → (Nat → Value) → Prop) : Nat → List Oper → Prop
  | _, [] => True
  | k, o :: r => VStep P ops Q ds a0 J k o ∧ VSteps P ops Q ds a0 J (k + 1) r

theorem VSteps.inv {ds : List (Option Nat)} {a0 : Act} {J : (Nat → Bool) → World → (Nat → Value) → Prop} (hi : dsInj ds = true) (hn : dsBd a0.tmps.size ds = true) : ∀ {l : List Oper} {k : Nat}, (∀ i o, l[i]? = some o → ds[k + i]? = some o.dst) → VSteps P ops Q ds a0 J k l →
    InvSteps P ops Q (fun L a' w' => ∃ xs, FrameV a0 ds L xs a' ∧ J L w' xs) k l
  | [], _, _, _ => trivial
  | o :: r, k, hd, h => by
    refine ⟨?_, VSteps.inv hi hn (fun i o' ho => ?_) h.2⟩
    · intro L a' w' hL hdep hI K hK
      obtain ⟨xs, hf, hJ⟩ := hI
      exact h.1 L a' w' xs hL hdep hf hJ K (show ∀ v w'', J (upd L k) w'' (updV xs k v) → K (a'.put o.dst v) w'' from fun v w'' hJ' => hK.out _ _ ⟨_, hf.put hi hn (by simpa using hd 0 o rfl) v, hJ'⟩)
    · have := hd (i + 1) o' (by simpa using ho)
      rw [show k + 1 + i = k + (i + 1) by omega]
      exact this

/-- a region whose order is drawn, by what its slots hold -/
theorem wp_region_V {id : Nat} {l : List Oper} {a : Act} {w : World} (ds : List (Option Nat)) (J : (Nat → Bool) → World → (Nat → Value) → Prop) (hm : P.follows .mixedOrders = true) (hb : backB 0 l = true) (hds : l.map (·.dst) = ds) (hi : dsInj ds = true) (hn : dsBd a.tmps.size ds = true)
    (h0 : ∀ xs, J (fun _ => false) w.drew xs) (hs : VSteps P l.toArray Q ds a J 0 l) (he : ∀ (L : Nat → Bool) w' xs, (∀ i, i < ds.length → L i = true) → J L w' xs → Q .normal (putGo xs 0 ds a) w') : (Code.region id l.toArray true).wp P Q a w := by
  have hlen : ds.length = l.length := by rw [← hds]; simp
  refine wp_region_inv (fun a0 L a' w' => ∃ xs, FrameV a0 ds L xs a' ∧ J L w' xs) hm hb ⟨fun _ => undef, FrameV.start _ _ _, h0 _⟩ (VSteps.inv hi hn (fun i o ho => ?_) hs) ?_
  · rw [← hds, Nat.zero_add, List.getElem?_map, ho]; rfl
  · rintro L a' w' hL ⟨xs, hf, hJ⟩
    rw [hf.final hi hn (fun i h => hL i (by omega))]
    exact he L w' xs (fun i h => hL i (by omega)) hJ

end

/-- values that are known ahead -/
def ValsAt (V : List (Option Value)) (L : Nat → Bool) (xs : Nat → Value) : Prop := ∀ j v, V[j]? = some (some v) → L j = true → xs j = v

theorem ValsAt.none (V : List (Option Value)) (xs : Nat → Value) : ValsAt V (fun _ => false) xs := fun _ _ _ h => by cases h

theorem ValsAt.set {V : List (Option Value)} {L : Nat → Bool} {xs : Nat → Value} (h : ValsAt V L xs) {i : Nat} {v : Value} (hv : V[i]? = some (some v)) : ValsAt V (upd L i) (updV xs i v) := fun j u hj hL => by
  by_cases e : j = i
  · subst e
    rw [hj] at hv
    rw [updV_self]
    exact (Option.some.inj (Option.some.inj hv)).symm
  · rw [updV_ne e]
    refine h j u hj ?_
    unfold upd at hL
    simpa [e] using hL

theorem ValsAt.free {V : List (Option Value)} {L : Nat → Bool} {xs : Nat → Value} (h : ValsAt V L xs) {i : Nat} (hv : V[i]? = some Option.none) (v : Value) : ValsAt V (upd L i) (updV xs i v) := fun j u hj hL => by
  by_cases e : j = i
  · subst e
    rw [hj] at hv
    cases hv
  · rw [updV_ne e]
    refine h j u hj ?_
    unfold upd at hL
    simpa [e] using hL

theorem upd_self (L : Nat → Bool) (i : Nat) : upd L i i = true := by unfold upd; simp

theorem upd_ne {L : Nat → Bool} {i j : Nat} (h : j ≠ i) : upd L i j = L j := by unfold upd; simp [h]

end Go.Proofs.Ythekefnocphcdaa

set_option linter.unusedVariables false

set_option linter.unusedSimpArgs false

namespace Go.Proofs.Ythekefnocphcdaa

open Go.RowKit

theorem ltL_drop {a b : List Int} {k : Nat} (h1 : k < a.length) (h2 : k < b.length) : ltL (a.drop k) (b.drop k) = if nth a k = nth b k then ltL (a.drop (k + 1)) (b.drop (k + 1)) else decide (nth a k < nth b k) := by
  rw [List.drop_eq_getElem_cons h1, List.drop_eq_getElem_cons h2, nth_lt h1, nth_lt h2]
  rfl

theorem ltL_dropped {a b : List Int} {k : Nat} (h : a.length ≤ k ∨ b.length ≤ k) : ltL (a.drop k) (b.drop k) = false := by
  rcases h with h | h
  · rw [List.drop_of_length_le h]; rfl
  · rw [List.drop_of_length_le h]
    cases a.drop k <;> rfl

set_option maxHeartbeats 2000000 in
/-- frankingref27.Less -/
theorem rless27_any (B B' : Nat) (w : World) (v v' : Value) (xs ys : List Int) (hv : IsInts B w v xs) (hv' : IsInts B' w v' ys) :
    Calls Try.prog 28 #[v, v'] w fun e w' => e = .returned (.bool (ltL xs ys)) ∧ Drew w w' := by
  obtain ⟨b, off, cap, ⟨a, rfl, hcap, hmax, ha⟩, hlen, hz, hc⟩ := hv
  obtain ⟨b', off', cap', ⟨a', rfl, hcap', hmax', ha'⟩, hlen', hz', hc'⟩ := hv'
  have HC := Lib.hid hc
  have HC' := Lib.hid hc'
  have HA := Lib.hid ha
  have HA' := Lib.hid ha'
  clear hc hc' ha ha' hz hz'
  go_enter Try.func28, Try.ntmps28
  go_wp2
  go_loopw [5] (fun i wr => ∃ k : Nat, k ≤ xs.length ∧ k ≤ ys.length ∧ i = .int .i64 k ∧ ltL xs ys = ltL (xs.drop k) (ys.drop k) ∧ Drew w wr) (fun i _ => xs.length - (intOf i).toNat)
  case atStart => exact ⟨0, by omega, by omega, rfl, by simp, Drew.refl _⟩
  case round =>
    obtain ⟨k, hk, hk', rfl, he, hd⟩ := hrel
    have HE := Lib.hid he
    have HD := Lib.hid hd
    clear he hd
    by_cases h1 : k < xs.length
    · have h1' : decide ((k : Int) < xs.length) = true := decide_eq_true (by omega)
      obtain rfl : a = some ⟨b, off, none⟩ := by rcases HA.out with h | h; exact h; omega
      have c1 := (HD.out.cell _).trans (HC.out k h1).2
      by_cases h2 : k < ys.length
      · have h2' : decide ((k : Int) < ys.length) = true := decide_eq_true (by omega)
        obtain rfl : a' = some ⟨b', off', none⟩ := by rcases HA'.out with h | h; exact h; omega
        have c2 := (HD.out.cell _).trans (HC'.out k h2).2
        have HS := Lib.hid (ltL_drop h1 h2)
        go_wp2
        go_quiet (fail)
        by_cases hq : nth xs k = nth ys k
        · have HR : Hid (ltL xs ys = ltL (xs.drop (k + 1)) (ys.drop (k + 1))) := Lib.hid (by rw [HE.out, HS.out, if_pos hq])
          have hq' : (nth xs k != nth ys k) = false := by simpa using hq
          clear hq
          go_wp2
          go_roundw
          case rel => exact ⟨k + 1, by omega, by omega, by go_num, HR.out, HD.out.drewN _⟩
          case measure => simp [intOf]; omega
        · have HR : Hid (ltL xs ys = decide (nth xs k < nth ys k)) := Lib.hid (by rw [HE.out, HS.out, if_neg hq])
          have hq' : (nth xs k != nth ys k) = true := by simpa using hq
          clear hq
          have c3 := ((HD.out.drewN 1).cell _).trans (HC.out k h1).2
          go_wp2
          go_quiet (fail)
          go_wp2
          go_ret
          exact ⟨by rw [HR.out]; rfl, (HD.out.drewN _).drewN _⟩
      · have h2' : decide ((k : Int) < ys.length) = false := decide_eq_false (by omega)
        have HR : Hid (ltL xs ys = false) := Lib.hid (by rw [HE.out, ltL_dropped (.inr (by omega))])
        go_wp2
        go_ret
        exact ⟨by rw [HR.out]; rfl, HD.out⟩
    · have h1' : decide ((k : Int) < xs.length) = false := decide_eq_false (by omega)
      have HR : Hid (ltL xs ys = false) := Lib.hid (by rw [HE.out, ltL_dropped (.inl (by omega))])
      go_wp2
      go_ret
      exact ⟨by rw [HR.out]; rfl, HD.out⟩

/-- are the first k rows of two tables equal? -/
def sameMTo (a b : List (List Int)) : Nat → Bool
  | 0 => true
  | k + 1 => sameMTo a b k && sameB (rowAt a k) (rowAt b k)

def sameM (a b : List (List Int)) : Bool := decide (a = b)

theorem sameMTo_iff {a b : List (List Int)} : ∀ {k : Nat}, k ≤ a.length → k ≤ b.length → (sameMTo a b k = true ↔ a.take k = b.take k)
  | 0, _, _ => by simp [sameMTo]
  | k + 1, h1, h2 => by
    have e1 : rowAt a k = a[k] := by unfold rowAt; rw [List.getD_eq_getElem?_getD, List.getElem?_eq_getElem (by omega)]; rfl
    have e2 : rowAt b k = b[k] := by unfold rowAt; rw [List.getD_eq_getElem?_getD, List.getElem?_eq_getElem (by omega)]; rfl
    have ih := sameMTo_iff (a := a) (b := b) (k := k) (by omega) (by omega)
    simp only [sameMTo, Bool.and_eq_true, ih]
    rw [List.take_succ_eq_append_getElem (by omega), List.take_succ_eq_append_getElem (by omega), e1, e2]
    unfold sameB
    rw [decide_eq_true_eq]
    constructor
    · rintro ⟨h, h'⟩; rw [h, h']
    · intro h
      have := List.append_inj' h rfl
      exact ⟨this.1, by simpa using this.2⟩

theorem sameM_all {a b : List (List Int)} (hl : a.length = b.length) (h : sameMTo a b a.length = true) : sameM a b = true := by
  have := (sameMTo_iff (Nat.le_refl _) (by omega)).1 h
  rw [List.take_length, hl, List.take_length] at this
  exact decide_eq_true this

theorem sameM_not {a b : List (List Int)} {k : Nat} (h : sameB (rowAt a k) (rowAt b k) = false) : sameM a b = false := by
  refine decide_eq_false ?_
  rintro rfl
  unfold sameB at h
  simp at h

theorem sameM_len {a b : List (List Int)} (h : a.length ≠ b.length) : sameM a b = false := decide_eq_false fun e => h (by rw [e])

set_option maxHeartbeats 2000000 in
/-- frankingref27.Same -/
theorem sameM_any (B B' : Nat) (w : World) (v v' : Value) (xs ys : List (List Int)) (hv : IsMat B w v xs) (hv' : IsMat B' w v' ys) :
    Calls Try.prog 19 #[v, v'] w fun e w' => e = .returned (.bool (sameM xs ys)) ∧ Drew w w' := by
  obtain ⟨b, off, cap, ⟨a, rfl, hcap, hmax, ha⟩, hlen, hc⟩ := hv
  obtain ⟨b', off', cap', ⟨a', rfl, hcap', hmax', ha'⟩, hlen', hc'⟩ := hv'
  have HC := Lib.hid hc
  have HC' := Lib.hid hc'
  have HA := Lib.hid ha
  have HA' := Lib.hid ha'
  clear hc hc' ha ha'
  by_cases hl : xs.length = ys.length
  · have hne2 : ((xs.length : Int) != (ys.length : Int)) = false := by rw [hl]; simp
    have HL := Lib.hid hl
    clear hl
    go_enter Try.func19, Try.ntmps19
    go_wp2
    go_loopw [5] (fun i wr => ∃ k : Nat, k ≤ xs.length ∧ i = .int .i64 k ∧ sameMTo xs ys k = true ∧ Drew w wr) (fun i _ => xs.length - (intOf i).toNat)
    case atStart => exact ⟨0, by omega, rfl, rfl, Drew.refl _⟩
    case round =>
      obtain ⟨k, hk, rfl, he, hd⟩ := hrel
      have HE := Lib.hid he
      have HD := Lib.hid hd
      clear he hd
      by_cases h1 : k < xs.length
      · have h2 : k < ys.length := by rw [← HL.out]; exact h1
        obtain rfl : a = some ⟨b, off, none⟩ := by rcases HA.out with h | h; exact h; omega
        obtain rfl : a' = some ⟨b', off', none⟩ := by rcases HA'.out with h | h; exact h; omega
        obtain ⟨r1, q1, i1⟩ := HC.out k h1
        obtain ⟨r2, q2, i2⟩ := HC'.out k h2
        have c1 := (HD.out.cell _).trans q1.2
        have c2 := (HD.out.cell _).trans q2.2
        have HCC := Lib.hid (fun m => same_any _ (wr.drewN m) r1 r2 (rowAt xs k) (rowAt ys k) ((i1.drew (HD.out.drewN m)).mono (Nat.le_max_left B B')) ((i2.drew (HD.out.drewN m)).mono (Nat.le_max_right B B')))
        have HS : Hid (sameMTo xs ys (k + 1) = (sameMTo xs ys k && sameB (rowAt xs k) (rowAt ys k))) := Lib.hid rfl
        obtain ⟨a1, n1, k1, rfl⟩ : ∃ a n c, r1 = .slice a n c := by obtain ⟨_, _, c, ⟨a, e, _⟩, _⟩ := i1; exact ⟨a, _, c, e⟩
        obtain ⟨a2, n2, k2, rfl⟩ : ∃ a n c, r2 = .slice a n c := by obtain ⟨_, _, c, ⟨a, e, _⟩, _⟩ := i2; exact ⟨a, _, c, e⟩
        clear q1 q2 i1 i2
        go_wp2
        go_quiet ((go_at_call 32; exact Calls.quiet_of (HCC.out _)))
        cases hq : sameB (rowAt xs k) (rowAt ys k)
        · have HR := Lib.hid (sameM_not hq)
          clear hq
          go_wp2
          go_ret
          exact ⟨by rw [HR.out]; rfl, HD.out.drewN _⟩
        · have HR : Hid (sameMTo xs ys (k + 1) = true) := Lib.hid (by rw [HS.out, HE.out, hq]; rfl)
          clear hq
          go_wp2
          go_roundw
          case rel => exact ⟨k + 1, by omega, by go_num, HR.out, HD.out.drewN _⟩
          case measure => simp [intOf]; omega
      · have HR : Hid (sameM xs ys = true) := Lib.hid (sameM_all HL.out (by rw [show xs.length = k by omega]; exact HE.out))
        go_wp2
        go_ret
        exact ⟨by rw [HR.out]; rfl, HD.out⟩
  · have HR : Hid (sameM xs ys = false) := Lib.hid (sameM_len hl)
    have hne2 : ((xs.length : Int) != (ys.length : Int)) = true := by simp; omega
    clear hl
    go_enter Try.func19, Try.ntmps19
    go_wp2
    go_ret
    exact ⟨by rw [HR.out]; rfl, Drew.refl _⟩

theorem OwnInts.cellAt {C : Nat} {w : World} {g n cap : Nat} {xs : List Int} (h : OwnInts C w (.slice (some ⟨g, 0, none⟩) n cap) xs) (hn : n = xs.length) {j : Nat} (hj : j < xs.length) : w.cell? ⟨g, j, none⟩ = some (.int .i64 (nth xs j)) := by
  subst hn
  rw [h.1.cellAt j (by omega), List.getElem?_map, List.getElem?_eq_getElem hj, nth_eq_getElem hj]
  rfl

theorem OwnInts.freeAt {C : Nat} {w : World} {g n cap : Nat} {xs : List Int} (h : OwnInts C w (.slice (some ⟨g, 0, none⟩) n cap) xs) (hn : n = xs.length) (j : Nat) : w.frozen? ⟨g, j, none⟩ = false := by
  subst hn
  exact h.1.frozenAt j

theorem OwnInts.store {C : Nat} {w : World} {g n cap : Nat} {xs : List Int} (h : OwnInts C w (.slice (some ⟨g, 0, none⟩) n cap) xs) (hn : n = xs.length) (j : Nat) {y : Int} (hy : I64 y) :
    OwnInts C (w.setCell ⟨g, j, none⟩ (.int .i64 y)) (.slice (some ⟨g, 0, none⟩) n cap) (xs.set j y) := by
  subst hn
  obtain ⟨h1, h2, h3⟩ := h
  have h4 := (h1.stored j (.int .i64 y)).1
  rw [show (xs.map (Value.int .i64)).set j (.int .i64 y) = (xs.set j y).map (Value.int .i64) by rw [List.map_set]] at h4
  refine ⟨by rw [List.length_set]; exact h4, by rw [List.length_set]; exact h2, fun x hx => ?_⟩
  rcases List.mem_or_eq_of_mem_set hx with hx | rfl
  · exact h3 x hx
  · exact hy

theorem OwnInts.addr {C : Nat} {w : World} {v : Value} {xs : List Int} (h : OwnInts C w v xs) (hne : 0 < xs.length) : ∃ g cap, v = .slice (some ⟨g, 0, none⟩) xs.length cap ∧ C ≤ g ∧ g < w.heap.size ∧ xs.length ≤ cap := by
  obtain ⟨⟨hl, h1⟩, h2, h3⟩ := h
  rcases h1 with ⟨rfl, hn⟩ | ⟨g, cap, cur, rfl, hb, hg, hnc, _⟩
  · omega
  · exact ⟨g, cap, rfl, hb, (Array.getElem?_eq_some_iff.1 hg).1, hnc⟩

end Go.Proofs.Ythekefnocphcdaa

set_option linter.unusedVariables false

set_option linter.unusedSimpArgs false

namespace Go.Proofs.Ythekefnocphcdaa

open Go.RowKit

theorem below_drewN {B : Nat} {w w' : World} (h : Below B w w') (n : Nat) : Below B w (w'.drewN n) := h.trans (Drew.below ⟨n, rfl⟩ B)

theorem OwnInts.drewN {B : Nat} {w : World} {v : Value} {xs : List Int} (h : OwnInts B w v xs) (n : Nat) : OwnInts B (w.drewN n) v xs := h.below (Drew.below ⟨n, rfl⟩ _)

end Go.Proofs.Ythekefnocphcdaa

set_option linter.unusedVariables false

set_option linter.unusedSimpArgs false

namespace Go.Proofs.Ythekefnocphcdaa

open Go.RowKit

theorem putL_front {x : List Int} : ∀ {A B : List (List Int)}, (∀ a ∈ A, ltL a x = true) → putL x (A ++ B) = A ++ putL x B
  | [], B, _ => rfl
  | a :: A, B, h => by
    have h1 := h a (by simp)
    show putL x (a :: (A ++ B)) = a :: (A ++ putL x B)
    rw [putL, if_neg (fun e => ltL_ne h1 e.symm), ltL_asymm h1, if_neg (by decide), putL_front (fun b hb => h b (List.mem_cons_of_mem _ hb))]

theorem putL_back {x : List Int} : ∀ {B : List (List Int)}, (∀ b ∈ B, b.length = x.length) → (∀ b ∈ B, ltL b x = false) → putL x B = if B.head? = some x then B else x :: B
  | [], _, _ => by simp [putL]
  | b :: B, hl, h => by
    rw [putL]
    simp only [List.head?_cons, Option.some.injEq]
    by_cases e : x = b
    · rw [if_pos e, if_pos e.symm]
    · rw [if_neg e, if_neg (show ¬ b = x from fun e' => e e'.symm)]
      rcases ltL_total (hl b (by simp)) (fun e' => e e'.symm) with h1 | h1
      · rw [h b (by simp)] at h1; cases h1
      · rw [if_pos h1]

/-- the search's bounds -/
def CutL (rows : List (List Int)) (x : List Int) (lo hi : Nat) : Prop := (∀ i, i < lo → ltL (rowAt rows i) x = true) ∧ ∀ i, hi ≤ i → i < rows.length → ltL (rowAt rows i) x = false

theorem rowAt_get {rows : List (List Int)} {i : Nat} (h : i < rows.length) : rowAt rows i = rows[i] := by unfold rowAt; rw [List.getD_eq_getElem?_getD, List.getElem?_eq_getElem h]; rfl

theorem srt_at {rows : List (List Int)} (h : SrtL rows) {i j : Nat} (hij : i < j) (hj : j < rows.length) : ltL (rowAt rows i) (rowAt rows j) = true := by
  rw [rowAt_get hj, rowAt_get (by omega)]
  exact List.pairwise_iff_getElem.1 h i j (by omega) hj hij

theorem CutL.low {rows : List (List Int)} {x : List Int} {lo hi m : Nat} (h : CutL rows x lo hi) (hs : SrtL rows) (hm : m < rows.length) (ht : ltL (rowAt rows m) x = true) : CutL rows x (m + 1) hi := by
  refine ⟨fun i hi => ?_, h.2⟩
  by_cases e : i = m
  · rw [e]; exact ht
  · exact ltL_trans (srt_at hs (show i < m by omega) hm) ht

theorem CutL.high {rows : List (List Int)} {x : List Int} {lo hi m : Nat} (h : CutL rows x lo hi) (hs : SrtL rows) (hm : m < rows.length) (ht : ltL (rowAt rows m) x = false) : CutL rows x lo m := by
  refine ⟨h.1, fun i hi hil => ?_⟩
  by_cases e : i = m
  · rw [e]; exact ht
  · cases hq : ltL (rowAt rows i) x with
    | false => rfl
    | true => have := ltL_trans (srt_at hs (show m < i by omega) hil) hq; rw [ht] at this; cases this

theorem CutL.put {rows : List (List Int)} {x : List Int} {lo : Nat} (h : CutL rows x lo lo) (hl : ∀ a ∈ rows, a.length = x.length) (hlo : lo ≤ rows.length) :
    (lo < rows.length → rowAt rows lo = x → putL x rows = rows) ∧ ((lo < rows.length → rowAt rows lo ≠ x) → putL x rows = rows.take lo ++ x :: rows.drop lo) := by
  have h1 : putL x rows = rows.take lo ++ putL x (rows.drop lo) := by
    conv => lhs; rw [← List.take_append_drop lo rows]
    refine putL_front fun a ha => ?_
    obtain ⟨i, hi, rfl⟩ := List.mem_iff_getElem.1 ha
    rw [List.length_take] at hi
    rw [List.getElem_take, ← rowAt_get (by omega)]
    exact h.1 i (by omega)
  have h2 := putL_back (x := x) (B := rows.drop lo) (fun b hb => hl b (List.mem_of_mem_drop hb)) (fun b hb => by
    obtain ⟨i, hi, rfl⟩ := List.mem_iff_getElem.1 hb
    rw [List.length_drop] at hi
    rw [List.getElem_drop, ← rowAt_get (by omega)]
    exact h.2 _ (by omega) (by omega))
  rw [h1, h2]
  refine ⟨fun hlt he => ?_, fun hn => ?_⟩
  · rw [List.head?_drop, List.getElem?_eq_getElem hlt, ← rowAt_get hlt, he, if_pos rfl, List.take_append_drop]
  · rw [if_neg]
    rw [List.head?_drop]
    intro e
    have hlt : lo < rows.length := by
      refine Classical.byContradiction fun h' => ?_
      rw [List.getElem?_eq_none (by omega)] at e
      cases e
    rw [List.getElem?_eq_getElem hlt, ← rowAt_get hlt] at e
    exact hn hlt (by simpa using e)

/-- block row v has the values V up to place i, one value, and then the rest of V -/
def ShiftAt (C : Nat) (W : World) (v : Value) (V : List Value) (i : Nat) : Prop := ∃ g, W.ownsRow C 34 1 v (V.length + 1) (V.take i ++ g :: V.drop i)

theorem shift_set {V : List Value} {i : Nat} {g : Value} (hi : i < V.length) : (V.take (i + 1) ++ g :: V.drop (i + 1)).set (i + 1) V[i] = V.take i ++ V[i] :: V.drop i := by
  have e1 : (V.take (i + 1) ++ g :: V.drop (i + 1)).set (i + 1) V[i] = V.take (i + 1) ++ V[i] :: V.drop (i + 1) := by
    rw [List.set_append_right _ _ (by rw [List.length_take]; omega)]
    have : i + 1 - (V.take (i + 1)).length = 0 := by rw [List.length_take]; omega
    rw [this]; rfl
  rw [e1, List.take_succ_eq_append_getElem hi, List.append_assoc, List.drop_eq_getElem_cons hi]
  rfl

theorem shift_end {V : List Value} {i : Nat} {g x : Value} (hi : i ≤ V.length) : (V.take i ++ g :: V.drop i).set i x = V.take i ++ x :: V.drop i := by
  rw [List.set_append_right _ _ (by rw [List.length_take]; omega)]
  have : i - (V.take i).length = 0 := by rw [List.length_take]; omega
  rw [this]; rfl

theorem valAt_shift {V : List Value} {i : Nat} {x : Value} (hi : i ≤ V.length) (j : Nat) : valAt (V.take i ++ x :: V.drop i) j = if j < i then valAt V j else if j = i then x else valAt V (j - 1) := by
  unfold valAt
  simp only [List.getD_eq_getElem?_getD]
  by_cases h1 : j < i
  · rw [if_pos h1, List.getElem?_append_left (by rw [List.length_take]; omega), List.getElem?_take, if_pos h1]
  · rw [if_neg h1, List.getElem?_append_right (by rw [List.length_take]; omega), List.length_take]
    by_cases h2 : j = i
    · rw [if_pos h2]
      have : j - min i V.length = 0 := by omega
      rw [this]; rfl
    · rw [if_neg h2]
      have : j - min i V.length = (j - 1 - i) + 1 := by omega
      rw [this, List.getElem?_cons_succ, List.getElem?_drop]
      congr 2; omega

theorem rowAt_shift {V : List (List Int)} {i : Nat} {x : List Int} (hi : i ≤ V.length) (j : Nat) : rowAt (V.take i ++ x :: V.drop i) j = if j < i then rowAt V j else if j = i then x else rowAt V (j - 1) := by
  unfold rowAt
  simp only [List.getD_eq_getElem?_getD]
  by_cases h1 : j < i
  · rw [if_pos h1, List.getElem?_append_left (by rw [List.length_take]; omega), List.getElem?_take, if_pos h1]
  · rw [if_neg h1, List.getElem?_append_right (by rw [List.length_take]; omega), List.length_take]
    by_cases h2 : j = i
    · rw [if_pos h2]
      have : j - min i V.length = 0 := by omega
      rw [this]; rfl
    · rw [if_neg h2]
      have : j - min i V.length = (j - 1 - i) + 1 := by omega
      rw [this, List.getElem?_cons_succ, List.getElem?_drop]
      congr 2; omega

/-- the rows of a table, each in blocks that are not the table's -/
def RowsAt (C : Nat) (W : World) (V : List Value) (rows : List (List Int)) : Prop := V.length = rows.length ∧ ∀ j, j < rows.length → OwnInts C W (valAt V j) (rowAt rows j)

theorem RowsAt.kept {C : Nat} {W W' : World} {V : List Value} {rows : List (List Int)} (h : RowsAt C W V rows) {B' n : Nat} {v : Value} {vals : List Value} (hv : W.ownsRow B' 34 1 v n vals) (hg : W.grownBy W' v.ownBlock) : RowsAt C W' V rows :=
  ⟨h.1, fun j hj => (h.2 j hj).kept hg ((h.2 j hj).apart hv)⟩

theorem shift_done {C : Nat} {W : World} {v vx : Value} {V : List Value} {rows : List (List Int)} {x : List Int} {i : Nat} (h : W.ownsRow C 34 1 v (V.length + 1) (V.take i ++ vx :: V.drop i)) (hr : RowsAt C W V rows) (hx : OwnInts C W vx x) (hi : i ≤ rows.length) (hl : rows.length + 1 ≤ 5864062014634) :
    OwnMat C W v (rows.take i ++ x :: rows.drop i) := by
  obtain ⟨h1, h2⟩ := hr
  have hlen : (rows.take i ++ x :: rows.drop i).length = rows.length + 1 := by simp; omega
  refine ⟨_, by rw [hlen, ← h1]; exact h, by omega, fun j hj => ?_⟩
  rw [hlen] at hj
  rw [valAt_shift (by omega), rowAt_shift hi]
  by_cases e1 : j < i
  · rw [if_pos e1, if_pos e1]; exact h2 j (by omega)
  · rw [if_neg e1, if_neg e1]
    by_cases e2 : j = i
    · rw [if_pos e2, if_pos e2]; exact hx
    · rw [if_neg e2, if_neg e2]; exact h2 _ (by omega)

/-- append(m, row), and where the new table lies -/
theorem append_row_at {ops : Array Oper} {rest : List Oper} {o : Oper} {a : Act} {w : World} {Q : Exit → Act → World → Prop} (hgd : o.guard = none) (s x : Operand)
    (ho : o.op = .call { callee := .builtin .append, args := #[s, x], argTypes := #[27, 27] })
    {B : Nat} {v r : Value} {rows : List (List Int)} {xs : List Int} {g c : Nat} (hs : a.eval s = v) (hown : OwnMat B w v rows) (hx : a.eval x = .slice (some ⟨g, 0, none⟩) 1 c)
    (hg : w.cell? ⟨g, 0, none⟩ = some r) (hr : OwnInts B w r xs) (hlen : rows.length + 1 ≤ 5864062014634) (hB : B ≤ w.heap.size)
    (h : ∀ v' w', OwnMat B w' v' (rows ++ [xs]) → w.grownBy w' v.ownBlock → (v'.ownBlock = v.ownBlock ∨ v'.ownBlock = some w.heap.size) → wpList Try.prog ops Q rest (a.put o.dst v') w') : wpList Try.prog ops Q (o :: rest) a w := by
  obtain ⟨i0, hi, hz0, hz1, hz2⟩ := info_parts ints_info
  obtain ⟨vals, h1, h2, h3⟩ := hown
  obtain ⟨ar, cr, hrv, _⟩ := hr.form
  refine wpList_append_own_at w hgd s x 27 ho B 34 i0 (.slice none 0 0) 1 24 Try.underlying27 hi hz0 hz1 hz2 rfl (by decide) v rows.length vals hs h1 ⟨g, 0, none⟩ 1 c [r] hx rfl ?_ ?_ ?_ ?_ hB ?_
  · intro j u hj
    match j, hj with
    | 0, hj => simp at hj; subst hj; simpa [Addr.add] using hg
  · intro u hu; simp at hu; subst hu; rw [hrv]; rfl
  · unfold maxLen; omega
  · omega
  · intro v' w' q1 q2 _ q4
    have hl : vals.length = rows.length := by have := h1.1; omega
    refine h v' w' ⟨vals ++ [r], by simpa using q1, by simpa using hlen, fun j hj => ?_⟩ q2 q4
    by_cases e : j < rows.length
    · have e1 : valAt (vals ++ [r]) j = valAt vals j := by unfold valAt; rw [List.getD_eq_getElem?_getD, List.getD_eq_getElem?_getD, List.getElem?_append_left (by omega)]
      have e2 : rowAt (rows ++ [xs]) j = rowAt rows j := by unfold rowAt; rw [List.getD_eq_getElem?_getD, List.getD_eq_getElem?_getD, List.getElem?_append_left (by omega)]
      rw [e1, e2]
      exact (h3 j e).kept q2 ((h3 j e).apart h1)
    · have e0 : j = rows.length := by simp at hj; omega
      have e1 : valAt (vals ++ [r]) j = r := by unfold valAt; rw [List.getD_eq_getElem?_getD, List.getElem?_append_right (by omega)]; simp [hl, e0]
      have e2 : rowAt (rows ++ [xs]) j = xs := by unfold rowAt; rw [List.getD_eq_getElem?_getD, List.getElem?_append_right (by omega)]; simp [e0]
      rw [e1, e2]
      exact hr.kept q2 (hr.apart h1)

theorem grown_fresh {a b c : World} {row : Option Nat} {g : Nat} (h : a.grownBy b row) (k : b.grownBy c (some g)) (hg : some g = row ∨ a.heap.size ≤ g) : a.grownBy c row :=
  ⟨k.os.trans h.os, k.tape.trans h.tape, k.output.trans h.output, Nat.le_trans h.size k.size, fun i hi hne => (k.block i (Nat.lt_of_lt_of_le hi h.size) (fun e => by
    rcases hg with e' | e'
    · exact hne (e.trans e')
    · cases e; omega)).trans (h.block i hi hne)⟩

theorem shift_start {C : Nat} {W : World} {v : Value} {rows : List (List Int)} {x0 : List Int} (h : OwnMat C W v (rows ++ [x0])) : ∃ V, RowsAt C W V rows ∧ ShiftAt C W v V rows.length := by
  obtain ⟨vals, h1, h2, h3⟩ := h
  have hl : vals.length = rows.length + 1 := by have := h1.1; simpa using this
  have hV : (vals.take rows.length).length = rows.length := by rw [List.length_take]; omega
  refine ⟨vals.take rows.length, ⟨hV, fun j hj => ?_⟩, valAt vals rows.length, ?_⟩
  · have e1 : valAt (vals.take rows.length) j = valAt vals j := by unfold valAt; rw [List.getD_eq_getElem?_getD, List.getElem?_take, if_pos hj, List.getD_eq_getElem?_getD]
    have e2 : rowAt (rows ++ [x0]) j = rowAt rows j := by unfold rowAt; rw [List.getD_eq_getElem?_getD, List.getD_eq_getElem?_getD, List.getElem?_append_left hj]
    rw [e1, ← e2]
    exact h3 j (by simp; omega)
  · have e : (vals.take rows.length).take rows.length ++ valAt vals rows.length :: (vals.take rows.length).drop rows.length = vals := by
      rw [List.take_of_length_le (l := vals.take rows.length) (by omega), List.drop_of_length_le (l := vals.take rows.length) (by omega)]
      unfold valAt
      rw [List.getD_eq_getElem?_getD, List.getElem?_eq_getElem (by omega)]
      show vals.take rows.length ++ [vals[rows.length]] = vals
      rw [← List.take_succ_eq_append_getElem (by omega), List.take_of_length_le (by omega)]
    rw [e, hV]
    simpa using h1

theorem OwnMat.addr {C : Nat} {w : World} {v : Value} {rows : List (List Int)} (h : OwnMat C w v rows) (hne : 0 < rows.length) : ∃ g cap, v = .slice (some ⟨g, 0, none⟩) rows.length cap ∧ C ≤ g ∧ g < w.heap.size ∧ rows.length ≤ cap := by
  obtain ⟨vals, ⟨hl, h1⟩, h2, h3⟩ := h
  rcases h1 with ⟨rfl, hn⟩ | ⟨g, cap, cur, rfl, hb, hg, hnc, _⟩
  · omega
  · exact ⟨g, cap, rfl, hb, (Array.getElem?_eq_some_iff.1 hg).1, hnc⟩

theorem ShiftAt.facts {C : Nat} {W : World} {g n cap : Nat} {V : List Value} {i : Nat} (h : ShiftAt C W (.slice (some ⟨g, 0, none⟩) n cap) V i) (hn : n = V.length + 1) (hi : i ≤ V.length) :
    (∀ j, j < i → W.cell? ⟨g, j, none⟩ = some (valAt V j)) ∧ (∃ u, W.cell? ⟨g, i, none⟩ = some u) ∧ ∀ j, W.frozen? ⟨g, j, none⟩ = false := by
  subst hn
  obtain ⟨u, h⟩ := h
  refine ⟨fun j hj => ?_, ⟨u, ?_⟩, fun j => h.frozenAt j⟩
  · rw [h.cellAt j (by omega), List.getElem?_append_left (by rw [List.length_take]; omega), List.getElem?_take, if_pos hj]
    unfold valAt
    rw [List.getD_eq_getElem?_getD, List.getElem?_eq_getElem (by omega)]
    rfl
  · rw [h.cellAt i (by omega), List.getElem?_append_right (by rw [List.length_take]; omega), List.length_take]
    have : i - min i V.length = 0 := by omega
    rw [this]; rfl

theorem ShiftAt.up {C : Nat} {W : World} {g n cap : Nat} {V : List Value} {i : Nat} (h : ShiftAt C W (.slice (some ⟨g, 0, none⟩) n cap) V (i + 1)) (hn : n = V.length + 1) (hi : i < V.length) :
    ShiftAt C (W.setCell ⟨g, i + 1, none⟩ (valAt V i)) (.slice (some ⟨g, 0, none⟩) n cap) V i ∧ W.grownBy (W.setCell ⟨g, i + 1, none⟩ (valAt V i)) (some g) := by
  subst hn
  obtain ⟨u, h⟩ := h
  have e : valAt V i = V[i] := by unfold valAt; rw [List.getD_eq_getElem?_getD, List.getElem?_eq_getElem hi]; rfl
  have h1 := h.stored (i + 1) (valAt V i)
  rw [e, shift_set hi] at h1
  rw [e]
  exact ⟨⟨_, h1.1⟩, h1.2⟩

theorem ShiftAt.last {C : Nat} {W : World} {g n cap : Nat} {V : List Value} {i : Nat} (h : ShiftAt C W (.slice (some ⟨g, 0, none⟩) n cap) V i) (hn : n = V.length + 1) (hi : i ≤ V.length) (x : Value) :
    (W.setCell ⟨g, i, none⟩ x).ownsRow C 34 1 (.slice (some ⟨g, 0, none⟩) n cap) (V.length + 1) (V.take i ++ x :: V.drop i) ∧ W.grownBy (W.setCell ⟨g, i, none⟩ x) (some g) := by
  subst hn
  obtain ⟨u, h⟩ := h
  have h1 := h.stored i x
  rw [shift_end hi] at h1
  exact h1

set_option maxHeartbeats 4000000 in
set_option maxRecDepth 100000 in
/-- frankingref27.Put -/
theorem put_any (C : Nat) (w : World) (v vx : Value) (rows : List (List Int)) (x : List Int) (hv : OwnMat C w v rows) (hx : OwnInts C w vx x) (hC : C ≤ w.heap.size) (hs : SrtL rows) (hl : ∀ a ∈ rows, a.length = x.length) (hlen : rows.length ≤ 100000000) :
    Calls Try.prog 24 #[v, vx] w fun e w' => ∃ v', e = .returned v' ∧ OwnMat C w' v' (putL x rows) ∧ w.grownBy w' v.ownBlock ∧ (v'.ownBlock = v.ownBlock ∨ ∃ q, v'.ownBlock = some q ∧ w.heap.size ≤ q) := by
  have HV := Lib.hid hv
  have HM := Lib.hid hv.isMat
  have HX := Lib.hid hx
  have HXI := Lib.hid hx.isInts
  have HC := Lib.hid hC
  have HS := Lib.hid hs
  have HL := Lib.hid hl
  obtain ⟨ax, nx, cx, rfl⟩ := hx.form'
  obtain ⟨b, off, cap, ⟨a, rfl, hcap, hmax, ha⟩, hlen', hc⟩ := hv.isMat
  have HCC := Lib.hid hc
  have HA := Lib.hid ha
  clear hv hx hC hs hl hc ha
  go_enter Try.func24, Try.ntmps24
  go_wp2
  go_loopw [5, 6, 7] (fun vl vh _ wr => ∃ lo hi : Nat, vl = .int .i64 lo ∧ vh = .int .i64 hi ∧ lo ≤ hi ∧ hi ≤ rows.length ∧ CutL rows x lo hi ∧ Drew w wr) (fun vl vh _ _ => (intOf vh).toNat - (intOf vl).toNat)
  case atStart => exact ⟨0, rows.length, rfl, rfl, by omega, by omega, ⟨fun i hi => by omega, fun i h1 h2 => by omega⟩, Drew.refl _⟩
  case round =>
    obtain ⟨lo, hi, rfl, rfl, hle, hhi, hcut, hd⟩ := hrel
    have HCUT := Lib.hid hcut
    have HD := Lib.hid hd
    clear hcut hd
    by_cases hlt : lo < hi
    · have hlt' : decide ((lo : Int) < hi) = true := decide_eq_true (by omega)
      obtain ⟨m, hm⟩ : ∃ m, (lo + hi) / 2 = m := ⟨_, rfl⟩
      have hm1 : lo ≤ m := by omega
      have hm2 : m < hi := by omega
      have hmr : m < rows.length := by omega
      have e3 : ((lo : Int) + (hi : Int)).tdiv 2 = (m : Int) := by
        rw [Int.tdiv_eq_ediv_of_nonneg (by omega)]; omega
      obtain rfl : a = some ⟨b, off, none⟩ := by rcases HA.out with h | h; exact h; omega
      obtain ⟨rv, q1, i1⟩ := HCC.out m hmr
      have c1 := (HD.out.cell _).trans q1.2
      have HLS := Lib.hid (fun n => rless27_any _ _ (wr.drewN n) _ _ _ _ (i1.drew (HD.out.drewN n)) (HXI.out.drew (HD.out.drewN n)))
      obtain ⟨a1, n1, k1, rfl⟩ : ∃ a n c, rv = .slice a n c := by obtain ⟨_, _, c, ⟨a, e, _⟩, _⟩ := i1; exact ⟨a, _, c, e⟩
      clear q1 i1 hm
      cases hq : ltL (rowAt rows m) x
      · have HQ := Lib.hid (HCUT.out.high HS.out hmr hq)
        rw [hq] at HLS
        clear hq
        go_wp2_with (go_at_call 28; refine (HLS.out 0).mono ?_; rintro e w5 ⟨rfl, hw5⟩; have HW5 := Lib.hid (HD.out.trans hw5); clear hw5)
        go_roundw
        case rel => exact ⟨lo, m, rfl, rfl, hm1, by omega, HQ.out, HW5.out⟩
        case measure => simp [intOf]; omega
      · have HQ := Lib.hid (HCUT.out.low HS.out hmr hq)
        rw [hq] at HLS
        clear hq
        go_wp2_with (go_at_call 28; refine (HLS.out 0).mono ?_; rintro e w5 ⟨rfl, hw5⟩; have HW5 := Lib.hid (HD.out.trans hw5); clear hw5)
        go_roundw
        case rel => exact ⟨m + 1, hi, by go_num, rfl, by omega, hhi, HQ.out, HW5.out⟩
        case measure => simp [intOf]; omega
    · obtain rfl : lo = hi := by omega
      have hlt' : decide ((lo : Int) < (lo : Int)) = false := decide_eq_false (by omega)
      have hput := HCUT.out.put HL.out hhi
      by_cases hin : lo < rows.length
      · have hin' : decide ((lo : Int) < rows.length) = true := decide_eq_true (by omega)
        obtain rfl : a = some ⟨b, off, none⟩ := by rcases HA.out with h | h; exact h; omega
        obtain ⟨rv, q1, i1⟩ := HCC.out lo hin
        have c1 := (HD.out.cell _).trans q1.2
        have HSM := Lib.hid (same_any _ wr rv (.slice ax nx cx) (rowAt rows lo) x (i1.drew HD.out) (HXI.out.drew HD.out))
        obtain ⟨a1, n1, k1, rfl⟩ : ∃ a n c, rv = .slice a n c := by obtain ⟨_, _, c, ⟨a, e, _⟩, _⟩ := i1; exact ⟨a, _, c, e⟩
        clear q1 i1
        cases hq : sameB (rowAt rows lo) x
        · have HP : Hid (putL x rows = rows.take lo ++ x :: rows.drop lo) := Lib.hid (hput.2 (fun _ e => by unfold sameB at hq; exact of_decide_eq_false hq e))
          rw [hq] at HSM
          clear hq hput
          go_wp2_with (first | (go_at_call 32; refine HSM.out.mono ?_; rintro e w5 ⟨rfl, hw5⟩; have HW5 := Lib.hid (HD.out.trans hw5); clear hw5) | (at_builtin; refine append_row_at (r := .slice none 0 0) (xs := []) rfl _ _ rfl rfl ((HV.out.below (HW5.out.below _)).alloc _) rfl ?c1 (OwnInts.nil _ _) ?c3 ?c4 ?c5))
          try (case c1 => exact World.cell?_alloc_at _ _ _ _ rfl)
          case c3 => omega
          try (case c4 => have := HC.out; have := (HW5.out.below w.heap.size).size; simp; omega)
          case c5 =>
            intro v' w8 ho8 hg8 hat8
            have HG8 := Lib.hid (grown_trans (grown_below ((HW5.out.below _).alloc (by have := (HW5.out.below w.heap.size).size; omega) _) _) hg8)
            have HX8 : Hid (OwnInts C w8 (.slice ax nx cx) x) := by
              have h1 := (HX.out.below (HW5.out.below _)).alloc (.cells #[Value.slice none 0 0] 34)
              obtain ⟨vals, hv, _⟩ := (HV.out.below (HW5.out.below _)).alloc (.cells #[Value.slice none 0 0] 34)
              exact Lib.hid (h1.kept hg8 (h1.apart hv))
            obtain ⟨g, cg, heq, hCg, hg2, hg3⟩ := ho8.addr (by simp)
            obtain ⟨V, hrows, hsh⟩ := shift_start ho8
            have hvl := hrows.1
            have HVL := Lib.hid hrows.1
            rw [List.length_append] at heq
            subst heq
            have HAT : Hid (some g = (Value.slice (some ⟨b, off, none⟩) rows.length cap).ownBlock ∨ w.heap.size ≤ g) := Lib.hid (by
              rcases hat8 with e | e
              · exact .inl e
              · simp [Value.ownBlock] at e; right; have := (HW5.out.below w.heap.size).size; omega)
            clear hat8
            have HAP : Hid ((Value.slice ax nx cx).ownBlock = none ∨ (Value.slice ax nx cx).ownBlock ≠ some g) := Lib.hid (by obtain ⟨u, hu⟩ := hsh; exact HX8.out.apart hu)
            have HSH := Lib.hid hsh
            have HRW := Lib.hid hrows
            clear hsh hrows ho8 hg8
            go_wp2
            go_loopw [8] (fun vi wr => ∃ i : Nat, lo ≤ i ∧ i ≤ rows.length ∧ vi = .int .i64 i ∧ ShiftAt C wr (.slice (some ⟨g, 0, none⟩) (rows.length + [([] : List Int)].length) cg) V i ∧ RowsAt C wr V rows ∧ w8.grownBy wr (some g)) (fun vi _ => (intOf vi).toNat)
            case atStart => exact ⟨rows.length, by omega, by omega, by go_num, HSH.out, HRW.out, grown_refl _ _⟩
            case round =>
              obtain ⟨i, hi1, hi2, rfl, hsh, hrows, hgw⟩ := hrel
              have hf := hsh.facts (by rw [HVL.out]; rfl) (by omega)
              have HSH2 := Lib.hid hsh
              have HRW2 := Lib.hid hrows
              have HGW := Lib.hid hgw
              clear HSH HRW
              by_cases hil : lo < i
              · have hil' : decide ((lo : Int) < i) = true := decide_eq_true (by omega)
                obtain ⟨j, rfl⟩ : ∃ j, i = j + 1 := ⟨i - 1, by omega⟩
                have hj : j < rows.length := by omega
                obtain ⟨aj, cj, hvj, _⟩ := (hrows.2 j hj).form
                have c1 := hf.1 j (by omega)
                obtain ⟨u, c2⟩ := hf.2.1
                have c3 := hf.2.2 (j + 1)
                have hup := hsh.up (by rw [HVL.out]; rfl) (by omega)
                rw [hvj] at c1 hup
                have HUP := Lib.hid hup
                have e1 : (((j + 1 : Nat) : Int)) - 1 = ((j : Nat) : Int) := by omega
                obtain ⟨own, hown⟩ := hsh
                have HOWN := Lib.hid hown
                clear hf hrows hgw hvj hup hown
                go_wp2
                go_roundw
                case rel => exact ⟨j, by omega, by omega, by go_num, HUP.out.1, HRW2.out.kept HOWN.out HUP.out.2, grown_trans HGW.out HUP.out.2⟩
                case measure => simp [intOf]
              · obtain rfl : i = lo := by omega
                have hil' : decide ((i : Int) < i) = false := decide_eq_false (by omega)
                obtain ⟨u, c2⟩ := hf.2.1
                have c3 := hf.2.2 i
                have HLA := Lib.hid (hsh.last (by rw [HVL.out]; rfl) (by omega) (.slice ax nx cx))
                obtain ⟨own, hown⟩ := hsh
                have HOWN := Lib.hid hown
                clear hf hrows hgw hown
                go_wp2
                go_ret
                refine ⟨_, rfl, ?_, ?_, HAT.out.imp (fun e => e) (fun e => ⟨g, rfl, e⟩)⟩
                · rw [HP.out]
                  refine shift_done HLA.out.1 (HRW2.out.kept HOWN.out HLA.out.2) ?_ hi2 (by omega)
                  have h1 : OwnInts C wr (.slice ax nx cx) x := HX8.out.kept HGW.out HAP.out
                  exact h1.kept HLA.out.2 (h1.apart HOWN.out)
                · exact grown_fresh (grown_fresh HG8.out HGW.out HAT.out) HLA.out.2 HAT.out
        · have HP : Hid (putL x rows = rows) := Lib.hid (hput.1 hin (by unfold sameB at hq; exact of_decide_eq_true hq))
          rw [hq] at HSM
          clear hq hput
          go_wp2_with (go_at_call 32; refine HSM.out.mono ?_; rintro e w5 ⟨rfl, hw5⟩; have HW5 := Lib.hid (HD.out.trans hw5); clear hw5)
          go_ret
          exact ⟨_, rfl, by rw [HP.out]; exact HV.out.below (HW5.out.below _), (grown_below (HW5.out.below _) _), .inl rfl⟩
      · have hin' : decide ((lo : Int) < rows.length) = false := decide_eq_false (by omega)
        have HP : Hid (putL x rows = rows.take lo ++ x :: rows.drop lo) := Lib.hid (hput.2 (fun h => by omega))
        clear hput
        go_wp2_with (at_builtin; refine append_row_at (r := .slice none 0 0) (xs := []) rfl _ _ rfl rfl ((HV.out.below (HD.out.below _)).alloc _) rfl ?c1 (OwnInts.nil _ _) ?c3 ?c4 ?c5)
        try (case c1 => exact World.cell?_alloc_at _ _ _ _ rfl)
        case c3 => omega
        try (case c4 => have := HC.out; have := (HD.out.below w.heap.size).size; simp; omega)
        case c5 =>
          intro v' w8 ho8 hg8 hat8
          have HG8 := Lib.hid (grown_trans (grown_below ((HD.out.below _).alloc (by have := (HD.out.below w.heap.size).size; omega) _) _) hg8)
          have HX8 : Hid (OwnInts C w8 (.slice ax nx cx) x) := by
            have h1 := (HX.out.below (HD.out.below _)).alloc (.cells #[Value.slice none 0 0] 34)
            obtain ⟨vals, hv, _⟩ := (HV.out.below (HD.out.below _)).alloc (.cells #[Value.slice none 0 0] 34)
            exact Lib.hid (h1.kept hg8 (h1.apart hv))
          obtain ⟨g, cg, heq, hCg, hg2, hg3⟩ := ho8.addr (by simp)
          obtain ⟨V, hrows, hsh⟩ := shift_start ho8
          have hvl := hrows.1
          have HVL := Lib.hid hrows.1
          rw [List.length_append] at heq
          subst heq
          have HAT : Hid (some g = (Value.slice a rows.length cap).ownBlock ∨ w.heap.size ≤ g) := Lib.hid (by
            rcases hat8 with e | e
            · exact .inl e
            · simp [Value.ownBlock] at e; right; have := (HD.out.below w.heap.size).size; omega)
          clear hat8
          have HAP : Hid ((Value.slice ax nx cx).ownBlock = none ∨ (Value.slice ax nx cx).ownBlock ≠ some g) := Lib.hid (by obtain ⟨u, hu⟩ := hsh; exact HX8.out.apart hu)
          have HSH := Lib.hid hsh
          have HRW := Lib.hid hrows
          clear hsh hrows ho8 hg8
          go_wp2
          go_loopw [8] (fun vi wr => ∃ i : Nat, lo ≤ i ∧ i ≤ rows.length ∧ vi = .int .i64 i ∧ ShiftAt C wr (.slice (some ⟨g, 0, none⟩) (rows.length + [([] : List Int)].length) cg) V i ∧ RowsAt C wr V rows ∧ w8.grownBy wr (some g)) (fun vi _ => (intOf vi).toNat)
          case atStart => exact ⟨rows.length, by omega, by omega, by go_num, HSH.out, HRW.out, grown_refl _ _⟩
          case round =>
            obtain ⟨i, hi1, hi2, rfl, hsh, hrows, hgw⟩ := hrel
            have hf := hsh.facts (by rw [HVL.out]; rfl) (by omega)
            have HSH2 := Lib.hid hsh
            have HRW2 := Lib.hid hrows
            have HGW := Lib.hid hgw
            clear HSH HRW
            by_cases hil : lo < i
            · have hil' : decide ((lo : Int) < i) = true := decide_eq_true (by omega)
              exact absurd hil (by omega)
            · obtain rfl : i = lo := by omega
              have hil' : decide ((i : Int) < i) = false := decide_eq_false (by omega)
              obtain ⟨u, c2⟩ := hf.2.1
              have c3 := hf.2.2 i
              have HLA := Lib.hid (hsh.last (by rw [HVL.out]; rfl) (by omega) (.slice ax nx cx))
              obtain ⟨own, hown⟩ := hsh
              have HOWN := Lib.hid hown
              clear hf hrows hgw hown
              go_wp2
              go_ret
              refine ⟨_, rfl, ?_, ?_, HAT.out.imp (fun e => e) (fun e => ⟨g, rfl, e⟩)⟩
              · rw [HP.out]
                refine shift_done HLA.out.1 (HRW2.out.kept HOWN.out HLA.out.2) ?_ hi2 (by omega)
                have h1 : OwnInts C wr (.slice ax nx cx) x := HX8.out.kept HGW.out HAP.out
                exact h1.kept HLA.out.2 (h1.apart HOWN.out)
              · exact grown_fresh (grown_fresh HG8.out HGW.out HAT.out) HLA.out.2 HAT.out

end Go.Proofs.Ythekefnocphcdaa

set_option linter.unusedVariables false

set_option linter.unusedSimpArgs false

namespace Go.Proofs.Ythekefnocphcdaa

open Go.RowKit

theorem OwnMat.one {C k : Nat} {w : World} {vb : Value} {b : List Int} (h : OwnInts C w vb b) (hk : k = w.heap.size) (hC : C ≤ w.heap.size) : OwnMat C (w.alloc (.cells #[vb] 34)) (.slice (some ⟨k, 0, none⟩) 1 1) [b] := by
  subst hk
  refine ⟨[vb], ⟨by simp, Or.inr ⟨w.heap.size, 1, #[vb], rfl, hC, heap_alloc_new w _, by simp, by unfold maxLen; omega, by simp, by simp⟩⟩, by simp, fun j hj => ?_⟩
  obtain rfl : j = 0 := by simp at hj; omega
  exact h.alloc _

theorem OwnMat.form {C : Nat} {w : World} {v : Value} {rows : List (List Int)} (h : OwnMat C w v rows) : ∃ a cap, v = .slice a rows.length cap ∧ (∀ k, v.ownBlock = some k → C ≤ k ∧ k < w.heap.size) := by
  obtain ⟨vals, h1, h2, h3⟩ := h
  obtain ⟨hl, h4⟩ := h1
  have hb : ∀ k, v.ownBlock = some k → C ≤ k ∧ k < w.heap.size := World.ownsRow.lt ⟨hl, h4⟩
  rcases h4 with ⟨rfl, hn⟩ | ⟨g, cap, cur, rfl, _⟩
  · exact ⟨none, 0, by rw [hn], hb⟩
  · exact ⟨_, _, rfl, hb⟩

/-- append(m, rows...) where there are rows -/
theorem append_mat {ops : Array Oper} {rest : List Oper} {o : Oper} {a : Act} {w : World} {Q : Exit → Act → World → Prop} (hgd : o.guard = none) (s x : Operand)
    (ho : o.op = .call { callee := .builtin .append, args := #[s, x], argTypes := #[27, 27] })
    {B : Nat} {v vx : Value} {rows ys : List (List Int)} (hs : a.eval s = v) (hown : OwnMat B w v rows) (hx : a.eval x = vx) (hy : OwnMat B w vx ys) (hne : ys ≠ []) (hlen : rows.length + ys.length ≤ 5864062014634) (hB : B ≤ w.heap.size)
    (h : ∀ v' w', OwnMat B w' v' (rows ++ ys) → w.grownBy w' v.ownBlock → (v'.ownBlock = v.ownBlock ∨ v'.ownBlock = some w.heap.size) → wpList Try.prog ops Q rest (a.put o.dst v') w') : wpList Try.prog ops Q (o :: rest) a w := by
  obtain ⟨i0, hi, hz0, hz1, hz2⟩ := info_parts ints_info
  obtain ⟨vals, h1, h2, h3⟩ := hown
  have hpos : 0 < ys.length := List.length_pos_iff.2 hne
  obtain ⟨g, cap, rfl, _⟩ := hy.addr hpos
  obtain ⟨ws, k1, k2, k3⟩ := hy
  have hwl : ws.length = ys.length := by have := k1.1; omega
  refine wpList_append_own_at w hgd s x 27 ho B 34 i0 (.slice none 0 0) 1 24 Try.underlying27 hi hz0 hz1 hz2 rfl (by decide) v rows.length vals hs h1 ⟨g, 0, none⟩ ys.length cap ws hx (by omega) ?_ ?_ ?_ ?_ hB ?_
  · exact fun j u hj => k1.cells (g := g) rfl j u hj
  · intro u hu
    obtain ⟨j, hj, rfl⟩ := List.mem_iff_getElem.1 hu
    obtain ⟨a1, c1, e, _⟩ := (k3 j (by omega)).form
    have e' : valAt ws j = ws[j] := by unfold valAt; rw [List.getD_eq_getElem?_getD, List.getElem?_eq_getElem hj]; rfl
    rw [← e', e]; rfl
  · unfold maxLen; omega
  · omega
  · intro v' w' q1 q2 _ q4
    have hl : vals.length = rows.length := by have := h1.1; omega
    refine h v' w' ⟨vals ++ ws, by rw [List.length_append]; exact q1, by rw [List.length_append]; exact hlen, fun j hj => ?_⟩ q2 q4
    rw [List.length_append] at hj
    by_cases e : j < rows.length
    · have e1 : valAt (vals ++ ws) j = valAt vals j := by unfold valAt; rw [List.getD_eq_getElem?_getD, List.getD_eq_getElem?_getD, List.getElem?_append_left (by omega)]
      have e2 : rowAt (rows ++ ys) j = rowAt rows j := by unfold rowAt; rw [List.getD_eq_getElem?_getD, List.getD_eq_getElem?_getD, List.getElem?_append_left (by omega)]
      rw [e1, e2]
      exact (h3 j e).kept q2 ((h3 j e).apart h1)
    · have e1 : valAt (vals ++ ws) j = valAt ws (j - rows.length) := by unfold valAt; rw [List.getD_eq_getElem?_getD, List.getD_eq_getElem?_getD, List.getElem?_append_right (by omega), hl]
      have e2 : rowAt (rows ++ ys) j = rowAt ys (j - rows.length) := by unfold rowAt; rw [List.getD_eq_getElem?_getD, List.getD_eq_getElem?_getD, List.getElem?_append_right (by omega)]
      rw [e1, e2]
      exact (k3 _ (by omega)).kept q2 ((k3 _ (by omega)).apart h1)

theorem permsF_few {n r : Nat} {b : List Int} (hn : n ≤ 8) (hb : Begins n b) (hr : b.length + r = n) : (permsF n r b).length ≤ 40320 := by
  rw [permsF_len r b hb hr]
  have h := facN_mono (show r ≤ 8 by omega)
  have e : facN 8 = 40320 := by decide
  omega

set_option maxHeartbeats 4000000 in
set_option maxRecDepth 100000 in
/-- frankingref27.permsFrom -/
theorem permsFrom_any (n : Nat) (hn : n ≤ 8) : ∀ (r : Nat) (C : Nat) (w : World) (vb : Value) (b : List Int), Begins n b → b.length + r = n → OwnInts C w vb b → C ≤ w.heap.size →
    Calls Try.prog 56 #[vb, .int .i64 (n : Int)] w fun e w' => ∃ v, e = .returned v ∧ OwnMat C w' v (permsF n r b) ∧ Below w.heap.size w w' := by
  intro r
  induction r with
  | zero =>
    intro C w vb b hb hbr ho hC
    have hq : ((b.length : Int) == (n : Int)) = true := by rw [show b.length = n by omega]; simp
    obtain ⟨ab, cb, rfl, _⟩ := ho.form
    have HO := Lib.hid ho
    have HC := Lib.hid hC
    clear ho hb hbr hC hn
    go_enter Try.func56, Try.ntmps56
    go_wp2
    go_ret
    exact ⟨_, rfl, OwnMat.one HO.out rfl HC.out, box_below' _ _⟩
  | succ r ih =>
    intro C w vb b hb hbr ho hC
    have hq : ((b.length : Int) == (n : Int)) = false := by simp; omega
    obtain ⟨ab, cb, rfl, _⟩ := ho.form
    have HO := Lib.hid ho
    have HC := Lib.hid hC
    have HB := Lib.hid hb
    have HBR := Lib.hid hbr
    have HIH := Lib.hid ih
    have HN := Lib.hid hn
    have hn9 : (n : Int) ≤ 8 := by omega
    clear ho hb hbr hC hn ih
    go_enter Try.func56, Try.ntmps56
    go_wp2
    go_loopw [5, 6] (fun vl vx wr => ∃ x : Nat, x ≤ n ∧ vx = .int .i64 x ∧ OwnMat C wr vl (permsTo n r b x) ∧ (∀ q, vl.ownBlock = some q → w.heap.size ≤ q) ∧ Below w.heap.size w wr) (fun _ vx _ => n - (intOf vx).toNat)
    case atStart => exact ⟨0, by omega, rfl, OwnMat.nil _ _, (fun q h => by cases h), Below.refl _ _⟩
    case round =>
      obtain ⟨x, hx, rfl, hm, hq', hbl⟩ := hrel
      obtain ⟨al, cl, rfl, _⟩ := hm.form
      have HM := Lib.hid hm
      have HQ := Lib.hid hq'
      have HBL := Lib.hid hbl
      clear hm hq' hbl
      by_cases hlt : x < n
      · have hlt' : decide ((x : Int) < n) = true := decide_eq_true (by omega)
        have HHA := Lib.hid (has_any _ wr _ b (x : Int) (HO.out.below HBL.out).isInts)
        cases hh : hasB b (x : Int)
        · have HX := Lib.hid hh
          rw [hh] at HHA
          have HT : Hid (permsTo n r b (x + 1) = permsTo n r b x ++ permsF n r (b ++ [(x : Int)])) := Lib.hid (permsTo_out hh)
          clear hh
          go_wp2_with (first
            | (go_at_call 29; refine HHA.out.mono ?_; rintro e w5 ⟨rfl, hw5⟩; obtain rfl := hw5.symm)
            | (at_builtin; refine append_intsA (B := C) (xs := []) rfl (.tmp 23) (.tmp 24) rfl b rfl (OwnInts.made ?a0) rfl ?a1 ?a2 ?a3 ?a4 ?a5))
          case a0 => exact Nat.le_trans HC.out HBL.out.size
          case a1 => exact ((HO.out.below HBL.out).alloc _).isInts.src
          case a2 => exact HO.out.2.2
          case a3 => have := HO.out.2.1; simpa using this
          case a4 => have := HC.out; have := HBL.out.size; simp; omega
          case a5 =>
            intro v1 w1 h1 hg1 hat1
            obtain ⟨a1, n1, c1, rfl⟩ := h1.form'
            have HO1 := Lib.hid h1
            have HB1 : Hid (Below wr.heap.size wr w1) := Lib.hid ((box_below' wr _).grown hg1 (by simp) (fun k hk => by simp [Value.ownBlock] at hk; omega))
            clear h1 hg1
            go_wp2_with (at_builtin; refine append_intsA (B := C) (xs := b) rfl (.tmp 25) (.tmp 27) rfl [(x : Int)] rfl (HO1.out.alloc _) rfl ?b1 ?b2 ?b3 ?b4 ?b5)
            case b1 => exact src_one (World.cell?_alloc_at _ _ _ _ rfl) rfl
            case b2 => intro y hy; simp at hy; subst hy; unfold I64; have := HN.out; omega
            case b3 => have := HBR.out; have := HN.out; simp; omega
            case b4 => have := HC.out; have := HBL.out.size; have := HB1.out.size; simp; omega
            case b5 =>
              intro v2 w2 h2 hg2 hat2
              obtain ⟨a2, n2, c2, rfl⟩ := h2.form'
              have HO2 := Lib.hid h2
              have HB2 : Hid (Below wr.heap.size wr w2) := Lib.hid (((HB1.out.alloc HB1.out.size _).grown hg2 (by have := HB1.out.size; simp; omega) (fun k hk => by
                rcases hat1 with e | e
                · rw [e] at hk; simp [Value.ownBlock] at hk; omega
                · rw [e] at hk; simp at hk; omega)))
              clear h2 hg2 hat2
              have HRE := Lib.hid (HIH.out C w2 _ _ (HB.out.snoc hlt HX.out) (by have := HBR.out; simp; omega) HO2.out (by have := HC.out; have := HBL.out.size; have := HB2.out.size; omega))
              go_wp2_with (first
                | (go_at_call 56; refine HRE.out.mono ?_; rintro e w3 ⟨v3, rfl, h3, hb3⟩; obtain ⟨a3, c3, rfl, _⟩ := h3.form; have HO3 := Lib.hid h3; have HB3 := Lib.hid hb3; clear h3 hb3)
                | (at_builtin; go_loud (refine append_mat rfl (.tmp 22) (.tmp 30) rfl rfl ((HM.out.below HB2.out).below HB3.out) rfl HO3.out ?d1 ?d2 ?d3 ?d4)))
              case d1 =>
                intro e
                have h1 := permsF_len r (b ++ [(x : Int)]) (HB.out.snoc hlt HX.out) (by have := HBR.out; simp; omega)
                rw [e] at h1
                have := facN_pos r
                simp at h1; omega
              case d2 =>
                have h1 := permsF_few HN.out (HB.out.snoc hlt HX.out) (show (b ++ [(x : Int)]).length + r = n by have := HBR.out; simp; omega)
                have h2 := permsF_few HN.out HB.out HBR.out
                rw [← permsTo_all] at h2
                obtain ⟨t, ht⟩ := permsTo_pre (n := n) (r := r) (b := b) (Nat.le_of_lt hlt)
                rw [ht, List.length_append] at h2
                omega
              case d3 => have := HC.out; have := HBL.out.size; have := HB2.out.size; have := HB3.out.size; omega
              case d4 =>
                intro v4 w4 h4 hg4 hat4
                have HO4 := Lib.hid h4
                have HG4 := Lib.hid hg4
                have HQ4 : Hid (∀ q, v4.ownBlock = some q → w.heap.size ≤ q) := Lib.hid (fun q hq => by
                  rcases hat4 with e | e
                  · rw [e] at hq; exact HQ.out q hq
                  · rw [e] at hq; simp at hq; have := HBL.out.size; have := HB2.out.size; have := HB3.out.size; omega)
                clear h4 hg4 hat4
                go_wp2
                go_roundw
                case rel => exact ⟨x + 1, by omega, by go_num, by rw [HT.out]; exact HO4.out, HQ4.out, (((HBL.out.trans (HB2.out.mono HBL.out.size)).trans (HB3.out.mono (by have := HBL.out.size; have := HB2.out.size; omega))).grown HG4.out (by have := HBL.out.size; have := HB2.out.size; have := HB3.out.size; omega) HQ.out)⟩
                case measure => simp [intOf]; omega
        · have HX := Lib.hid hh
          rw [hh] at HHA
          have HT : Hid (permsTo n r b (x + 1) = permsTo n r b x) := Lib.hid (permsTo_in hh)
          clear hh
          go_wp2_with (go_at_call 29; refine HHA.out.mono ?_; rintro e w5 ⟨rfl, hw5⟩; obtain rfl := hw5.symm)
          go_roundw
          case rel => exact ⟨x + 1, by omega, by go_num, by rw [HT.out]; exact HM.out, HQ.out, HBL.out⟩
          case measure => simp [intOf]; omega
      · obtain rfl : x = n := by omega
        have hlt' : decide ((x : Int) < x) = false := decide_eq_false (by omega)
        have HA := Lib.hid (permsTo_all (n := x) (r := r) (b := b))
        go_wp2
        go_ret
        exact ⟨_, rfl, by rw [← HA.out]; exact HM.out, HBL.out⟩

theorem perms27_any (n : Nat) (hn : n ≤ 8) (w : World) :
    Calls Try.prog 23 #[.int .i64 (n : Int)] w fun e w' => ∃ v, e = .returned v ∧ OwnMat w.heap.size w' v (permsL n) ∧ Below w.heap.size w w' := by
  have HP := Lib.hid (permsFrom_any n hn n w.heap.size w (.slice none 0 0) [] ⟨List.nodup_nil, fun x h => by cases h⟩ (by simp) (OwnInts.nil _ _) (Nat.le_refl _))
  clear hn
  go_enter Try.func23, Try.ntmps23
  go_wp2_with (go_at_call 56; refine HP.out.mono ?_; rintro e w5 ⟨v, rfl, h1, h2⟩; have H1 := Lib.hid h1; have H2 := Lib.hid h2; clear h1 h2)
  go_ret
  exact ⟨_, rfl, H1.out, H2.out⟩

end Go.Proofs.Ythekefnocphcdaa

set_option linter.unusedVariables false

set_option linter.unusedSimpArgs false

namespace Go.Proofs.Ythekefnocphcdaa

open Go.RowKit

theorem ins_few {f : Flow} {k : Nat} (h0 : 0 ≤ f.senders) (hl : lotsB f f.lots.length = true) (hk : k < f.lots.length) : ((lotAt f.lots k).ins.length : Int) ≤ f.senders := by
  have hlk : lotsB f k = true := by
    cases h : lotsB f k with
    | true => rfl
    | false => rw [lotsB_false h (Nat.le_of_lt hk)] at hl; cases hl
  obtain ⟨p, hp⟩ := List.exists_mem_of_ne_nil _ (asg_ne h0 k hlk)
  have ha := asg_all h0 k hlk p hp
  obtain ⟨_, h2, h3, _⟩ := ins_in (lotsB_lot hl hk) ha
  have := nodup_len h3 h2
  rw [asg_len k p hp] at this
  omega

theorem many_at {f : Flow} {k m : Nat} (h : 5040 < (asgTo f (k + 1)).length) (hk : k < m) : manyTo f m = true := by
  induction m with
  | zero => omega
  | succ m ih =>
    simp only [manyTo, Bool.or_eq_true, decide_eq_true_eq]
    by_cases e : k = m
    · subst e; exact .inr h
    · exact .inl (ih (by omega))

/-- the first s numbers, and then nothing -/
def begL (n s : Nat) : List Int := (List.range s).map Int.ofNat ++ List.replicate (n - s) 0

theorem begL_len {n s : Nat} (h : s ≤ n) : (begL n s).length = n := by unfold begL; simp; omega

theorem begL_zero (n : Nat) : begL n 0 = List.replicate n 0 := by unfold begL; simp

theorem begL_set {n s : Nat} (h : s < n) : (begL n s).set s (s : Int) = begL n (s + 1) := by
  unfold begL
  rw [List.set_append_right _ _ (by simp), List.range_succ, List.map_append]
  simp only [List.length_map, List.length_range, Nat.sub_self]
  have : n - s = (n - (s + 1)) + 1 := by omega
  rw [this, List.replicate_succ, List.set_cons_zero]
  simp

end Go.Proofs.Ythekefnocphcdaa

set_option linter.unusedVariables false

set_option linter.unusedSimpArgs false

namespace Go.Proofs.Ythekefnocphcdaa

open Go.RowKit

theorem IsInts.form {B : Nat} {w : World} {v : Value} {xs : List Int} (h : IsInts B w v xs) : ∃ a c, v = .slice a xs.length c := by
  obtain ⟨_, _, c, ⟨a, e, _⟩, _⟩ := h; exact ⟨a, c, e⟩

theorem IsMat.cells {B : Nat} {w : World} {a : Option Addr} {n c : Nat} {rows : List (List Int)} (h : IsMat B w (.slice a n c) rows) (hp : 0 < rows.length) : ∃ b o, a = some ⟨b, o, none⟩ ∧ ∀ j, j < rows.length → ∃ r, CellB B w b (o + j) r ∧ IsInts B w r (rowAt rows j) := by
  obtain ⟨b, o, c', ⟨a', e, _, _, ha⟩, _, hc⟩ := h
  simp only [Value.slice.injEq] at e
  obtain ⟨rfl, _, _⟩ := e
  rcases ha with ha | ha
  · exact ⟨b, o, ha, hc⟩
  · omega

theorem OwnInts.zeros {C m : Nat} {w : World} (hC : C ≤ w.heap.size) (hm : m ≤ 1000000) : OwnInts C (w.alloc (.cells (List.replicate m (Value.int .i64 0)).toArray 3)) (.slice (some ⟨w.heap.size, 0, none⟩) m m) (List.replicate m 0) := by
  refine ⟨⟨by simp, Or.inr ⟨w.heap.size, m, _, by simp, hC, heap_alloc_new w _, by simp, by unfold maxLen; omega, by simp, ?_⟩⟩, by simp; omega, fun x hx => ?_⟩
  · simp [List.take_of_length_le]
  · rw [List.eq_of_mem_replicate hx]; unfold I64; omega

theorem wpList_make_ints {ops : Array Oper} {rest : List Oper} {o : Oper} {a : Act} {w : World} {Q : Exit → Act → World → Prop} (hgd : o.guard = none) (l c : Operand) (hop : o.op = Op.makeSlice 34 l c)
    {m C : Nat} (hl : a.eval l = .int .i64 (m : Int)) (hc : a.eval c = .int .i64 (m : Int)) (hm : m ≤ 100000) (hC : C ≤ w.heap.size)
    (h : ∀ w', OwnInts C w' (.slice (some ⟨w.heap.size, 0, none⟩) m m) (List.replicate m 0) → Below w.heap.size w w' → w'.heap.size = w.heap.size + 1 → wpList Try.prog ops Q rest (a.put o.dst (.slice (some ⟨w.heap.size, 0, none⟩) m m)) w') : wpList Try.prog ops Q (o :: rest) a w := by
  obtain ⟨i0, hi, hz0, hz1, hz2⟩ := info_parts int_info
  refine wpList_plain hgd fun K hK => ?_
  have hr := run_make (P := Try.prog) w 34 3 i0 (.int .i64 0) Try.underlying34 hi hz0 .i64 .i64 m m (by omega) (by omega) (by rw [hz2]; omega) (by omega)
  simp only [Int.toNat_natCast, hz1, Nat.mul_one] at hr
  have hmc : madeCells (Value.int .i64 0).cells m = (List.replicate m (Value.int .i64 0)).toArray := by
    apply Array.ext
    · simp [madeCells]
    · intro i h1 h2
      simp [madeCells, Value.cells, Nat.mod_one]
  unfold Oper.wp
  simp only [execOp, hop, hl, hc]
  simp [hr, Result.andThen]
  rw [hmc]
  exact hK _ _ (h _ (OwnInts.zeros hC (by omega)) (box_below' w _) (by simp))

end Go.Proofs.Ythekefnocphcdaa

set_option linter.unusedVariables false

set_option linter.unusedSimpArgs false

namespace Go.Proofs.Ythekefnocphcdaa

open Go.RowKit

set_option maxHeartbeats 2000000 in
set_option maxRecDepth 100000 in
/-- slices.Clone of what is not nil -/
theorem clone_any (B b off cap : Nat) (w : World) (xs : List Int) (hx : IsInts B w (.slice (some ⟨b, off, none⟩) xs.length cap) xs) (hB : B ≤ w.heap.size) :
    Calls Try.prog 49 #[.slice (some ⟨b, off, none⟩) xs.length cap] w fun e w' => ∃ v, e = .returned v ∧ OwnInts w.heap.size w' v xs ∧ Below w.heap.size w w' := by
  have HX := Lib.hid hx
  have HB := Lib.hid hB
  clear hx hB
  have hnil : (binOp .eql 34 (.slice (some ⟨b, off, none⟩) xs.length cap) (.slice none 0 0)).run Try.prog w = .ok (.bool false) w := Go.Lib.run_eql_slice_nil w _ _ _ _ _ _ _ Try.underlying34
  go_enter Try.func49, Try.ntmps49
  go_wp2_with (at_builtin; refine append_intsA (B := w.heap.size) (xs := []) rfl _ _ rfl xs rfl (OwnInts.made (Nat.le_refl _)) rfl ?a1 ?a2 ?a3 ?a4 ?a5)
  case a1 => exact (HX.out.below ((Below.refl B w).alloc HB.out _) (Nat.le_refl _)).src
  case a2 => obtain ⟨_, _, _, _, _, h, _⟩ := HX.out; exact h
  case a3 => obtain ⟨_, _, _, _, h, _⟩ := HX.out; simpa using h
  case a4 => simp
  case a5 =>
    intro v' w' h1 h2 h3
    have HO := Lib.hid h1
    have HG := Lib.hid h2
    clear h1 h2 h3
    go_wp2
    go_ret
    exact ⟨_, rfl, by simpa using HO.out, (box_below' w _).grown HG.out (by simp) (fun k hk => by simp [Value.ownBlock] at hk; omega)⟩

/-- the beginning of an array of eight numbers as a slice -/
theorem ints8 {w : World} {b n : Nat} {l : List Int} (h : Box w b (l.map (Value.int .i64)).toArray) (hl : l.length = 8) (hz : ∀ x ∈ l, I64 x) (hn : n ≤ 8) : IsInts w.heap.size w (.slice (some ⟨b, 0, none⟩) n 8) (l.take n) := by
  have hlen : (l.take n).length = n := by rw [List.length_take]; omega
  refine ⟨b, 0, 8, ⟨some ⟨b, 0, none⟩, by rw [hlen], by omega, by omega, Or.inl rfl⟩, by omega, fun x hx => hz x (List.mem_of_mem_take hx), fun j hj => ⟨h.1, ?_⟩⟩
  rw [h.2, Nat.zero_add, nth_lt hj]
  have hj' : j < l.length := by omega
  simp [hj']

set_option maxHeartbeats 2000000 in
set_option maxRecDepth 100000 in
/-- the closure of count.All that cuts an array -/
theorem cut_any (w : World) (k : K8) (bf : Nat) (vl : Value) (n : Nat) (hn : n ≤ 8) (hx : Box w bf #[.int .i64 (n : Int), vl]) :
    Calls Try.prog 48 #[enc8 k, .pointer (some ⟨bf, 0, none⟩)] w fun e w' => ∃ v, e = .returned v ∧ OwnInts w.heap.size w' v (k.1.take n) ∧ Below w.heap.size w w' := by
  obtain ⟨zx, rx⟩ := hx
  have r0 := rx 0
  simp only [List.getElem?_toArray, List.getElem?_cons_zero] at r0
  have hn9 : (n : Int) ≤ 8 := by omega
  clear rx
  have hk : enc8 k = .agg (k.1.map (Value.int .i64)).toArray := rfl
  rw [hk]
  have HKL := Lib.hid k.2.1
  have HKI := Lib.hid k.2.2
  obtain ⟨l, hl⟩ := k
  obtain ⟨arr, harr⟩ : ∃ arr, (l.map (Value.int .i64)).toArray = arr := ⟨_, rfl⟩
  simp only [harr]
  have HAR := Lib.hid harr
  clear harr hk
  have hlen : (l.take n).length = n := by have := HKL.out; rw [List.length_take]; omega
  have hcl := clone_any _ w.heap.size 0 8 (w.alloc (.cells arr 64)) (l.take n) (by rw [hlen]; exact ints8 (by rw [HAR.out]; exact Box.new w arr _) HKL.out HKI.out hn) (Nat.le_refl _)
  rw [hlen] at hcl
  have HCL := Lib.hid hcl
  clear hcl hlen hn HKL HKI hl
  go_enter Try.func48, Try.ntmps48
  go_wp2_with (go_at_call 49; refine HCL.out.mono ?_; rintro e w5 ⟨v, rfl, h1, h2⟩; have H1 := Lib.hid h1; have H2 := Lib.hid h2; clear h1 h2)
  go_ret
  exact ⟨_, rfl, H1.out.mono (by simp), (box_below' w _).trans (H2.out.mono (by simp))⟩

end Go.Proofs.Ythekefnocphcdaa

set_option linter.unusedVariables false

set_option linter.unusedSimpArgs false

namespace Go.Proofs.Ythekefnocphcdaa

open Go.RowKit Go.MapKept

section

variable {α : Type} {enc : α → Value} {P : Program} {w : World} {ops : Array Oper} {rest : List Oper} {o : Oper} {a : Act} {Q : Exit → Act → World → Prop}

theorem KIter.count {bm r : Nat} {l left : List (α × Value)} (h : KIter enc w bm r l left) : iterLeft w bm r = left.length := by
  obtain ⟨es, c, seen, c0, h1, h2, h3, h4, h5, h6⟩ := h
  unfold iterLeft
  rw [h1, h2]
  have := congrArg List.length h6
  simpa using this

theorem wpList_next_kdone {bm r : Nat} {l left : List (α × Value)} (hg : Region.wanted o (yielded ops a.tmps) = true) (it : Operand) (hop : o.op = Op.next it false) (hit : a.eval it = .pointer (some ⟨r, 0, none⟩)) (h : KIter enc w bm r l left) (hne : r ≠ bm) (he : left = [])
    (hk : wpList P ops Q rest (a.put o.dst (.tuple #[.bool false])) w) : wpList P ops Q (o :: rest) a w :=
  wpList_next_k hg it hop hit h hne (fun _ => hk) (fun A x v B w' e => by rw [he] at e; simp at e)

theorem wpList_next_kmore {bm r : Nat} {l left : List (α × Value)} (hg : Region.wanted o (yielded ops a.tmps) = true) (it : Operand) (hop : o.op = Op.next it false) (hit : a.eval it = .pointer (some ⟨r, 0, none⟩)) (h : KIter enc w bm r l left) (hne : r ≠ bm) (he : left ≠ [])
    (hk : ∀ (A : List (α × Value)) (x : α) (v : Value) (B : List (α × Value)) (w' : World), left = A ++ (x, v) :: B → KIter enc w' bm r l (A ++ B) → w.grownBy w' (some r) → w'.heap.size = w.heap.size →
      (Instr.entry (.pointer (some ⟨r, 0, none⟩))).run P w' = .ok (.tuple #[enc x, v]) w' → wpList P ops Q rest (a.put o.dst (.tuple #[.bool true, enc x, v])) w') : wpList P ops Q (o :: rest) a w :=
  wpList_next_k hg it hop hit h hne (fun e => absurd e he) hk

end

end Go.Proofs.Ythekefnocphcdaa

set_option linter.unusedVariables false

set_option linter.unusedSimpArgs false

namespace Go.Proofs.Ythekefnocphcdaa

open Go.RowKit

theorem OwnInts.iter {C r : Nat} {w w' : World} {v : Value} {xs : List Int} (h : OwnInts C w v xs) (hg : w.grownBy w' (some r)) (hr : ∀ c t f, w.heap[r]? ≠ some (.cells c t f)) : OwnInts C w' v xs := by
  refine h.kept hg ?_
  rcases h.1.2 with ⟨rfl, _⟩ | ⟨g, cap, cur, rfl, hb, hgc, _⟩
  · exact Or.inl rfl
  · right
    simp only [Value.ownBlock, ne_eq, Option.some.injEq]
    rintro rfl
    exact hr _ _ _ hgc

theorem OwnMat.iter {C r : Nat} {w w' : World} {v : Value} {rows : List (List Int)} (h : OwnMat C w v rows) (hg : w.grownBy w' (some r)) (hr : ∀ c t f, w.heap[r]? ≠ some (.cells c t f)) : OwnMat C w' v rows := by
  obtain ⟨vals, h1, h2, h3⟩ := h
  refine ⟨vals, h1.kept hg ?_, h2, fun j hj => (h3 j hj).iter hg hr⟩
  rcases h1.2 with ⟨rfl, _⟩ | ⟨g, cap, cur, rfl, hb, hgc, _⟩
  · exact Or.inl rfl
  · right
    simp only [Value.ownBlock, ne_eq, Option.some.injEq]
    rintro rfl
    exact hr _ _ _ hgc

theorem KIter.notCells {enc : K8 → Value} {w : World} {bm r : Nat} {l left : List (K8 × Value)} (h : KIter enc w bm r l left) : (∀ c t f, w.heap[r]? ≠ some (.cells c t f)) ∧ ∀ c t f, w.heap[bm]? ≠ some (.cells c t f) := by
  obtain ⟨es, c, seen, c0, a, b, _⟩ := h
  exact ⟨fun _ _ _ e => by (rw [b] at e; cases e), fun _ _ _ e => by (rw [a] at e; cases e)⟩

theorem OwnMat.notIn {C r : Nat} {w : World} {v : Value} {rows : List (List Int)} (h : OwnMat C w v rows) (hr : ∀ c t f, w.heap[r]? ≠ some (.cells c t f)) : v.ownBlock ≠ some r := by
  obtain ⟨vals, h1, _⟩ := h
  rcases h1.2 with ⟨rfl, _⟩ | ⟨g, cap, cur, rfl, hb, hgc, _⟩
  · simp [Value.ownBlock]
  · simp only [Value.ownBlock, ne_eq, Option.some.injEq]
    rintro rfl
    exact hr _ _ _ hgc

/-- what sorted has gathered -/
def GathRel (w : World) (bm ri n : Nat) (Ls : List (K8 × Value)) (v : Value) (wr : World) : Prop :=
  ∃ left rows, KIter enc8 wr bm ri Ls left ∧ OwnMat w.heap.size wr v rows ∧ (rows ++ left.map fun p => p.1.1.take n).Perm (Ls.map fun p => p.1.1.take n) ∧ Below w.heap.size w wr

set_option maxHeartbeats 4000000 in
set_option maxRecDepth 100000 in
theorem csorted_any (w : World) (bm bf n : Nat) (Ls : List (K8 × Value)) (vl : Value) (hn : n ≤ 8) (hm : KMap enc8 w bm Ls) (hx : Box w bf #[.int .i64 (n : Int), vl]) (hne : Ls ≠ []) (hlen : Ls.length ≤ 100000) :
    Calls Try.prog 47 #[.map (some bm), .func (.func 48) #[] #[.pointer (some ⟨bf, 0, none⟩)]] w fun e w' => ∃ v rows, e = .returned v ∧ OwnMat w.heap.size w' v rows ∧
      rows.Perm (Ls.map fun p => p.1.1.take n) ∧ rows.Pairwise (fun a b => ¬ cmpL b a < 0) ∧ Below w.heap.size w w' := by
  have HM := Lib.hid hm
  have HX := Lib.hid hx
  have HN := Lib.hid hn
  have HNE := Lib.hid hne
  have HLN := Lib.hid hlen
  have hbm := hm.lt
  clear hm hx hn hne hlen
  go_enter Try.func47, Try.ntmps47
  go_wp2_with (at_range; refine wpList_range_k rfl (.tmp 6) rfl Try.underlying65 rfl HM.out ?_; intro w9 hit9 hb9 hz9; have HIT9 := Lib.hid hit9; have HB9 := Lib.hid hb9; have HZ9 := Lib.hid hz9; clear hit9 hb9 hz9)
  have hne9 : w.heap.size ≠ bm := by omega
  have HR9 : Hid (GathRel w bm w.heap.size n Ls (.slice none 0 0) w9) := Lib.hid ⟨Ls, [], HIT9.out, OwnMat.nil _ _, by simp, HB9.out⟩
  go_simp
  go_loopw [4] (fun v W => GathRel w bm w.heap.size n Ls v W) (fun _ W => iterLeft W bm w.heap.size)
  case atStart => exact HR9.out
  case round =>
    obtain ⟨left, rows, hit, hown, hperm, hbl⟩ := hrel
    have HIT := Lib.hid hit
    have HLEFT := Lib.hid hit.count
    have HOWN := Lib.hid hown
    have HPERM := Lib.hid hperm
    have HBL := Lib.hid hbl
    have hrl : rows.length + left.length = Ls.length := by simpa using hperm.length_eq
    have HRL := Lib.hid hrl
    clear HR9 hit hperm hbl hrl
    obtain ⟨wA, rfl⟩ : ∃ W, W = wr := ⟨_, rfl⟩
    by_cases hlw : left = []
    · have HLW := Lib.hid hlw
      have hrn : rows ≠ [] := by
        intro e
        have h1 := HRL.out
        rw [e, hlw] at h1
        exact HNE.out (List.length_eq_zero_iff.1 (by simpa using h1.symm))
      have HSR := Lib.hid (sort_rows hown hrn)
      have HLT := Lib.hid (fun k hk => hown.choose_spec.1.lt k hk)
      clear hown hrn
      go_wp2_with (first
        | (at_next; refine wpList_next_kdone rfl (.tmp 7) rfl rfl HIT.out hne9 HLW.out ?_)
        | (go_at_call 86; refine HSR.out.mono ?_; rintro e w5 ⟨rfl, rows', h1, h2, h3, h4⟩; have H1 := Lib.hid h1; have H2 := Lib.hid h2; have H3 := Lib.hid h3; have H4 := Lib.hid h4; clear h1 h2 h3 h4))
      go_ret
      refine ⟨_, rfl, rows', H1.out, ?_, H3.out.imp (fun h => by omega), HBL.out.grown H4.out HBL.out.size (fun k hk => (HLT.out k hk).1)⟩
      have h := HPERM.out
      rw [HLW.out, List.map_nil, List.append_nil] at h
      exact H2.out.trans h
    · have HNN := Lib.hid hlw
      clear hown
      go_wp2_with (first
        | (at_next; refine wpList_next_kmore rfl (.tmp 7) rfl rfl HIT.out hne9 HNN.out ?_; intro A x v B w3 hlw2 hit3 hg3 hz3 hen; have HIT3 := Lib.hid hit3; have HG3 := Lib.hid hg3; have HLW2 := Lib.hid hlw2; have HZ3 := Lib.hid hz3; rw [enc8_arr8 x] at hen ⊢; obtain ⟨arr, harr⟩ : ∃ arr, arrN x.1 = arr := ⟨_, rfl⟩; have HAR := Lib.hid harr; have HX8 := Lib.hid x.2.1; have HRW := Lib.hid (Row8.new w3 x.2.1); have HB3 : Hid (Below w.heap.size w w3) := Lib.hid (HBL.out.grown hg3 HBL.out.size (fun j hj => by cases hj; exact Nat.le_refl _)); have HCUT := Lib.hid (cut_any (w3.alloc (.cells (arrN x.1) 64)) x bf vl n HN.out ((HX.out.below HB3.out HX.out.1).alloc _)); have HO3 := Lib.hid (HOWN.out.iter hg3 HIT.out.notCells.1); rw [enc8_arr8, harr] at HCUT; rw [harr] at hen HRW ⊢; clear hit3 hg3 hz3 hlw2 harr)
        | ((with_reducible refine wpList_store8 (.tmp 5) (.tmp 11) HX8.out ?_ ?_ ?_ ?_ ?_); rotate_left; rfl; rfl; rfl; (rw [HAR.out]; rfl); rw [HAR.out])
        | ((with_reducible refine wpList_load8 (.tmp 5) HRW.out ?_ ?_ ?_ ?_); rotate_left; rfl; rfl; rfl; rw [HAR.out])
        | (go_at_call 48; refine HCUT.out.mono ?_; rintro e w5 ⟨v5, rfl, ho5, hb5⟩; obtain ⟨a5, n5, c5, rfl⟩ := ho5.form'; have HO5 := Lib.hid ho5; have HB5 : Hid (Below w3.heap.size w3 w5) := Lib.hid ((box_below' w3 _).trans (hb5.mono (by simp))); clear ho5 hb5)
        | (at_builtin; refine append_row_at (B := w.heap.size) (xs := x.1.take n) (r := .slice a5 n5 c5) rfl (.tmp 12) (.tmp 16) rfl rfl ((HO3.out.below HB5.out).alloc _) rfl ?c1 ((HO5.out.mono ?c2).alloc _) ?c3 ?c4 ?c5))
      try (case c1 => exact World.cell?_alloc_at _ _ _ _ rfl)
      case c2 => have := HB3.out.size; simp; omega
      case c3 => have := HRL.out; have := HLN.out; omega
      case c4 => have := HB3.out.size; have := HB5.out.size; simp; omega
      case c5 =>
        intro v6 w6 ho6 hg6 hat6
        have HO6 := Lib.hid ho6
        have HB6 : Hid (Below w.heap.size w w6) := Lib.hid (((HB3.out.trans (HB5.out.mono HB3.out.size)).alloc (by have := HB3.out.size; have := HB5.out.size; omega) _).grown hg6 (by have := HB3.out.size; have := HB5.out.size; simp; omega) (fun q hq => by obtain ⟨vals, hv, _⟩ := HO3.out; exact (hv.lt q hq).1))
        have HI6 : Hid (KIter enc8 w6 bm w.heap.size Ls (A ++ B)) := Lib.hid (by
          have h1 := (HIT3.out.ext HB5.out).alloc (.cells #[Value.slice a5 n5 c5] 34)
          have h2 := (HO3.out.below HB5.out).alloc (.cells #[Value.slice a5 n5 c5] 34)
          exact h1.kept hg6 (fun e => h2.notIn h1.notCells.2 e.symm) (fun e => h2.notIn h1.notCells.1 e.symm))
        clear ho6 hg6 hat6
        go_wp2
        go_roundw
        case rel =>
          refine ⟨A ++ B, _, HI6.out, HO6.out, ?_, HB6.out⟩
          have h := HPERM.out
          rw [HLW2.out] at h
          refine List.Perm.trans ?_ h
          simp only [List.map_append, List.map_cons, List.append_assoc]
          refine List.Perm.append_left _ ?_
          rw [List.singleton_append]
          exact (List.perm_middle (a := x.1.take n)).symm
        case measure =>
          rw [HI6.out.count, HLEFT.out, HLW2.out]
          simp

end Go.Proofs.Ythekefnocphcdaa

set_option linter.unusedVariables false

set_option linter.unusedSimpArgs false

namespace Go.Proofs.Ythekefnocphcdaa

open Go.RowKit

def sortI (l : List Int) : List Int := l.mergeSort fun x y => decide (x ≤ y)

theorem sortI_perm (l : List Int) : (sortI l).Perm l := List.mergeSort_perm _ _

theorem sort_own {C : Nat} {w : World} {v : Value} {xs : List Int} (h : OwnInts C w v xs) :
    Calls Try.prog 45 #[v] w fun e w' => e = .returned (.tuple #[]) ∧ OwnInts C w' v (sortI xs) ∧ w.grownBy w' v.ownBlock := by
  have hlen : (sortI xs).length = xs.length := (sortI_perm xs).length_eq
  obtain ⟨⟨hl, h1⟩, h2, h3⟩ := h
  have h3' : ∀ x ∈ sortI xs, I64 x := fun x hx => h3 x ((sortI_perm xs).mem_iff.1 hx)
  rcases h1 with ⟨rfl, hn⟩ | ⟨g, cap, cur, rfl, hb, hg, hnc, hcm, hcs, htk⟩
  · refine (Try.slices_Sort_int_none none 0 w).mono ?_
    rintro e w' ⟨rfl, rfl⟩
    obtain rfl : xs = [] := List.length_eq_zero_iff.1 hn
    exact ⟨rfl, by rw [show sortI [] = [] from by unfold sortI; simp]; exact OwnInts.nil _ _, World.grownBy.refl _ _⟩
  · have hgl := (Array.getElem?_eq_some_iff.1 hg).1
    have hcell : ∀ j, j < xs.length → cur[j]? = some (.int .i64 (nth xs j)) := by
      intro j hj
      have : (cur.toList.take (xs.length * 1))[j]? = (xs.map (Value.int .i64))[j]? := by rw [htk]
      rw [List.getElem?_take, if_pos (by omega), List.getElem?_map, List.getElem?_eq_getElem hj] at this
      rw [nth_eq_getElem hj]
      simpa using this
    refine (Try.slices_Sort_int g 0 cap xs w (fun j hj => ?_) hgl (by unfold maxLen at hcm; omega)).mono ?_
    · have hj' : j < xs.length := by simpa using hj
      refine ⟨?_, by simp [World.frozen?, hg]⟩
      simp only [World.cell?, hg, Nat.zero_add]
      rw [hcell j hj', nth_eq_getElem hj']
      simp [hj']
    · rintro e w' ⟨rfl, n, os, rfl⟩
      obtain ⟨ds, hds⟩ : ∃ ds, sortI xs = ds := ⟨_, rfl⟩
      rw [show (xs.mergeSort fun x y => decide (x ≤ y)) = ds from hds]
      rw [hds] at hlen h3' ⊢
      have hblk : (Go.Sort.grow (Go.Sort.putRow (Value.int .i64) (Go.Sort.ahead w n) g 0 ds.toArray) os).heap[g]? = some (.cells (Go.Sort.putCells (Value.int .i64) 0 ds.toArray cur) 3 (0, 0)) := by
        unfold Go.Sort.grow Go.Sort.putRow Go.Sort.mapBlock
        show ((w.heap.modify g _) ++ os)[g]? = _
        rw [Array.getElem?_append_left (by simpa using hgl), Array.getElem?_modify, if_pos rfl, hg]
        rfl
      have hoth : ∀ k, k < w.heap.size → k ≠ g → (Go.Sort.grow (Go.Sort.putRow (Value.int .i64) (Go.Sort.ahead w n) g 0 ds.toArray) os).heap[k]? = w.heap[k]? := by
        intro k hk hne
        unfold Go.Sort.grow Go.Sort.putRow Go.Sort.mapBlock
        show ((w.heap.modify g _) ++ os)[k]? = _
        rw [Array.getElem?_append_left (by simpa using hk), Array.getElem?_modify, if_neg (fun e => hne e.symm)]
      refine ⟨rfl, ⟨⟨by simp, Or.inr ⟨g, cap, _, by rw [hlen], hb, hblk, by omega, hcm, ?_, ?_⟩⟩, by omega, h3'⟩, ⟨rfl, rfl, rfl, ?_, fun k hk hne => hoth k hk (fun e => hne (by rw [e]; rfl))⟩⟩
      · unfold Go.Sort.putCells
        simpa using hcs
      · apply List.ext_getElem?
        intro i
        rw [List.getElem?_take, List.getElem?_map]
        by_cases hi : i < ds.length
        · rw [if_pos (by omega), List.getElem?_eq_getElem hi]
          unfold Go.Sort.putCells
          have hic : i < cur.size := by omega
          simp [hic, hi]
        · rw [if_neg (by omega), List.getElem?_eq_none (by omega)]
          rfl
      · unfold Go.Sort.grow Go.Sort.putRow Go.Sort.mapBlock
        show w.heap.size ≤ ((w.heap.modify g _) ++ os).size
        simp

end Go.Proofs.Ythekefnocphcdaa

set_option linter.unusedVariables false

set_option linter.unusedSimpArgs false

namespace Go.Proofs.Ythekefnocphcdaa

open Go.RowKit

section

variable {F : Fence} {n : Nat} {P : Program} {ops : Array Oper} {Q : Exit → Act → World → Prop}

def InvStepIn (F : Fence) (n : Nat) (P : Program) (ops : Array Oper) (Q : Exit → Act → World → Prop) (I : (Nat → Bool) → Act → World → Prop) (i : Nat) (o : Oper) : Prop :=
  ∀ (L : Nat → Bool) (a : Act) (w : World), L i = false → allOn L (depsOf o) → I L a w →
    ∀ K : Act → World → Prop, Shut (∀ a' w', I (upd L i) a' w' → K a' w') → if Region.wanted o (yielded ops a.tmps) = true then Oper.wpIn F n P o a w K Q else (∀ f, o.about P w a.eval = some f → F.fn f) ∧ K (a.put o.dst undef) w

def InvStepsIn (F : Fence) (n : Nat) (P : Program) (ops : Array Oper) (Q : Exit → Act → World → Prop) (I : (Nat → Bool) → Act → World → Prop) : Nat → List Oper → Prop
  | _, [] => True
  | k, o :: r => InvStepIn F n P ops Q I k o ∧ InvStepsIn F n P ops Q I (k + 1) r

theorem InvStepsIn.at {I : (Nat → Bool) → Act → World → Prop} : ∀ {l : List Oper} {k : Nat}, InvStepsIn F n P ops Q I k l → ∀ {i : Nat} {o : Oper}, l[i]? = some o → InvStepIn F n P ops Q I (k + i) o
  | [], _, _, i, o, ho => by simp at ho
  | o' :: r, k, h, 0, o, ho => by
    simp at ho
    subst ho
    exact h.1
  | o' :: r, k, h, i + 1, o, ho => by
    have := InvStepsIn.at h.2 (i := i) (o := o) (by simpa using ho)
    rw [show k + (i + 1) = k + 1 + i by omega]
    exact this

theorem wpAnyIn_inv {l : List Oper} (hb : backB 0 l = true) {I : (Nat → Bool) → Act → World → Prop} (hs : InvStepsIn F n P l.toArray Q I 0 l)
    (he : ∀ (L : Nat → Bool) a w, (∀ i, i < l.length → L i = true) → I L a w → Q .normal a w) :
    ∀ (fuel : Nat) (listed : Array Bool) (a : Act) (w : World), listed.size = l.length → leftN (fun j => listed.getD j false) l.length ≤ fuel → I (fun j => listed.getD j false) a w →
      wpAnyIn F n P .any l.toArray Q fuel listed a w := by
  have hfull : ∀ (listed : Array Bool), listed.size = l.length → Region.ready .any l.toArray listed = [] → ∀ n, n ≤ l.length → ∀ i, i < n → listed.getD i false = true := by
    intro listed hz hr n
    induction n with
    | zero => intro _ i hi; omega
    | succ n ih =>
      intro hn i hi
      rcases Nat.lt_or_ge i n with h1 | h1
      · exact ih (by omega) i h1
      · obtain rfl : i = n := by omega
        by_cases hh : listed.getD i false = true
        · exact hh
        · exfalso
          have hmem : i ∈ Region.ready .any l.toArray listed := by
            unfold Region.ready
            refine List.mem_filter.2 ⟨by simp; omega, ?_⟩
            have e1 : listed.getD i true = false := by
              have : i < listed.size := by omega
              simp [Array.getD_eq_getD_getElem?, this] at hh ⊢
              exact hh
            have hlt : i < l.length := by omega
            have e2 : l.toArray[i]? = some l[i] := by simp
            rw [e1, e2]
            simp only [Bool.not_false, Bool.true_and, Option.map_some, Option.getD_some]
            rw [Array.all_eq_true_iff_forall_mem]
            intro e hme
            by_cases hbd : Region.binds .any e = true
            · have : e.on ∈ depsOf l[i] := List.mem_map.2 ⟨e, List.mem_filter.2 ⟨by simpa using hme, hbd⟩, rfl⟩
              have h2 := backB_at hb (i := i) (o := l[i]) (by simp) _ this
              simp [ih (by omega) e.on (by omega)]
            · simp [hbd]
          rw [hr] at hmem
          cases hmem
  intro fuel
  induction fuel with
  | zero =>
    intro listed a w hz hl hI
    have hall := leftN_zero _ (Nat.le_zero.1 hl)
    refine ⟨?_, he _ a w hall hI⟩
    refine List.eq_nil_iff_forall_not_mem.2 fun i hi => ?_
    unfold Region.ready at hi
    obtain ⟨h1, h2⟩ := List.mem_filter.1 hi
    have hlt : i < l.length := by simpa using h1
    have h3 := hall i hlt
    have : i < listed.size := by omega
    simp [Array.getD_eq_getD_getElem?, this] at h3 h2
    rw [h3] at h2
    exact absurd h2.1 (by simp)
  | succ fuel ih =>
    intro listed a w hz hl hI
    refine ⟨fun hr => he _ a w (hfull listed hz hr l.length (Nat.le_refl _)) hI, fun i hi => ?_⟩
    have hi' := hi
    unfold Region.ready at hi'
    obtain ⟨h1, h2⟩ := List.mem_filter.1 hi'
    have hlt : i < l.length := by simpa using h1
    have hlz : i < listed.size := by omega
    have e2 : l.toArray[i]? = some l[i] := by simp
    rw [e2] at h2
    simp only [Option.map_some, Option.getD_some, Bool.and_eq_true] at h2
    have hL : listed.getD i false = false := by
      have := h2.1
      simp [Array.getD_eq_getD_getElem?, hlz] at this ⊢
      exact this
    have hdeps : allOn (fun j => listed.getD j false) (depsOf l[i]) := allOn_mem fun d hd => by
      obtain ⟨e, he1, rfl⟩ := List.mem_map.1 hd
      obtain ⟨he2, he3⟩ := List.mem_filter.1 he1
      have := (Array.all_eq_true_iff_forall_mem.1 h2.2) e (by simpa using he2)
      simpa [he3] using this
    have hstep := InvStepsIn.at hs (i := i) (o := l[i]) (by simp)
    rw [Nat.zero_add] at hstep
    refine wpOpIn_step e2 fun K' hK => ?_
    refine hstep _ a w hL hdeps hI K' ?_
    intro a' w' hI'
    refine hK a' w' (ih _ a' w' (by simp [hz]) ?_ ?_)
    · rw [upd_listed hlz]
      have := leftN_upd (L := fun j => listed.getD j false) hL l.length hlt
      omega
    · rw [upd_listed hlz]; exact hI'

/-- a region whose order is drawn, by an invariant -/
theorem wpIn_region_inv {id : Nat} {l : List Oper} {a : Act} {w : World} (I : Act → (Nat → Bool) → Act → World → Prop) (hm : P.follows .mixedOrders = true) (hb : backB 0 l = true)
    (h0 : I a (fun _ => false) a w.drew) (hs : InvStepsIn F n P l.toArray Q (I a) 0 l) (he : ∀ (L : Nat → Bool) a' w', (∀ i, i < l.length → L i = true) → I a L a' w' → Q .normal a' w') : (Code.region id l.toArray true).wpIn F n P Q a w := by
  refine wpIn_region_any hm ?_
  have hfun : (fun j => (Array.replicate l.toArray.size false).getD j false) = fun _ => false := by
    funext j
    simp [Array.getD_eq_getD_getElem?, Array.getElem?_replicate]
    by_cases h : j < l.length <;> simp [h]
  have hle : ∀ n, leftN (fun _ => false) n ≤ n := by
    intro n
    induction n with
    | zero => simp [leftN]
    | succ n ih => simp [leftN]; exact ih
  refine wpAnyIn_inv hb hs he _ _ _ _ (by simp) ?_ ?_
  · rw [hfun]; simpa using hle l.length
  · rw [hfun]; exact h0

end

section

variable {F : Fence} {n : Nat} {P : Program} {ops : Array Oper} {Q : Exit → Act → World → Prop}

def VStepIn (F : Fence) (n : Nat) (P : Program) (ops : Array Oper) (Q : Exit → Act → World → Prop) (ds : List (Option Nat)) (a0 : Act) (J : (Nat → Bool) → World → (Nat → Value) → Prop) (i : Nat) (o : Oper) : Prop :=
  ∀ (L : Nat → Bool) (a' : Act) (w' : World) (xs : Nat → Value), L i = false → allOn L (depsOf o) → FrameV a0 ds L xs a' → J L w' xs →
    ∀ K : Act → World → Prop, Shut (∀ v w'', J (upd L i) w'' (updV xs i v) → K (a'.put o.dst v) w'') → if Region.wanted o (yielded ops a'.tmps) = true then Oper.wpIn F n P o a' w' K Q else (∀ f, o.about P w' a'.eval = some f → F.fn f) ∧ K (a'.put o.dst undef) w'

def VStepsIn (F : Fence) (n : Nat) (P : Program) (ops : Array Oper) (Q : Exit → Act → World → Prop) (ds : List (Option Nat)) (a0 : Act) (J : (Nat → Bool) → World → (Nat → Value) → Prop) : Nat → List Oper → Prop
  | _, [] => True
  | k, o :: r => VStepIn F n P ops Q ds a0 J k o ∧ VStepsIn F n P ops Q ds a0 J (k + 1) r

theorem VStepsIn.inv {ds : List (Option Nat)} {a0 : Act} {J : (Nat → Bool) → World → (Nat → Value) → Prop} (hi : dsInj ds = true) (hn : dsBd a0.tmps.size ds = true) : ∀ {l : List Oper} {k : Nat}, (∀ i o, l[i]? = some o → ds[k + i]? = some o.dst) → VStepsIn F n P ops Q ds a0 J k l →
    InvStepsIn F n P ops Q (fun L a' w' => ∃ xs, FrameV a0 ds L xs a' ∧ J L w' xs) k l
  | [], _, _, _ => trivial
  | o :: r, k, hd, h => by
    refine ⟨?_, VStepsIn.inv hi hn (fun i o' ho => ?_) h.2⟩
    · intro L a' w' hL hdep hI K hK
      obtain ⟨xs, hf, hJ⟩ := hI
      exact h.1 L a' w' xs hL hdep hf hJ K (show ∀ v w'', J (upd L k) w'' (updV xs k v) → K (a'.put o.dst v) w'' from fun v w'' hJ' => hK.out _ _ ⟨_, hf.put hi hn (by simpa using hd 0 o rfl) v, hJ'⟩)
    · have := hd (i + 1) o' (by simpa using ho)
      rw [show k + 1 + i = k + (i + 1) by omega]
      exact this

/-- a region whose order is drawn, by what its slots hold -/
theorem wpIn_region_V {id : Nat} {l : List Oper} {a : Act} {w : World} (ds : List (Option Nat)) (J : (Nat → Bool) → World → (Nat → Value) → Prop) (hm : P.follows .mixedOrders = true) (hb : backB 0 l = true) (hds : l.map (·.dst) = ds) (hi : dsInj ds = true) (hn : dsBd a.tmps.size ds = true)
    (h0 : ∀ xs, J (fun _ => false) w.drew xs) (hs : VStepsIn F n P l.toArray Q ds a J 0 l) (he : ∀ (L : Nat → Bool) w' xs, (∀ i, i < ds.length → L i = true) → J L w' xs → Q .normal (putGo xs 0 ds a) w') : (Code.region id l.toArray true).wpIn F n P Q a w := by
  have hlen : ds.length = l.length := by rw [← hds]; simp
  refine wpIn_region_inv (fun a0 L a' w' => ∃ xs, FrameV a0 ds L xs a' ∧ J L w' xs) hm hb ⟨fun _ => undef, FrameV.start _ _ _, h0 _⟩ (VStepsIn.inv hi hn (fun i o ho => ?_) hs) ?_
  · rw [← hds, Nat.zero_add, List.getElem?_map, ho]; rfl
  · rintro L a' w' hL ⟨xs, hf, hJ⟩
    rw [hf.final hi hn (fun i h => hL i (by omega))]
    exact he L w' xs (fun i h => hL i (by omega)) hJ

end

end Go.Proofs.Ythekefnocphcdaa

set_option linter.unusedVariables false

set_option linter.unusedSimpArgs false

namespace Go.Proofs.Ythekefnocphcdaa

open Go.RowKit Go.Maps

section

variable {F : Fence} {nF : Nat} {ops : Array Oper} {rest : List Oper} {o : Oper} {a : Act} {w : World} {Q : Exit → Act → World → Prop}

theorem wpListIn_load8 (x : Operand) {b : Nat} {l : List Int} (h : Row8 w b l) (hk : wpListIn F nF Try.prog ops Q rest (a.put o.dst (.agg (arrN l))) w) (hgd : o.guard = none) (ho : o.op = .load 64 x) (hx : a.eval x = .pointer (some ⟨b, 0, none⟩)) :
    wpListIn F nF Try.prog ops Q (o :: rest) a w := by
  refine wpListIn_plain hgd fun K hK => ?_
  have hr := run_loadVar_row (P := Try.prog) w b 64 64 (arrN l) (0, 0) _ h.1 Try.underlying64 rfl (by rw [arrN_size, h.2]; kernel_rfl)
  unfold Oper.wpIn
  refine ⟨by simp [Oper.about, ho], ?_⟩
  rw [Oper.semAt_plain F _ _ (by rw [ho]; intro c hc'; cases hc')]
  unfold execOp
  simp only [ho, hx, Instr.loadAt, Instr.sureAddr, Sem.run_bind, Sem.run_pure, Result.andThen_ok, hr]
  exact hK _ _ hk

theorem wpListIn_store8 (p v : Operand) {l : List Int} (hl : l.length = 8) (hk : wpListIn F nF Try.prog ops Q rest (a.put o.dst undef) (w.alloc (.cells (arrN l) 64))) (hgd : o.guard = none) (ho : o.op = .store 64 p v) (hp : a.eval p = .pointer (some ⟨w.heap.size, 0, none⟩)) (hv : a.eval v = .agg (arrN l)) :
    wpListIn F nF Try.prog ops Q (o :: rest) a (w.alloc (.cells #[.int .i64 0, .int .i64 0, .int .i64 0, .int .i64 0, .int .i64 0, .int .i64 0, .int .i64 0, .int .i64 0] 64)) := by
  refine wpListIn_plain hgd fun K hK => ?_
  have hr := run_storeAt_new (P := Try.prog) w 64 #[.int .i64 0, .int .i64 0, .int .i64 0, .int .i64 0, .int .i64 0, .int .i64 0, .int .i64 0, .int .i64 0] (arrN l) (by rw [info8, arrN_size, hl]) (by rw [arrN_size, hl]; rfl) (arrN_one l)
  unfold Oper.wpIn
  refine ⟨by simp [Oper.about, ho], ?_⟩
  rw [Oper.semAt_plain F _ _ (by rw [ho]; intro c hc'; cases hc')]
  simp only [execOp, ho, hp, hv]
  simp [hr, Result.andThen]
  exact hK _ _ hk

theorem wpListIn_update_k {α : Type} {enc : α → Value} {P : Program} {T K E : TypeId} {r : Nat} {l : List (α × Value)} [DecidableEq α] (C : KeyEnc P K enc) (hg : Region.wanted o (yielded ops a.tmps) = true) (m xo vo : Operand) (hop : o.op = Op.mapUpdate T m xo vo)
    (hT : P.underlying T = some (.map K E)) (hm : a.eval m = .map (some r)) (h : KMap enc w r l) {x : α} {v : Value} (hx : a.eval xo = enc x) (hv : a.eval vo = v)
    (hk : ∀ w', KMap enc w' r (kset l x v) → w.grownBy w' (some r) → w'.heap.size = w.heap.size → wpListIn F nF P ops Q rest (a.put o.dst undef) w') : wpListIn F nF P ops Q (o :: rest) a w := by
  refine wpListIn_want hg fun K' hK' => ?_
  obtain ⟨w', hrun, h1, h2, h3⟩ := run_update_k C hT h x v
  unfold Oper.wpIn
  refine ⟨by simp [Oper.about, hop], ?_⟩
  rw [Oper.semAt_plain F _ _ (by rw [hop]; intro c hc'; cases hc')]
  simp only [execOp, hop, hm, hx, hv]
  simp [hrun, Result.andThen]
  exact hK' _ _ (hk w' h1 h2 h3)

end

def keys8 (S : List K8) : List (K8 × Value) := S.map fun κ => (κ, Value.bool true)

def addK (S : List K8) (x : K8) : List K8 := if x ∈ S then S else S ++ [x]

theorem mem_addK {S : List K8} {x y : K8} : y ∈ addK S x ↔ y = x ∨ y ∈ S := by
  unfold addK
  split
  · rename_i h
    constructor
    · exact .inr
    · rintro (rfl | h')
      · exact h
      · exact h'
  · simp [or_comm]

theorem keys8_keys (S : List K8) : (keys8 S).map (·.1) = S := by
  unfold keys8
  rw [List.map_map]
  conv => rhs; rw [← List.map_id S]
  rfl

theorem keys8_len (S : List K8) : (keys8 S).length = S.length := by unfold keys8; simp

theorem kset_keys8 : ∀ (S : List K8) (x : K8), kset (keys8 S) x (.bool true) = keys8 (addK S x)
  | [], x => rfl
  | κ :: S, x => by
    have ih := kset_keys8 S x
    unfold keys8 addK at ih ⊢
    simp only [List.map_cons, kset]
    by_cases h : κ = x
    · subst h; simp
    · rw [if_neg h, ih]
      have h' : ¬ x = κ := fun e => h e.symm
      by_cases hm : x ∈ S
      · simp [hm]
      · simp [hm, h']

theorem klook_keys8 : ∀ (S : List K8) (x : K8), (klook (keys8 S) x).getD (.bool false) = .bool (decide (x ∈ S))
  | [], x => rfl
  | κ :: S, x => by
    have ih := klook_keys8 S x
    unfold keys8 at ih ⊢
    simp only [List.map_cons, klook]
    by_cases h : κ = x
    · subst h; simp
    · rw [if_neg h, ih]
      have h' : ¬ x = κ := fun e => h e.symm
      simp [h']

theorem keys8_nodup {w : World} {b : Nat} {S : List K8} (h : KMap enc8 w b (keys8 S)) : S.Nodup := by
  have := h.nodup encK8
  rwa [keys8_keys] at this

end Go.Proofs.Ythekefnocphcdaa

set_option linter.unusedVariables false

set_option linter.unusedSimpArgs false

namespace Go.Proofs.Ythekefnocphcdaa

theorem pad8_ex {p : List Int} (hl : p.length ≤ 8) (hz : ∀ x ∈ p, 0 ≤ x ∧ x ≤ 1000000) : ∃ y : K8, y.1 = padL p :=
  ⟨⟨padL p, padL_len hl, fun x hx => by rcases padL_mem hx with h | h; have := hz x h; unfold I64; omega; rw [h]; unfold I64; omega⟩, rfl⟩

/-- the arrays of a list of states -/
def Shows (N : List K8) (L : List (List Int)) : Prop := ∀ y : K8, y ∈ N ↔ ∃ x ∈ L, y.1 = padL x

theorem nodup_val {N : List K8} (h : N.Nodup) : (N.map fun y => y.1).Nodup := List.pairwise_map.2 (h.imp fun {a b} hne e => hne (Subtype.ext e))

theorem shows_le {N : List K8} {L : List (List Int)} {n : Nat} (hN : N.Nodup) (hs : ∀ y ∈ N, ∃ x ∈ L, y.1 = padL x) : N.length ≤ L.length := by
  have h := nodup_lenG (l := N.map fun y => y.1) (m := L.map padL) (nodup_val hN) (fun v hv => by
    obtain ⟨y, hy, rfl⟩ := List.mem_map.1 hv
    obtain ⟨x, hx, e⟩ := hs y hy
    exact List.mem_map.2 ⟨x, hx, e.symm⟩)
  simpa using h

theorem shows_ge {N : List K8} {L : List (List Int)} {n : Nat} (hL : L.Nodup) (hlen : ∀ x ∈ L, x.length = n) (hs : ∀ x ∈ L, ∃ y ∈ N, y.1 = padL x) : L.length ≤ N.length := by
  have hn : (L.map padL).Nodup := List.pairwise_map.2 (hL.imp_of_mem fun {a b} ha hb hne e => hne (padL_inj e (by rw [hlen a ha, hlen b hb])))
  have h := nodup_lenG (l := L.map padL) (m := N.map fun y => y.1) hn (fun v hv => by
    obtain ⟨x, hx, rfl⟩ := List.mem_map.1 hv
    obtain ⟨y, hy, e⟩ := hs x hx
    exact List.mem_map.2 ⟨y, hy, e⟩)
  simpa using h

/-- what the loop over the states holds: what is left, the next states, the ones met -/
structure StP (f : Flow) (k : Nat) (Kl N M : List K8) : Prop where
  left : ∀ κ ∈ Kl, ∃ p ∈ asgTo f k, κ.1 = padL p
  nd : Kl.Nodup
  next : ∀ y : K8, y ∈ N ↔ ∃ p ∈ asgTo f k, (∀ κ ∈ Kl, κ.1 ≠ padL p) ∧ ∃ x ∈ outsL f k p, y.1 = padL x
  met : ∀ z ∈ M, ∃ p ∈ asgTo f k, (∀ κ ∈ Kl, κ.1 ≠ padL p) ∧ ∃ s : List Int, s.Perm (ofL p (lotAt f.lots k).ins) ∧ z.1 = padL (putsL (beforeI f k) s (idL (lotAt f.lots k).ins.length) p)

variable {f : Flow} {k : Nat} {N M N' M' A B : List K8} {κ : K8} {p : List Int}

theorem StP.start {S : List K8} (hS : Shows S (asgTo f k)) (hn : S.Nodup) (hex : ∀ p ∈ asgTo f k, ∃ y : K8, y.1 = padL p) : StP f k S [] [] := by
  refine ⟨fun κ hκ => (hS κ).1 hκ, hn, fun y => ⟨fun h => (by cases h), ?_⟩, fun z hz => by cases hz⟩
  rintro ⟨p, hp, hno, _⟩
  obtain ⟨y, hy⟩ := hex p hp
  exact absurd hy (hno y ((hS y).2 ⟨p, hp, hy⟩))

theorem StP.apart (h : StP f k (A ++ κ :: B) N M) (hκ : κ.1 = padL p) : ∀ κ' ∈ A ++ B, κ'.1 ≠ padL p := by
  intro κ' h' e
  have e2 : κ' = κ := Subtype.ext (e.trans hκ.symm)
  subst e2
  have := (List.perm_middle (a := κ') (l₁ := A) (l₂ := B)).nodup_iff.1 h.nd
  exact (List.nodup_cons.1 this).1 h'

theorem StP.lose (h : StP f k (A ++ κ :: B) N M) : (∀ κ' ∈ A ++ B, ∃ p ∈ asgTo f k, κ'.1 = padL p) ∧ (A ++ B).Nodup := by
  refine ⟨fun κ' h' => h.left κ' ?_, ?_⟩
  · rcases List.mem_append.1 h' with h' | h'
    · exact List.mem_append_left _ h'
    · exact List.mem_append_right _ (List.mem_cons_of_mem _ h')
  · have := (List.perm_middle (a := κ) (l₁ := A) (l₂ := B)).nodup_iff.1 h.nd
    exact (List.nodup_cons.1 this).2

theorem StP.still {p' : List Int} (hno : ∀ κ' ∈ A ++ κ :: B, κ'.1 ≠ padL p') : ∀ κ' ∈ A ++ B, κ'.1 ≠ padL p' := fun κ' h' => hno κ' (by
  rcases List.mem_append.1 h' with h' | h'
  · exact List.mem_append_left _ h'
  · exact List.mem_append_right _ (List.mem_cons_of_mem _ h'))

theorem StP.more {p' : List Int} (hno : ∀ κ' ∈ A ++ B, κ'.1 ≠ padL p') (hκ : κ.1 ≠ padL p') : ∀ κ' ∈ A ++ κ :: B, κ'.1 ≠ padL p' := fun κ' h' => by
  rcases List.mem_append.1 h' with h' | h'
  · exact hno κ' (List.mem_append_left _ h')
  · rcases List.mem_cons.1 h' with rfl | h'
    · exact hκ
    · exact hno κ' (List.mem_append_right _ h')

/-- a state and all that it leads to -/
theorem StP.full (h : StP f k (A ++ κ :: B) N M) (hκ : κ.1 = padL p) (hp : p ∈ asgTo f k) (hN : ∀ y : K8, y ∈ N' ↔ y ∈ N ∨ ∃ x ∈ outsL f k p, y.1 = padL x)
    (hM : ∀ z ∈ M', z ∈ M ∨ ∃ s : List Int, s.Perm (ofL p (lotAt f.lots k).ins) ∧ z.1 = padL (putsL (beforeI f k) s (idL (lotAt f.lots k).ins.length) p)) : StP f k (A ++ B) N' M' := by
  have hap := h.apart hκ
  refine ⟨h.lose.1, h.lose.2, fun y => ?_, fun z hz => ?_⟩
  · rw [hN y, h.next y]
    constructor
    · rintro (⟨p', h1, h2, h3⟩ | ⟨x, hx, e⟩)
      · exact ⟨p', h1, StP.still h2, h3⟩
      · exact ⟨p, hp, hap, x, hx, e⟩
    · rintro ⟨p', h1, h2, h3⟩
      by_cases e : κ.1 = padL p'
      · have : p = p' := padL_inj (hκ.symm.trans e) (by rw [asg_len k p hp, asg_len k p' h1])
        subst this
        exact .inr h3
      · exact .inl ⟨p', h1, StP.more h2 e, h3⟩
  · rcases hM z hz with hz | hz
    · obtain ⟨p', h1, h2, h3⟩ := h.met z hz
      exact ⟨p', h1, StP.still h2, h3⟩
    · exact ⟨p, hp, hap, hz⟩

/-- a state that leads to what has come already -/
theorem StP.skip (h0 : 0 ≤ f.senders) (hl : lotsB f f.lots.length = true) (hk : k < f.lots.length) (h : StP f k (A ++ κ :: B) N M) (hκ : κ.1 = padL p) (hp : p ∈ asgTo f k) (hu : (lotAt f.lots k).known = false) {z : K8} (hz : z ∈ M) {s : List Int}
    (hs : s.Perm (ofL p (lotAt f.lots k).ins)) (he : z.1 = padL (putsL (beforeI f k) s (idL (lotAt f.lots k).ins.length) p)) : StP f k (A ++ B) N M := by
  have hlk : lotsB f k = true := by
    cases h : lotsB f k with
    | true => rfl
    | false => rw [lotsB_false h (Nat.le_of_lt hk)] at hl; cases hl
  obtain ⟨p2, g1, g2, s2, g3, g4⟩ := h.met z hz
  have hlen : (putsL (beforeI f k) s (idL (lotAt f.lots k).ins.length) p).length = (putsL (beforeI f k) s2 (idL (lotAt f.lots k).ins.length) p2).length := by rw [putsL_len, putsL_len, asg_len k p hp, asg_len k p2 g1]
  have hsame := outs_same (lotsB_lot hl hk) (asg_all h0 k hlk p hp) (asg_all h0 k hlk p2 g1) hu hs g3 (padL_inj (he.symm.trans g4) hlen)
  have hN : ∀ y : K8, y ∈ N ↔ y ∈ N ∨ ∃ x ∈ outsL f k p, y.1 = padL x := fun y => by
    constructor
    · exact .inl
    · rintro (h' | ⟨x, hx, e⟩)
      · exact h'
      · exact (h.next y).2 ⟨p2, g1, g2, x, (hsame x).1 hx, e⟩
  exact h.full hκ hp hN (fun z hz => .inl hz)

theorem StP.done (h : StP f k [] N M) : Shows N (asgTo f (k + 1)) := by
  intro y
  rw [h.next y]
  constructor
  · rintro ⟨p, hp, _, x, hx, e⟩
    obtain ⟨π, hπ, rfl⟩ := List.mem_map.1 hx
    exact ⟨_, mem_asgTo.2 ⟨p, hp, π, hπ, rfl⟩, e⟩
  · rintro ⟨x, hx, e⟩
    obtain ⟨p, hp, π, hπ, rfl⟩ := mem_asgTo.1 hx
    exact ⟨p, hp, (fun κ hκ => by cases hκ), _, List.mem_map.2 ⟨π, hπ, rfl⟩, e⟩

theorem StP.le {Kl : List K8} (h : StP f k Kl N M) (hN : N.Nodup) : N.length ≤ (asgTo f (k + 1)).length := by
  refine shows_le (n := 0) hN fun y hy => ?_
  obtain ⟨p, hp, _, x, hx, e⟩ := (h.next y).1 hy
  obtain ⟨π, hπ, rfl⟩ := List.mem_map.1 hx
  exact ⟨_, mem_asgTo.2 ⟨p, hp, π, hπ, rfl⟩, e⟩

theorem shows_len {S : List K8} {m : Nat} (hS : Shows S (asgTo f m)) (hn : S.Nodup) (hex : ∀ p ∈ asgTo f m, ∃ y : K8, y.1 = padL p) : S.length = (asgTo f m).length := by
  refine Nat.le_antisymm (shows_le (n := 0) hn fun y hy => (hS y).1 hy) (shows_ge (n := f.senders.toNat) (srt_nodup (asg_srt m)) (fun x hx => asg_len m x hx) fun x hx => ?_)
  obtain ⟨y, hy⟩ := hex x hx
  exact ⟨y, (hS y).2 ⟨x, hx, hy⟩, hy⟩

theorem asg_vals {m : Nat} (h0 : 0 ≤ f.senders) (h8 : f.senders ≤ 8) (hl : lotsB f m = true) (hb : beforeI f m ≤ 50000) : ∀ p ∈ asgTo f m, ∃ y : K8, y.1 = padL p := by
  intro p hp
  refine pad8_ex (by rw [asg_len m p hp]; omega) fun x hx => ?_
  have := ((asg_all h0 m hl p hp).2 x).1 hx
  omega

/-- in the end: what sorted returns are the assignments, in order -/
theorem shows_sorted {S : List K8} {m n : Nat} (hn : f.senders.toNat = n) (hS : Shows S (asgTo f m)) (hS2 : S.Nodup) (hex : ∀ p ∈ asgTo f m, ∃ y : K8, y.1 = padL p) {rows : List (List Int)} (hp : rows.Perm (S.map fun κ => κ.1.take n))
    (hs : rows.Pairwise fun a b => ¬ cmpL b a < 0) : rows = asgTo f m := by
  have hmem : ∀ x, x ∈ rows ↔ x ∈ asgTo f m := by
    intro x
    rw [hp.mem_iff, List.mem_map]
    constructor
    · rintro ⟨κ, hκ, rfl⟩
      obtain ⟨p, hp, e⟩ := (hS κ).1 hκ
      rw [e]
      have hl := asg_len m p hp
      rw [← hn, ← hl, padL_take]
      exact hp
    · intro hx
      obtain ⟨y, hy⟩ := hex x hx
      refine ⟨y, (hS y).2 ⟨x, hx, hy⟩, ?_⟩
      rw [hy, ← hn, ← asg_len m x hx, padL_take]
  have hnd : rows.Nodup := by
    refine hp.nodup_iff.2 (List.pairwise_map.2 (hS2.imp_of_mem fun {a b} ha hb hne e => hne ?_))
    obtain ⟨p, hp, e1⟩ := (hS a).1 ha
    obtain ⟨q, hq, e2⟩ := (hS b).1 hb
    refine Subtype.ext ?_
    rw [e1, e2] at e ⊢
    have h1 := padL_take p
    have h2 := padL_take q
    rw [asg_len m p hp, hn] at h1
    rw [asg_len m q hq, hn] at h2
    rw [h1, h2] at e
    rw [e]
  refine srt_ext ?_ (asg_srt m) hmem
  refine List.Pairwise.imp_of_mem (fun {a b} ha hb hab => ?_) (hs.and hnd)
  have hla := asg_len m a ((hmem a).1 ha)
  have hlb := asg_len m b ((hmem b).1 hb)
  rcases ltL_total (show a.length = b.length by rw [hla, hlb]) hab.2 with h | h
  · exact h
  · exact absurd ((cmpL_lt (by rw [hla, hlb])).2 h) hab.1

end Go.Proofs.Ythekefnocphcdaa

set_option linter.unusedVariables false

set_option linter.unusedSimpArgs false

namespace Go.Proofs.Ythekefnocphcdaa

open Go.RowKit Go.Maps

/-- the marks of loops over functions that are over -/
def marksOf (rs : List Nat) : List Deferred := rs.map fun r => { target := .collected r, args := #[] }

structure MarksOk (B : Nat) (rs : List Nat) (W : World) : Prop where
  nd : rs.Nodup
  at_ : ∀ r ∈ rs, B ≤ r ∧ W.heap[r]? = some (.deferred (some []))

theorem MarksOk.nil (B : Nat) (W : World) : MarksOk B [] W := ⟨List.nodup_nil, fun r h => by cases h⟩

theorem MarksOk.cons {B d : Nat} {rs : List Nat} {W : World} (h : MarksOk B rs W) (hd : B ≤ d) (hk : W.heap[d]? = some (.deferred (some []))) (hn : d ∉ rs) : MarksOk B (d :: rs) W :=
  ⟨List.nodup_cons.2 ⟨hn, h.nd⟩, fun r hr => by
    rcases List.mem_cons.1 hr with rfl | hr
    · exact ⟨hd, hk⟩
    · exact h.at_ r hr⟩

theorem MarksOk.turned {X : Nat → Prop} {B : Nat} {rs : List Nat} {W W' : World} (h : MarksOk B rs W) (ht : Turned X W W') (hx : ∀ r ∈ rs, ¬ X r) : MarksOk B rs W' :=
  ⟨h.nd, fun r hr => ⟨(h.at_ r hr).1, (ht.block r (Array.getElem?_eq_some_iff.1 (h.at_ r hr).2).1 (hx r hr)).trans (h.at_ r hr).2⟩⟩

theorem MarksOk.lt {B : Nat} {rs : List Nat} {W : World} (h : MarksOk B rs W) : ∀ r ∈ rs, r < W.heap.size := fun r hr => (Array.getElem?_eq_some_iff.1 (h.at_ r hr).2).1

theorem MarksOk.ext {B : Nat} {rs : List Nat} {W W' : World} (h : MarksOk B rs W) (hb : Below W.heap.size W W') : MarksOk B rs W' := h.turned (X := fun _ => False) (Turned.of_below hb) (fun _ _ h => h)

theorem MarksOk.grown {B r : Nat} {rs : List Nat} {W W' : World} (h : MarksOk B rs W) (hg : W.grownBy W' (some r)) (hr : W.heap[r]? ≠ some (.deferred (some []))) : MarksOk B rs W' :=
  h.turned (X := fun k => k = r) (Turned.of_grown hg (fun k e => by cases e; rfl)) (fun k hk e => by subst e; exact hr (h.at_ k hk).2)

/-- a function that leaves with marks among its deferred calls -/
theorem leaves_marks {F : Fence} {n : Nat} {P : Program} {fn : Func} {tmps : Array Value} {R : Ending → World → Prop} {B : Nat} : ∀ (rs : List Nat) (W : World), MarksOk B rs W →
    (∀ W', Turned (fun k => k ∈ rs) W W' → ∃ v, (results fn tmps).run P W' = .ok v W' ∧ R (.returned v) W') → LeavesInM F n P fn tmps R (marksOf rs) .returning W
  | [], W, _, h => h W (Turned.refl _ _)
  | r :: rs, W, hm, h => by
    have hk := (hm.at_ r (by simp)).2
    have hn := List.nodup_cons.1 hm.nd
    refine ⟨by simp, .inl ⟨r, _, rfl, run_takeDeferred hk, ?_⟩⟩
    have hm' : MarksOk B rs (W.putObj r (.deferred none)) := ⟨hn.2, fun q hq => ⟨(hm.at_ q (List.mem_cons_of_mem _ hq)).1, (World.putObj_heap_other (fun e => hn.1 (by rw [← e]; exact hq))).trans (hm.at_ q (List.mem_cons_of_mem _ hq)).2⟩⟩
    refine leaves_marks rs _ hm' fun W' ht => h W' ?_
    exact (Turned.putObj (X := fun k => k ∈ r :: rs) W r (.deferred none) (by simp)).trans (ht.mono fun k _ hk => List.mem_cons_of_mem _ hk)

theorem OwnInts.turnedX {X : Nat → Prop} {C : Nat} {w w' : World} {v : Value} {xs : List Int} (h : OwnInts C w v xs) (ht : Turned X w w') (hx : ∀ k c t f, w.heap[k]? = some (.cells c t f) → ¬ X k) : OwnInts C w' v xs := by
  obtain ⟨⟨hl, h1⟩, h2, h3⟩ := h
  refine ⟨⟨hl, ?_⟩, h2, h3⟩
  rcases h1 with h1 | ⟨g, cap, cur, hv, hb, hg, rest⟩
  · exact Or.inl h1
  · exact Or.inr ⟨g, cap, cur, hv, hb, (ht.block g (Array.getElem?_eq_some_iff.1 hg).1 (hx g _ _ _ hg)).trans hg, rest⟩

theorem OwnMat.turnedX {X : Nat → Prop} {C : Nat} {w w' : World} {v : Value} {rows : List (List Int)} (h : OwnMat C w v rows) (ht : Turned X w w') (hx : ∀ k c t f, w.heap[k]? = some (.cells c t f) → ¬ X k) : OwnMat C w' v rows := by
  obtain ⟨vals, ⟨hl, h1⟩, h2, h3⟩ := h
  refine ⟨vals, ⟨hl, ?_⟩, h2, fun j hj => (h3 j hj).turnedX ht hx⟩
  rcases h1 with h1 | ⟨g, cap, cur, hv, hb, hg, rest⟩
  · exact Or.inl h1
  · exact Or.inr ⟨g, cap, cur, hv, hb, (ht.block g (Array.getElem?_eq_some_iff.1 hg).1 (hx g _ _ _ hg)).trans hg, rest⟩

theorem MarksOk.notCells {B : Nat} {rs : List Nat} {W : World} (h : MarksOk B rs W) : ∀ k c t f, W.heap[k]? = some (.cells c t f) → ¬ k ∈ rs := fun k c t f hk hm => by
  rw [(h.at_ k hm).2] at hk; cases hk

section

variable {α : Type} {enc : α → Value} {P : Program} {w : World} {T K E : TypeId} {r : Nat} {l : List (α × Value)} {ops : Array Oper} {rest : List Oper} {o : Oper} {a : Act} {Q : Exit → Act → World → Prop}

theorem wpList_insert_k [DecidableEq α] (C : KeyEnc P K enc) (hg : Region.wanted o (yielded ops a.tmps) = true) (m xo vo : Operand) (hop : o.op = Op.insert T m xo vo)
    (hT : P.underlying T = some (.map K E)) (hm : a.eval m = .map (some r)) (h : KMap enc w r l) {x : α} {v : Value} (hx : a.eval xo = enc x) (hv : a.eval vo = v)
    (hk : ∀ w', KMap enc w' r (kset l x v) → w.grownBy w' (some r) → w'.heap.size = w.heap.size → wpList P ops Q rest (a.put o.dst undef) w') : wpList P ops Q (o :: rest) a w := by
  refine wpList_wantK hg fun K' hK' => ?_
  obtain ⟨w', hrun, h1, h2, h3⟩ := run_update_k C hT h x v
  unfold Oper.wp
  simp only [execOp, hop, hm, hx, hv]
  simp [hrun, Result.andThen]
  exact hK' _ _ (hk w' h1 h2 h3)

theorem KMap.obj (h : KMap enc w r l) : ∃ es c, w.heap[r]? = some (.map es c) ∧ es.size = l.length := by
  obtain ⟨es, c, h1, _, h3⟩ := h
  refine ⟨es, c, h1, ?_⟩
  have := congrArg List.length h3
  simpa using this

theorem KMap.len {R : TypeId} (h : KMap enc w r l) (hT : P.underlying T = some (.map K E)) : (Builtin.len_ #[T] R #[.map (some r)]).run P w = .ok (.int .i64 l.length) w := by
  obtain ⟨es, c, h1, h2⟩ := h.obj
  have hg : (getObj r).run P w = .ok (.map es c) w := Go.MapKept.run_getObj_map h1
  simp [Builtin.len_, run_underlying hT, hg, Result.andThen, goInt, h2]

theorem KMap.turned {X : Nat → Prop} {w' : World} (h : KMap enc w r l) (ht : Turned X w w') (hx : ¬ X r) : KMap enc w' r l := by
  obtain ⟨es, c, h1, h2⟩ := h
  exact ⟨es, c, (ht.block r (Array.getElem?_eq_some_iff.1 h1).1 hx).trans h1, h2⟩

theorem KIter.turned {X : Nat → Prop} {w' : World} {bm : Nat} {left : List (α × Value)} (h : KIter enc w bm r l left) (ht : Turned X w w') (h1 : ¬ X bm) (h2 : ¬ X r) : KIter enc w' bm r l left := by
  obtain ⟨es, c, seen, c0, a, b, rest⟩ := h
  exact ⟨es, c, seen, c0, (ht.block bm (Array.getElem?_eq_some_iff.1 a).1 h1).trans a, (ht.block r (Array.getElem?_eq_some_iff.1 b).1 h2).trans b, rest⟩

end

theorem Row8.turned {X : Nat → Prop} {w w' : World} {b : Nat} {l : List Int} (h : Row8 w b l) (ht : Turned X w w') (hx : ¬ X b) : Row8 w' b l := ⟨(ht.block b h.lt hx).trans h.1, h.2⟩

theorem Row8.box {w : World} {b : Nat} {l : List Int} (h : Row8 w b l) : Box w b (l.map (Value.int .i64)).toArray := by
  refine ⟨h.lt, fun i => ?_⟩
  simp only [World.cell?, h.1]
  rfl

end Go.Proofs.Ythekefnocphcdaa
