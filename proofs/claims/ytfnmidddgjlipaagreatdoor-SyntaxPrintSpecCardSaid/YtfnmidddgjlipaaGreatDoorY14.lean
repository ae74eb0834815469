/-
  Layer 17: the walk of the writer's put (printed by tools/geny14.py).
-/
import Derived.Test.YtfnmidddgjlipaaGreatDoorY13
set_option linter.unusedVariables false
set_option linter.unusedSimpArgs false
namespace Go.Proofs.YtfnmidddgjlipaaGreatDoor
open Go.RowKit

inductive Item where
  | word (s : Str)
  | name (s : Str)
  | sign (s : Str)
  | num (n : Int)
def itV : Item → Value
  | .word s => .iface 9 (strV s)
  | .name s => .iface 78 (strV s)
  | .sign s => .iface 79 (strV s)
  | .num n => .iface 3 (.int .i64 n)
def itT : Item → Tok
  | .word s => nmT s
  | .name s => nmT s
  | .sign s => sgT s
  | .num n => nuT n
def okI : Item → Prop
  | .word s => s.length ≤ 140737488351232
  | .name s => s.length ≤ 140737488351232
  | .sign s => s.length ≤ 140737488351232
  | .num n => I64 n
theorem okI_T {i : Item} (h : okI i) : okT (itT i) := by
  have h0 : I64 0 := by unfold I64; omega
  have h1 : I64 1 := by unfold I64; omega
  have h2 : I64 2 := by unfold I64; omega
  have h3 : I64 3 := by unfold I64; omega
  cases i with
  | word s => exact ⟨h1, h, h0, h0⟩
  | name s => exact ⟨h1, h, h0, h0⟩
  | sign s => exact ⟨h3, h, h0, h0⟩
  | num n => exact ⟨h2, by simp [itT, nuT], h, h0⟩
/-- the worlds differ in block S, in the block own, and above alone -/
def Fr (S : Nat) (own : Option Nat) (w w' : World) : Prop := w'.os = w.os ∧ w'.tape = w.tape ∧ w'.output = w.output ∧ w.heap.size ≤ w'.heap.size ∧ ∀ q, q < w.heap.size → q ≠ S → own ≠ some q → w'.heap[q]? = w.heap[q]?
theorem Fr.refl (S : Nat) (own : Option Nat) (w : World) : Fr S own w w := ⟨rfl, rfl, rfl, Nat.le_refl _, fun _ _ _ _ => rfl⟩
theorem Fr.size {S : Nat} {own : Option Nat} {w w' : World} (h : Fr S own w w') : w.heap.size ≤ w'.heap.size := h.2.2.2.1
/-- the own block of now: that of then, or a new one -/
def OwnOf (own own' : Option Nat) (m : Nat) : Prop := own' = own ∨ ∃ k, own' = some k ∧ m ≤ k
theorem Fr.trans {S : Nat} {o o1 : Option Nat} {a b c : World} (h : Fr S o a b) (k : Fr S o1 b c) (ho : OwnOf o o1 a.heap.size) : Fr S o a c := by
  refine ⟨k.1.trans h.1, k.2.1.trans h.2.1, k.2.2.1.trans h.2.2.1, Nat.le_trans h.size k.size, fun q hq hS hne => ?_⟩
  refine (k.2.2.2.2 q (Nat.lt_of_lt_of_le hq h.size) hS (fun e => ?_)).trans (h.2.2.2.2 q hq hS hne)
  rcases ho with ho | ⟨k', e2, hk⟩
  · exact hne (ho ▸ e)
  · rw [e2] at e; injection e with e; omega
theorem Fr.grown {S : Nat} {o row : Option Nat} {a b c : World} (h : Fr S o a b) (k : b.grownBy c row) (hr : ∀ q, row = some q → q = S ∨ o = some q ∨ a.heap.size ≤ q) : Fr S o a c := by
  refine ⟨k.os.trans h.1, k.tape.trans h.2.1, k.output.trans h.2.2.1, Nat.le_trans h.size k.size, fun q hq hS hne => ?_⟩
  refine (k.block q (Nat.lt_of_lt_of_le hq h.size) (fun e => ?_)).trans (h.2.2.2.2 q hq hS hne)
  rcases hr q e.symm with h1 | h1 | h1
  · exact hS h1
  · exact hne h1
  · omega
theorem Fr.below {S B : Nat} {o : Option Nat} {w w' : World} (h : Fr S o w w') (hS : B ≤ S) (ho : ∀ q, o = some q → B ≤ q) (hB : B ≤ w.heap.size) : Below B w w' :=
  ⟨h.1, h.2.1, h.2.2.1, h.size, fun q hq => h.2.2.2.2 q (by omega) (by omega) (fun e => by have := ho q e; omega)⟩
theorem CellsN.fr {S b : Nat} {o : Option Nat} {w w' : World} {c : Array Value} (h : CellsN w b c) (hf : Fr S o w w') (h1 : b ≠ S) (h2 : o ≠ some b) : CellsN w' b c := by
  obtain ⟨t, ht⟩ := h
  exact ⟨t, (hf.2.2.2.2 b (Array.getElem?_eq_some_iff.1 ht).1 h1 h2).trans ht⟩
theorem OwnOf.trans {o o1 o2 : Option Nat} {m n : Nat} (h : OwnOf o o1 m) (k : OwnOf o1 o2 n) (hm : m ≤ n) : OwnOf o o2 m := by
  rcases k with rfl | ⟨q, e, hq⟩
  · exact h
  · exact .inr ⟨q, e, by omega⟩
def itemAt (l : List Item) (k : Nat) : Item := l.getD k (.num 0)
theorem itemAt_get {l : List Item} {k : Nat} (h : k < l.length) : itemAt l k = l[k] := by unfold itemAt; rw [List.getD_eq_getElem?_getD, List.getElem?_eq_getElem h]; rfl
/-- the writer: its cell, its tokens -/
def Wri (S : Nat) (w : World) (v : Value) (ts : List Tok) : Prop := Cell1 w S v ∧ OwnToks (S + 1) w v ts
def PutPost (S : Nat) (w : World) (v : Value) (ts : List Tok) (e : Ending) (w' : World) : Prop :=
  e = .returned (.tuple #[]) ∧ ∃ v', Wri S w' v' ts ∧ Fr S v.ownBlock w w' ∧ OwnOf v.ownBlock v'.ownBlock w.heap.size

set_option maxHeartbeats 8000000 in
set_option maxRecDepth 100000 in
theorem put_any (S : Nat) (w : World) (v : Value) (ts : List Tok) (b n : Nat) (its : List Item) (hw : Wri S w v ts) (hb : CellsN w b (its.map itV).toArray) (hbS : b ≠ S) (hbo : v.ownBlock ≠ some b) (hok : ∀ i ∈ its, okI i) (hn : n = its.length) (hlen : ts.length + its.length ≤ 1000000000) :
    Calls Tryz.prog 48 #[.pointer (some ⟨S, 0, none⟩), .slice (some ⟨b, 0, none⟩) n n] w (PutPost S w v (ts ++ its.map itT)) := by
  subst hn
  have HW := Lib.hid hw
  have HBC := Lib.hid hb
  have HOKI := Lib.hid hok
  have hlt := hw.1.lt
  have hta9 : ∀ (s : Value) (w : World), (Instr.typeAssert (.iface 9 s) 20 9 true).run Tryz.prog w = .ok (.tuple #[s, .bool true]) w := fun _ _ => by kernel_rfl
  have htb9 : ∀ (s : Value) (w : World), (Instr.typeAssert (.iface 78 s) 20 9 true).run Tryz.prog w = .ok (.tuple #[.string ⟨#[]⟩, .bool false]) w := fun _ _ => by kernel_rfl
  have htbb : ∀ (s : Value) (w : World), (Instr.typeAssert (.iface 78 s) 20 78 true).run Tryz.prog w = .ok (.tuple #[s, .bool true]) w := fun _ _ => by kernel_rfl
  have htc9 : ∀ (s : Value) (w : World), (Instr.typeAssert (.iface 79 s) 20 9 true).run Tryz.prog w = .ok (.tuple #[.string ⟨#[]⟩, .bool false]) w := fun _ _ => by kernel_rfl
  have htcb : ∀ (s : Value) (w : World), (Instr.typeAssert (.iface 79 s) 20 78 true).run Tryz.prog w = .ok (.tuple #[.string ⟨#[]⟩, .bool false]) w := fun _ _ => by kernel_rfl
  have htcc : ∀ (s : Value) (w : World), (Instr.typeAssert (.iface 79 s) 20 79 true).run Tryz.prog w = .ok (.tuple #[s, .bool true]) w := fun _ _ => by kernel_rfl
  have htd9 : ∀ (s : Value) (w : World), (Instr.typeAssert (.iface 3 s) 20 9 true).run Tryz.prog w = .ok (.tuple #[.string ⟨#[]⟩, .bool false]) w := fun _ _ => by kernel_rfl
  have htdb : ∀ (s : Value) (w : World), (Instr.typeAssert (.iface 3 s) 20 78 true).run Tryz.prog w = .ok (.tuple #[.string ⟨#[]⟩, .bool false]) w := fun _ _ => by kernel_rfl
  have htdc : ∀ (s : Value) (w : World), (Instr.typeAssert (.iface 3 s) 20 79 true).run Tryz.prog w = .ok (.tuple #[.string ⟨#[]⟩, .bool false]) w := fun _ _ => by kernel_rfl
  have htdd : ∀ (s : Value) (w : World), (Instr.typeAssert (.iface 3 s) 20 3 true).run Tryz.prog w = .ok (.tuple #[s, .bool true]) w := fun _ _ => by kernel_rfl
  have HTA := Lib.hid hta9
  have HTB := Lib.hid (And.intro htb9 htbb)
  have HTC := Lib.hid (And.intro htc9 (And.intro htcb htcc))
  have HTD := Lib.hid (And.intro htd9 (And.intro htdb (And.intro htdc htdd)))
  clear hta9 htb9 htbb htc9 htcb htcc htd9 htdb htdc htdd hw hb hok
  go_enter Tryz.func48, Tryz.ntmps48
  go_wp2_with fail
  go_loopw [12] (fun kv wr => ∃ (k : Nat) (v' : Value), k ≤ its.length ∧ kv = .int .i64 k ∧ Wri S wr v' (ts ++ (its.take k).map itT) ∧ Fr S v.ownBlock w wr ∧ OwnOf v.ownBlock v'.ownBlock w.heap.size) (fun kv _ => its.length - (intOf kv).toNat)
  case atStart => exact ⟨0, v, by omega, rfl, by simpa using HW.out, Fr.refl _ _ _, .inl rfl⟩
  case round =>
    obtain ⟨k, v', hk, rfl, hw, hf, ho⟩ := hrel
    have HWR := Lib.hid hw
    have HF := Lib.hid hf
    have HO := Lib.hid ho
    have hc := HBC.out.fr hf hbS hbo
    have hltr := hw.1.lt
    by_cases hkl : k < its.length
    focus
      have g0 := hc.cell k
      rw [List.getElem?_toArray, List.getElem?_map, List.getElem?_eq_getElem hkl, ← itemAt_get hkl] at g0
      simp only [Option.map_some] at g0
      have HTK : Hid ((its.take (k + 1)).map itT = (its.take k).map itT ++ [itT (itemAt its k)]) := Lib.hid (by rw [List.take_succ_eq_append_getElem hkl, List.map_append, List.map_singleton, itemAt_get hkl])
      have HI := Lib.hid (HOKI.out (itemAt its k) (by rw [itemAt_get hkl]; exact List.getElem_mem hkl))
      obtain ⟨it, hit⟩ : ∃ i, itemAt its k = i := ⟨_, rfl⟩
      rw [hit] at g0 HTK HI
      obtain ⟨av, nv, cv, rfl⟩ := hw.2.form'
      have c0 := hw.1.cell
      have f0 := hw.1.free
      have hltk : ((ts ++ (its.take k).map itT)).length + 1 ≤ 1000000001 := by simp; omega
      obtain ⟨TS, hTS⟩ : ∃ T, ts ++ (its.take k).map itT = T := ⟨_, rfl⟩
      rw [hTS] at HWR hltk
      have HTS := Lib.hid hTS
      have hkk : (k : Int) < (its.length : Int) := by omega
      have hk0 : (0 : Int) ≤ (k : Int) := by omega
      have hil : (its.length : Int) ≤ 1000000000 := by omega
      clear hw hf ho hc hit hTS
      cases it with
      | word s =>
        unfold itV at g0
        have HOT : Hid (∀ t ∈ [nmT s], okT t) := Lib.hid (fun t h => by obtain rfl := List.mem_singleton.1 h; exact okI_T HI.out)
        obtain hq := HTA.out
        go_wp2_with (at_builtin; (refine append_toksA rfl (.tmp 24) (.tmp 27) rfl (C := S + 1) (v := .slice av nv cv) (vx := .slice (some ⟨wr.heap.size, 0, none⟩) 1 1) (xs := TS) (ys := [nmT s]) rfl (HWR.out.2.alloc _) rfl (src_tok (World.cell?_alloc_at _ _ _ _ rfl) (World.cell?_alloc_at _ _ _ _ rfl) (World.cell?_alloc_at _ _ _ _ rfl) (World.cell?_alloc_at _ _ _ _ rfl)) HOT.out (by simp; omega) (by simp; omega) ?_; intro v7 w7 ho7 hg7 hat7; obtain ⟨a7, n7, c7, rfl⟩ := ho7.form'; have HO7 := Lib.hid ho7; have HG7 := Lib.hid hg7; have HA7 := Lib.hid hat7; have hx7 := (HWR.out.1.alloc (.cells #[.int .i64 1, strV (nmT s).text, .int .i64 (nmT s).n, .int .i64 0] 72)).grown hg7 (fun e => by have := (HWR.out.2.lt _ e.symm).1; omega); have HX7 := Lib.hid hx7; have c7' := hx7.cell; have f7' := hx7.free; clear ho7 hg7 hat7 hx7 c0 f0))
        go_roundw
        case rel =>
          refine ⟨k + 1, .slice a7 n7 c7, by omega, by go_num, ⟨HX7.out.set _, ?_⟩, ?_, ?_⟩
          · rw [HTK.out, ← List.append_assoc, HTS.out]
            exact HO7.out.set (fun e => by have := (HO7.out.lt _ e).1; omega) 0 _
          · refine ((HF.out.grown (row := none) (grown_below (box_below' wr _) _) (fun q e => by cases e)).grown HG7.out (fun q e => ?_)).grown (grown_setCell w7 ⟨S, 0, none⟩ _) (fun q e => .inl (Option.some.inj e).symm)
            rcases HO.out with h | ⟨z, h, hz⟩
            · rw [h] at e; exact .inr (.inl e)
            · rw [h] at e; injection e with e; exact .inr (.inr (by omega))
          · refine HO.out.trans (n := w.heap.size) ?_ (Nat.le_refl _)
            rcases HA7.out with h | h
            · exact .inl h
            · exact .inr ⟨_, h, by have := HF.out.size; simp; omega⟩
        case measure => simp [intOf]; omega
      | name s =>
        unfold itV at g0
        have HOT : Hid (∀ t ∈ [nmT s], okT t) := Lib.hid (fun t h => by obtain rfl := List.mem_singleton.1 h; exact okI_T HI.out)
        obtain ⟨hq, hq2⟩ := HTB.out
        go_wp2_with (at_builtin; (refine append_toksA rfl (.tmp 38) (.tmp 41) rfl (C := S + 1) (v := .slice av nv cv) (vx := .slice (some ⟨wr.heap.size, 0, none⟩) 1 1) (xs := TS) (ys := [nmT s]) rfl (HWR.out.2.alloc _) rfl (src_tok (World.cell?_alloc_at _ _ _ _ rfl) (World.cell?_alloc_at _ _ _ _ rfl) (World.cell?_alloc_at _ _ _ _ rfl) (World.cell?_alloc_at _ _ _ _ rfl)) HOT.out (by simp; omega) (by simp; omega) ?_; intro v7 w7 ho7 hg7 hat7; obtain ⟨a7, n7, c7, rfl⟩ := ho7.form'; have HO7 := Lib.hid ho7; have HG7 := Lib.hid hg7; have HA7 := Lib.hid hat7; have hx7 := (HWR.out.1.alloc (.cells #[.int .i64 1, strV (nmT s).text, .int .i64 (nmT s).n, .int .i64 0] 72)).grown hg7 (fun e => by have := (HWR.out.2.lt _ e.symm).1; omega); have HX7 := Lib.hid hx7; have c7' := hx7.cell; have f7' := hx7.free; clear ho7 hg7 hat7 hx7 c0 f0))
        go_roundw
        case rel =>
          refine ⟨k + 1, .slice a7 n7 c7, by omega, by go_num, ⟨HX7.out.set _, ?_⟩, ?_, ?_⟩
          · rw [HTK.out, ← List.append_assoc, HTS.out]
            exact HO7.out.set (fun e => by have := (HO7.out.lt _ e).1; omega) 0 _
          · refine ((HF.out.grown (row := none) (grown_below (box_below' wr _) _) (fun q e => by cases e)).grown HG7.out (fun q e => ?_)).grown (grown_setCell w7 ⟨S, 0, none⟩ _) (fun q e => .inl (Option.some.inj e).symm)
            rcases HO.out with h | ⟨z, h, hz⟩
            · rw [h] at e; exact .inr (.inl e)
            · rw [h] at e; injection e with e; exact .inr (.inr (by omega))
          · refine HO.out.trans (n := w.heap.size) ?_ (Nat.le_refl _)
            rcases HA7.out with h | h
            · exact .inl h
            · exact .inr ⟨_, h, by have := HF.out.size; simp; omega⟩
        case measure => simp [intOf]; omega
      | sign s =>
        unfold itV at g0
        have HOT : Hid (∀ t ∈ [sgT s], okT t) := Lib.hid (fun t h => by obtain rfl := List.mem_singleton.1 h; exact okI_T HI.out)
        obtain ⟨hq, hq2, hq3⟩ := HTC.out
        go_wp2_with (at_builtin; (refine append_toksA rfl (.tmp 52) (.tmp 55) rfl (C := S + 1) (v := .slice av nv cv) (vx := .slice (some ⟨wr.heap.size, 0, none⟩) 1 1) (xs := TS) (ys := [sgT s]) rfl (HWR.out.2.alloc _) rfl (src_tok (World.cell?_alloc_at _ _ _ _ rfl) (World.cell?_alloc_at _ _ _ _ rfl) (World.cell?_alloc_at _ _ _ _ rfl) (World.cell?_alloc_at _ _ _ _ rfl)) HOT.out (by simp; omega) (by simp; omega) ?_; intro v7 w7 ho7 hg7 hat7; obtain ⟨a7, n7, c7, rfl⟩ := ho7.form'; have HO7 := Lib.hid ho7; have HG7 := Lib.hid hg7; have HA7 := Lib.hid hat7; have hx7 := (HWR.out.1.alloc (.cells #[.int .i64 3, strV (sgT s).text, .int .i64 (sgT s).n, .int .i64 0] 72)).grown hg7 (fun e => by have := (HWR.out.2.lt _ e.symm).1; omega); have HX7 := Lib.hid hx7; have c7' := hx7.cell; have f7' := hx7.free; clear ho7 hg7 hat7 hx7 c0 f0))
        go_roundw
        case rel =>
          refine ⟨k + 1, .slice a7 n7 c7, by omega, by go_num, ⟨HX7.out.set _, ?_⟩, ?_, ?_⟩
          · rw [HTK.out, ← List.append_assoc, HTS.out]
            exact HO7.out.set (fun e => by have := (HO7.out.lt _ e).1; omega) 0 _
          · refine ((HF.out.grown (row := none) (grown_below (box_below' wr _) _) (fun q e => by cases e)).grown HG7.out (fun q e => ?_)).grown (grown_setCell w7 ⟨S, 0, none⟩ _) (fun q e => .inl (Option.some.inj e).symm)
            rcases HO.out with h | ⟨z, h, hz⟩
            · rw [h] at e; exact .inr (.inl e)
            · rw [h] at e; injection e with e; exact .inr (.inr (by omega))
          · refine HO.out.trans (n := w.heap.size) ?_ (Nat.le_refl _)
            rcases HA7.out with h | h
            · exact .inl h
            · exact .inr ⟨_, h, by have := HF.out.size; simp; omega⟩
        case measure => simp [intOf]; omega
      | num m =>
        unfold itV at g0
        have HOT : Hid (∀ t ∈ [nuT m], okT t) := Lib.hid (fun t h => by obtain rfl := List.mem_singleton.1 h; exact okI_T HI.out)
        obtain ⟨hq, hq2, hq3, hq4⟩ := HTD.out
        go_wp2_with (at_builtin; (refine append_toksA rfl (.tmp 66) (.tmp 69) rfl (C := S + 1) (v := .slice av nv cv) (vx := .slice (some ⟨wr.heap.size, 0, none⟩) 1 1) (xs := TS) (ys := [nuT m]) rfl (HWR.out.2.alloc _) rfl (src_tok (World.cell?_alloc_at _ _ _ _ rfl) (World.cell?_alloc_at _ _ _ _ rfl) (World.cell?_alloc_at _ _ _ _ rfl) (World.cell?_alloc_at _ _ _ _ rfl)) HOT.out (by simp; omega) (by simp; omega) ?_; intro v7 w7 ho7 hg7 hat7; obtain ⟨a7, n7, c7, rfl⟩ := ho7.form'; have HO7 := Lib.hid ho7; have HG7 := Lib.hid hg7; have HA7 := Lib.hid hat7; have hx7 := (HWR.out.1.alloc (.cells #[.int .i64 2, strV (nuT m).text, .int .i64 (nuT m).n, .int .i64 0] 72)).grown hg7 (fun e => by have := (HWR.out.2.lt _ e.symm).1; omega); have HX7 := Lib.hid hx7; have c7' := hx7.cell; have f7' := hx7.free; clear ho7 hg7 hat7 hx7 c0 f0))
        go_roundw
        case rel =>
          refine ⟨k + 1, .slice a7 n7 c7, by omega, by go_num, ⟨HX7.out.set _, ?_⟩, ?_, ?_⟩
          · rw [HTK.out, ← List.append_assoc, HTS.out]
            exact HO7.out.set (fun e => by have := (HO7.out.lt _ e).1; omega) 0 _
          · refine ((HF.out.grown (row := none) (grown_below (box_below' wr _) _) (fun q e => by cases e)).grown HG7.out (fun q e => ?_)).grown (grown_setCell w7 ⟨S, 0, none⟩ _) (fun q e => .inl (Option.some.inj e).symm)
            rcases HO.out with h | ⟨z, h, hz⟩
            · rw [h] at e; exact .inr (.inl e)
            · rw [h] at e; injection e with e; exact .inr (.inr (by omega))
          · refine HO.out.trans (n := w.heap.size) ?_ (Nat.le_refl _)
            rcases HA7.out with h | h
            · exact .inl h
            · exact .inr ⟨_, h, by have := HF.out.size; simp; omega⟩
        case measure => simp [intOf]; omega
    obtain rfl : k = its.length := by omega
    clear hkl
    go_wp2
    first | go_end0 | refine bodyPost_ret (results_none rfl _ _ _) rfl ?_
    refine ⟨rfl, v', ?_, HF.out, HO.out⟩
    have h := HWR.out
    rw [List.take_length] at h
    exact h
end Go.Proofs.YtfnmidddgjlipaaGreatDoor
