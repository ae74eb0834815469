/-
  Layer 3: the walk of (*scanner).add.
-/
import Derived.Test.YtfnmidddgjlipaaGreatDoorLx5
import Derived.Deep.RegionLaw
import Derived.Deep.RegionHeld
set_option linter.unusedVariables false
set_option linter.unusedSimpArgs false
namespace Go.Proofs.YtfnmidddgjlipaaGreatDoor
open Go.RowKit

/-- the scanner: its block, what it has read, the tokens so far (their rows are made behind it) -/
def Scan (S : Nat) (src : ByteArray) (w : World) (at_ : Nat) (ts : List Tok) : Prop :=
  ∃ vl, CellsN w S #[.string src, .int .i64 (at_ : Int), vl] ∧ OwnToks (S + 1) w vl ts
theorem Scan.lt {S at_ : Nat} {src : ByteArray} {w : World} {ts : List Tok} (h : Scan S src w at_ ts) : S < w.heap.size := by obtain ⟨vl, h1, _⟩ := h; exact h1.lt
theorem Scan.ext {S at_ : Nat} {src : ByteArray} {w w' : World} {ts : List Tok} (h : Scan S src w at_ ts) (hb : Below w.heap.size w w') : Scan S src w' at_ ts := by
  obtain ⟨vl, h1, h2⟩ := h
  exact ⟨vl, h1.ext hb, h2.below hb⟩
theorem Scan.drew {S at_ : Nat} {src : ByteArray} {w w' : World} {ts : List Tok} (h : Scan S src w at_ ts) (hd : Drew w w') : Scan S src w' at_ ts := h.ext (hd.below _)

set_option maxHeartbeats 1000000 in
set_option maxRecDepth 100000 in
/-- a token that is not valid: the scanner panics with its place -/
theorem add_bad (S at_ : Nat) (src text : ByteArray) (ts : List Tok) (t : Tok) (w : World) (hS : Scan S src w at_ ts) (ht : okT t) (hv : validB t = false) :
    Calls Tryz.prog 58 #[.pointer (some ⟨S, 0, none⟩), .string text, tokV t] w fun e w' => e = .panicked [{ v := .iface 53 (.int .i64 (at_ : Int)), recovered := false }] ∧ Below S w w' := by
  have hlt := hS.lt
  obtain ⟨vl, hc, ho⟩ := hS
  have HV := Lib.hid hv
  have HT := Lib.hid ht
  have HB := Lib.hid ((Below.refl S w).alloc (by omega) (.cells #[.int .i64 t.kind, strV t.text, .int .i64 t.n, .int .i64 t.pos] 72))
  have HC := Lib.hid (hc.alloc (.cells #[.int .i64 t.kind, strV t.text, .int .i64 t.n, .int .i64 t.pos] 72))
  clear hv ht hc ho
  go_enter Tryz.func58, Tryz.ntmps58
  go_wp2_with fail
  refine (valid_any t _ HT.out).mono ?_
  rintro e w1 ⟨rfl, hb⟩
  rw [HV.out]
  have k0 := (HC.out.ext hb).cell 1
  simp at k0
  have HB1 : Hid (Below S w w1) := Lib.hid (HB.out.trans (hb.mono (by simp; omega)))
  clear hb
  go_wp2
  exact ⟨rfl, rfl, HB1.out⟩

theorem OwnToks.form' {C : Nat} {w : World} {v : Value} {ts : List Tok} (h : OwnToks C w v ts) : ∃ a n c, v = .slice a n c := by
  obtain ⟨a, c, e⟩ := h.form
  exact ⟨a, _, c, e⟩
theorem OwnToks.drew {C : Nat} {w : World} {v : Value} {ts : List Tok} (h : OwnToks C w v ts) : OwnToks C w.drew v ts := h
theorem OwnToks.set {C p : Nat} {w : World} {v : Value} {ts : List Tok} (h : OwnToks C w v ts) (hne : v.ownBlock ≠ some p) (i : Nat) (u : Value) : OwnToks C (w.setCell ⟨p, i, none⟩ u) v ts :=
  h.kept (grown_setCell w ⟨p, i, none⟩ u) (.inr hne)
theorem CellsN.other {b p : Nat} {w : World} {c : Array Value} (h : CellsN w b c) (hne : b ≠ p) (i : Nat) (u : Value) : CellsN (w.setCell ⟨p, i, none⟩ u) b c :=
  h.grown (grown_setCell w ⟨p, i, none⟩ u) (fun e => hne (by injection e))

set_option maxHeartbeats 2000000 in
set_option maxRecDepth 100000 in
/-- a valid token -/
theorem add_ok (S at_ : Nat) (src text : ByteArray) (ts : List Tok) (t : Tok) (w : World) (hS : Scan S src w at_ ts) (ht : okT t) (hv : validB t = true) (hn : ts.length ≤ 1000000) (hp : at_ + text.size ≤ 1000000000) :
    Calls Tryz.prog 58 #[.pointer (some ⟨S, 0, none⟩), .string text, tokV t] w fun e w' => e = .returned (.tuple #[]) ∧ Scan S src w' (at_ + text.size) (ts ++ [{ t with pos := at_ }]) ∧ Below S w w' := by
  have hlt := hS.lt
  obtain ⟨vl, hc, ho⟩ := hS
  obtain ⟨al, cl, hform⟩ := ho.form
  have HV := Lib.hid hv
  have HT := Lib.hid ht
  have HB := Lib.hid ((Below.refl S w).alloc (by omega) (.cells #[.int .i64 t.kind, strV t.text, .int .i64 t.n, .int .i64 t.pos] 72))
  have HC := Lib.hid (hc.alloc (.cells #[.int .i64 t.kind, strV t.text, .int .i64 t.n, .int .i64 t.pos] 72))
  have HO := Lib.hid (ho.alloc (.cells #[.int .i64 t.kind, strV t.text, .int .i64 t.n, .int .i64 t.pos] 72))
  have HK := Lib.hid (CellsN.new w #[.int .i64 t.kind, strV t.text, .int .i64 t.n, .int .i64 t.pos] 72)
  have HL : Hid (∀ k, vl.ownBlock = some k → S + 1 ≤ k ∧ k < w.heap.size) := Lib.hid ho.lt
  have HNE : Hid (vl.ownBlock ≠ some w.heap.size) := Lib.hid (fun e => by have := (HL.out _ e).2; omega)
  have HNS : Hid (vl.ownBlock ≠ some S) := Lib.hid (fun e => by have := (HL.out _ e).1; omega)
  clear hv ht hc ho
  go_enter Tryz.func58, Tryz.ntmps58
  go_wp2_with fail
  refine (valid_any t _ HT.out).mono ?_
  rintro e w1 ⟨rfl, hb⟩
  rw [HV.out]
  have HC1 := Lib.hid (HC.out.ext hb)
  have HK1 := Lib.hid (HK.out.ext hb)
  have HO1 := Lib.hid (HO.out.below hb)
  have HB1 : Hid (Below S w w1) := Lib.hid (HB.out.trans (hb.mono (by simp; omega)))
  have hsz := hb.size
  simp at hsz
  clear hb
  have k1 := HC1.out.cell 1
  have k2 := HC1.out.cell 2
  have m0 := HK1.out.cell 0
  have m1 := HK1.out.cell 1
  have m2 := HK1.out.cell 2
  have m3 := HK1.out.cell 3
  have f3 := HK1.out.free 3
  simp at k1 k2 m0 m1 m2 m3
  subst hform
  go_upto_region 4 with fail
  obtain ⟨W, hW⟩ : ∃ W, w1.setCell ⟨w.heap.size, 3, none⟩ (.int .i64 (at_ : Int)) = W := ⟨_, rfl⟩
  have HKW : Hid (CellsN W w.heap.size #[.int .i64 t.kind, strV t.text, .int .i64 t.n, .int .i64 (at_ : Int)]) := Lib.hid (by rw [← hW]; have := HK1.out.set 3 (.int .i64 (at_ : Int)); simpa using this)
  have HCW : Hid (CellsN W S #[.string src, .int .i64 (at_ : Int), .slice al ts.length cl]) := Lib.hid (by rw [← hW]; exact HC1.out.other (by omega) 3 _)
  have HOW : Hid (OwnToks (S + 1) W (.slice al ts.length cl) ts) := Lib.hid (by rw [← hW]; exact HO1.out.set HNE.out 3 _)
  have HBW : Hid (Below S w W) := Lib.hid (by rw [← hW]; exact HB1.out.setCell (p := ⟨w.heap.size, 3, none⟩) (by show S ≤ w.heap.size; omega) _)
  have hszW : w.heap.size + 1 ≤ W.heap.size := by rw [← hW]; simpa [World.setCell] using hsz
  rw [hW]
  clear hW k1 k2 m0 m1 m2 m3 f3 hsz
  have k2 := HCW.out.cell 2
  have m0 := HKW.out.cell 0
  have m1 := HKW.out.cell 1
  have m2 := HKW.out.cell 2
  have m3 := HKW.out.cell 3
  simp at k2 m0 m1 m2 m3
  have HT2 : Hid (∀ u ∈ [({ t with pos := (at_ : Int) } : Tok)], okT u) := Lib.hid (by
    intro u hu
    obtain rfl := List.mem_singleton.1 hu
    obtain ⟨a1, a2, a3, a4⟩ := HT.out
    exact ⟨a1, a2, a3, by unfold I64; simp only; omega⟩)
  have hSW : S < W.heap.size := by omega
  have hSW1 : ¬ S = W.heap.size := by omega
  have hSW2 := World.new_ne W ⟨S, 2, none⟩ k2
  go_region_law (
    (refine step_append_toks (by rfl) (.tmp 23) (.tmp 25) (by rfl) (v := .slice al ts.length cl) (vx := .slice (some ⟨W.heap.size, 0, none⟩) 1 1) (xs := ts) (ys := [{ t with pos := (at_ : Int) }]) (by rfl) ((HOW.out.alloc _).drew) (by rfl) (src_tok (World.cell?_alloc_at _ _ _ _ rfl) (World.cell?_alloc_at _ _ _ _ rfl) (World.cell?_alloc_at _ _ _ _ rfl) (World.cell?_alloc_at _ _ _ _ rfl)) HT2.out (by simp; omega) (by simp; omega) ?_
     intro v5 w5 ho5 hgrow hat
     obtain ⟨a5, n5, c5, rfl⟩ := ho5.form'
     have HO5 := Lib.hid ho5
     have HG5 := Lib.hid hgrow
     have HAT := Lib.hid hat
     have q0 : CellsN w5 S #[.string src, .int .i64 (at_ : Int), .slice al ts.length cl] := (show CellsN (W.alloc (.cells #[.int .i64 t.kind, strV t.text, .int .i64 t.n, .int .i64 (at_ : Int)] 72)).drew S #[.string src, .int .i64 (at_ : Int), .slice al ts.length cl] from HCW.out.alloc _).grown HG5.out (fun e => HNS.out e.symm)
     have HQ := Lib.hid q0
     have q1 := HQ.out.cell 2
     have q2 := HQ.out.free 2
     simp at q1
     clear ho5 hgrow hat q0))
  all_goals
    obtain ⟨W2, hW2⟩ : ∃ W2, w5.setCell ⟨S, 2, none⟩ (.slice a5 n5 c5) = W2 := ⟨_, rfl⟩
    have HN5 : Hid (Value.ownBlock (.slice a5 n5 c5) ≠ some S) := Lib.hid (fun e => by have := (HO5.out.lt _ e).1; omega)
    have HC2 : Hid (CellsN W2 S #[.string src, .int .i64 (at_ : Int), .slice a5 n5 c5]) := Lib.hid (by rw [← hW2]; have := HQ.out.set 2 (.slice a5 n5 c5); simpa using this)
    have HO2 : Hid (OwnToks (S + 1) W2 (.slice a5 n5 c5) (ts ++ [{ t with pos := (at_ : Int) }])) := Lib.hid (by rw [← hW2]; exact HO5.out.set HN5.out 2 _)
    have HB2 : Hid (Below S w W2) := Lib.hid (by
      rw [← hW2]
      have h : Below S w (W.alloc (.cells #[.int .i64 t.kind, strV t.text, .int .i64 t.n, .int .i64 (at_ : Int)] 72)).drew := (HBW.out.alloc (by omega) _).drew
      exact (h.grown HG5.out (by simp; omega) (fun k hk => by have := (HL.out k hk).1; omega)).setCell (p := ⟨S, 2, none⟩) (Nat.le_refl _) _)
    rw [hW2]
    clear hW2 q1 q2 k2 m0 m1 m2 m3
    have k1 := HC2.out.cell 1
    have f1 := HC2.out.free 1
    simp at k1
    have hsum : ((at_ : Int) + (text.size : Int)) = ((at_ + text.size : Nat) : Int) := by omega
    have HSUM := Lib.hid hsum
    clear hsum
    go_wp2
    first | go_end0 | refine bodyPost_ret (results_none rfl _ _ _) rfl ?_
    refine ⟨rfl, ⟨.slice a5 n5 c5, ?_, ?_⟩, ?_⟩
    focus
      have := HC2.out.set 1 (.int .i64 ((at_ : Int) + (text.size : Int)))
      rw [← HSUM.out]
      simpa using this
    focus exact HO2.out.set HN5.out 1 _
    focus exact HB2.out.setCell (p := ⟨S, 1, none⟩) (Nat.le_refl _) _
end Go.Proofs.YtfnmidddgjlipaaGreatDoor
