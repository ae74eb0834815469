/-
  Layer 3: the walks of the scanner's name, sign.
-/
import Derived.Test.YtfnmidddgjlipaaGreatDoorLx7
set_option linter.unusedVariables false
set_option linter.unusedSimpArgs false
namespace Go.Proofs.YtfnmidddgjlipaaGreatDoor
open Go.RowKit

theorem runL_le (src : ByteArray) (at_ : Nat) (zs : List Int) : (runL src at_ zs).length ≤ src.size - at_ := by
  unfold runL
  have h1 := (List.takeWhile_prefix (l := src.data.toList.drop at_) (runP zs)).length_le
  simpa only [List.length_drop, size_data] using h1
theorem okT_mk {x : List UInt8} {k n p : Int} (h1 : -9223372036854775808 ≤ k ∧ k ≤ 9223372036854775807) (h2 : x.length ≤ 140737488351232) (h3 : -9223372036854775808 ≤ n ∧ n ≤ 9223372036854775807) (h4 : -9223372036854775808 ≤ p ∧ p ≤ 9223372036854775807) : okT ⟨k, x, n, p⟩ := ⟨h1, h2, h3, h4⟩
theorem runP_part (c : UInt8) : runP [2, 3, 5] c = isPart c := by
  unfold runP
  rcases cls_cases c with ⟨e, f, _⟩ | ⟨e, f, _⟩ | ⟨e, f, _⟩ | ⟨e, f, _⟩ | ⟨e, f, _⟩ | ⟨e, f, _⟩ <;> rw [e, f] <;> rfl
theorem cls_spcP (c : UInt8) : runP [1] c = isSpc c := by
  unfold runP cls
  cases hs : isSpc c
  · cases h1 : isLet c
    · cases h2 : isDig c
      · by_cases h3 : c.toNat = 95
        · simp [h3]
        · cases h5 : isSgn c <;> simp [h3]
      · simp
    · simp
  · obtain ⟨g1, g2, g3⟩ := spc_not hs
    have h3 : c.toNat ≠ 95 := by have := spc_cases hs; omega
    simp [g1, g2, h3]
theorem cls_digP (c : UInt8) : runP [3] c = isDig c := by
  unfold runP cls
  cases hd : isDig c
  · cases h1 : isLet c
    · by_cases h3 : c.toNat = 95
      · simp [h3]
      · cases h4 : isSpc c
        · cases h5 : isSgn c <;> simp [h3]
        · simp [h3]
    · simp
  · have := dig_let hd
    simp [this]

/-- how the scanner goes on behind a token that it adds -/
def AddPost (S at_ : Nat) (src : ByteArray) (ts : List Tok) (t : Tok) (k : Nat) (w : World) (e : Ending) (w' : World) : Prop :=
  (validB t = true → e = .returned (.tuple #[]) ∧ Scan S src w' (at_ + k) (ts ++ [{ t with pos := (at_ : Int) }])) ∧ (validB t = false → e = placeP at_) ∧ Below S w w'
theorem add_any (S at_ : Nat) (src text : ByteArray) (ts : List Tok) (t : Tok) (w0 w : World) (hw0 : Below S w0 w) (hS : Scan S src w at_ ts) (ht : okT t) (hn : ts.length ≤ 1000000) (hp : at_ + text.size ≤ 1000000000) :
    Calls Tryz.prog 58 #[.pointer (some ⟨S, 0, none⟩), .string text, tokV t] w fun e w' => AddPost S at_ src ts t text.size w0 e w' := by
  cases hv : validB t with
  | true =>
    refine (add_ok S at_ src text ts t w hS ht hv hn hp).mono ?_
    rintro e w' ⟨h1, h2, h3⟩
    exact ⟨fun _ => ⟨h1, h2⟩, fun h => (by cases hv.symm.trans h), hw0.trans h3⟩
  | false =>
    refine (add_bad S at_ src text ts t w hS ht hv).mono ?_
    rintro e w' ⟨h1, h3⟩
    exact ⟨fun h => (by cases hv.symm.trans h), fun _ => h1, hw0.trans h3⟩

set_option maxHeartbeats 1000000 in
set_option maxRecDepth 100000 in
theorem nameS_any (S at_ : Nat) (src : ByteArray) (ts : List Tok) (w : World) (hS : Scan S src w at_ ts) (hat : at_ ≤ src.size) (hs : src.size ≤ 1000000) (hn : ts.length ≤ 1000000) :
    Calls Tryz.prog 28 #[.pointer (some ⟨S, 0, none⟩)] w fun e w' => AddPost S at_ src ts ⟨1, runL src at_ [2, 3, 5], 0, 0⟩ (runL src at_ [2, 3, 5]).length w e w' := by
  have hlt := hS.lt
  have HS := Lib.hid hS
  have HLEN := Lib.hid (len_mk (runL src at_ [2, 3, 5]))
  have hle := runL_le src at_ [2, 3, 5]
  have HOK : Hid (okT ⟨1, runL src at_ [2, 3, 5], 0, 0⟩) := Lib.hid (okT_mk (by omega) (by omega) (by omega) (by omega))
  obtain ⟨c0, c1⟩ := (hS.ext (box_below' w (.cells #[.int .i64 2, .int .i64 3, .int .i64 5] 3))).cells
  have HC := Lib.hid (And.intro c0 c1)
  have HB : Hid (Below w.heap.size w (w.alloc (.cells #[.int .i64 2, .int .i64 3, .int .i64 5] 3))) := Lib.hid (box_below' w _)
  clear hS c0 c1
  go_enter Tryz.func28, Tryz.ntmps28
  go_wp2_with fail
  refine (run_any S w.heap.size 3 3 src at_ [2, 3, 5] _ HC.out.1 HC.out.2 (fun j hj => ?_) rfl (by simp) hat (by omega)).mono ?_
  focus
    match j, hj with
    | 0, _ => exact World.cell?_alloc_at _ _ _ _ rfl
    | 1, _ => exact World.cell?_alloc_at _ _ _ _ rfl
    | 2, _ => exact World.cell?_alloc_at _ _ _ _ rfl
  rintro e w1 ⟨rfl, hd⟩
  have HBW : Hid (Below w.heap.size w w1) := Lib.hid (HB.out.trans (hd.below _))
  clear hd
  go_wp2_with fail
  refine (add_any S at_ src _ ts ⟨1, runL src at_ [2, 3, 5], 0, 0⟩ w w1 (HBW.out.mono (Nat.le_of_lt hlt)) (HS.out.ext HBW.out) HOK.out hn (by rw [HLEN.out]; omega)).mono ?_
  intro e w2 hpost
  rw [HLEN.out] at hpost
  have HP := Lib.hid hpost
  clear hpost
  cases hv : validB ⟨1, runL src at_ [2, 3, 5], 0, 0⟩ with
  | true =>
    obtain ⟨rfl, h2⟩ := HP.out.1 hv
    clear hv h2
    go_wp2
    first | go_end0 | refine bodyPost_ret (results_none rfl _ _ _) rfl ?_
    exact HP.out
  | false =>
    obtain rfl := HP.out.2.1 hv
    clear hv
    go_wp2
    exact ⟨rfl, HP.out⟩

theorem idx_com : ∀ (l : List UInt8), (0 ≤ Go.Lib.indexByte l 10 → Go.Lib.indexByte l 10 = (comLen l : Int)) ∧ (Go.Lib.indexByte l 10 < 0 → comLen l = l.length)
  | [] => by simp [Go.Lib.indexByte, comLen]
  | a :: r => by
    have ih := idx_com r
    have hge := Go.Lib.indexByte_ge r 10
    have hcons : Go.Lib.indexByte (a :: r) 10 = if a == 10 then 0 else if Go.Lib.indexByte r 10 == -1 then -1 else Go.Lib.indexByte r 10 + 1 := rfl
    by_cases h : a = 10
    · subst h
      rw [hcons]
      simp [comLen]
    · have h1 : (a == 10) = false := by simpa using h
      have h2 : (a != 10) = true := by simp [h]
      have hc : comLen (a :: r) = comLen r + 1 := by unfold comLen; rw [List.takeWhile_cons, if_pos h2]; rfl
      rw [hcons, hc, h1, List.length_cons]
      by_cases h3 : Go.Lib.indexByte r 10 = -1
      · rw [h3] at ih ⊢
        simp at ih ⊢
        exact ih
      · have h4 : (Go.Lib.indexByte r 10 == -1) = false := by simpa using h3
        rw [h4]
        simp only [Bool.false_eq_true, if_false]
        exact ⟨fun h5 => by have := ih.1 (by omega); omega, fun h5 => by omega⟩

set_option maxHeartbeats 1000000 in
set_option maxRecDepth 100000 in
theorem sign_com (S at_ : Nat) (src : ByteArray) (ts : List Tok) (w : World) (hS : Scan S src w at_ ts) (hat : at_ ≤ src.size) (hs : src.size ≤ 1000000) (hpre : Go.Lib.hasPrefix (src.extract at_ src.size).data.toList [47, 47] = true) :
    Calls Tryz.prog 30 #[.pointer (some ⟨S, 0, none⟩)] w fun e w' => e = .returned (.tuple #[]) ∧ Scan S src w' (at_ + comLen (src.data.toList.drop at_)) ts ∧ Below S w w' := by
  have hlt := hS.lt
  have HS := Lib.hid hS
  have HL : Hid ((src.extract at_ src.size).data.toList = src.data.toList.drop at_) := Lib.hid (by
    rw [extract_list, List.take_of_length_le (by simp only [List.length_drop, size_data]; omega)])
  have HLL : Hid ((src.data.toList.drop at_).length = src.size - at_) := Lib.hid (by simp only [List.length_drop, size_data])
  obtain ⟨c0, c1⟩ := hS.cells
  have f1 := hS.free
  clear hS
  have b1 : (0 : Int) ≤ (at_ : Int) := by omega
  have b2 : (at_ : Int) ≤ (src.size : Int) := by omega
  go_enter Tryz.func30, Tryz.ntmps30
  go_wp2_with fail
  go_quiet ((go_at_call 60; exact Calls.quiet_of_same (Tryz.strings_HasPrefix _ _ _)))
  rw [show Go.Lib.hasPrefix (src.extract at_ src.size).data.toList (⟨#[47, 47]⟩ : ByteArray).data.toList = true from hpre]
  clear hpre
  obtain ⟨W, hW⟩ : ∃ W, w.drewN nq = W := ⟨_, rfl⟩
  have HD : Hid (Drew w W) := Lib.hid ⟨nq, hW.symm⟩
  rw [hW]
  clear hW
  have d0 := (HD.out.cell ⟨S, 0, none⟩).trans c0
  have d1 := (HD.out.cell ⟨S, 1, none⟩).trans c1
  clear c0 c1 f1
  go_wp2_with fail
  go_quiet ((go_at_call 61; exact Calls.quiet_of_same (Tryz.strings_IndexByte _ _ _)))
  obtain ⟨W2, hW2⟩ : ∃ W2, W.drewN nq = W2 := ⟨_, rfl⟩
  have HD2 : Hid (Drew w W2) := Lib.hid (HD.out.trans ⟨nq, hW2.symm⟩)
  rw [hW2]
  clear hW2 d0 d1
  have HS2 := Lib.hid (HS.out.drew HD2.out)
  have hlt2 := HS2.out.lt
  obtain ⟨e0, e1⟩ := HS2.out.cells
  have e2 := HS2.out.free
  obtain ⟨ix, hix⟩ : ∃ ix, Go.Lib.indexByte (src.extract at_ src.size).data.toList (Int.toNat 10).toUInt8 = ix := ⟨_, rfl⟩
  have hco := idx_com (src.extract at_ src.size).data.toList
  have hix' : Go.Lib.indexByte (src.extract at_ src.size).data.toList 10 = ix := hix
  rw [hix', HL.out, HLL.out] at hco
  obtain ⟨k, hk⟩ : ∃ k, comLen (src.data.toList.drop at_) = k := ⟨_, rfl⟩
  have hkl : k ≤ src.size - at_ := by rw [← hk, ← HLL.out]; exact (List.takeWhile_prefix _).length_le
  rw [hk] at hco
  rw [hix]
  have HK := Lib.hid hk
  clear hix hix' hk
  have HB : Hid (Below S w W2) := Lib.hid (HD2.out.below S)
  by_cases h0 : 0 ≤ ix
  · obtain rfl := hco.1 h0
    clear hco
    go_wp2
    refine bodyPost_ret (results_none rfl _ _ _) rfl ?_
    refine ⟨rfl, ?_, HB.out.setCell (p := ⟨S, 1, none⟩) (Nat.le_refl _) _⟩
    rw [HK.out, show ((at_ : Int) + (k : Int)) = ((at_ + k : Nat) : Int) by omega]
    exact HS2.out.move _
  · have hk2 := hco.2 (by omega)
    clear hco
    have HK2 : Hid (at_ + k = src.size) := Lib.hid (by omega)
    clear hk2
    go_wp2
    refine bodyPost_ret (results_none rfl _ _ _) rfl ?_
    refine ⟨rfl, ?_, HB.out.setCell (p := ⟨S, 1, none⟩) (Nat.le_refl _) _⟩
    rw [HK.out, HK2.out]
    exact HS2.out.move _

set_option maxHeartbeats 1000000 in
set_option maxRecDepth 100000 in
theorem sign_tok (S at_ : Nat) (src : ByteArray) (ts : List Tok) (w : World) (c : UInt8) (hS : Scan S src w at_ ts) (hat : at_ < src.size) (hc : src.data.toList[at_]? = some c) (hs : src.size ≤ 1000000) (hn : ts.length ≤ 1000000) (hpre : Go.Lib.hasPrefix (src.extract at_ src.size).data.toList [47, 47] = false) :
    Calls Tryz.prog 30 #[.pointer (some ⟨S, 0, none⟩)] w fun e w' => AddPost S at_ src ts ⟨3, [c], 0, 0⟩ 1 w e w' := by
  have hlt := hS.lt
  have HS := Lib.hid hS
  have HL : Hid (src.extract at_ (at_ + 1) = ⟨#[c]⟩) := Lib.hid (by
    apply ba_ext
    rw [extract_list, show at_ + 1 - at_ = 1 by omega]
    have := List.drop_eq_getElem_cons (l := src.data.toList) (i := at_) (by rw [size_data]; exact hat)
    rw [this]
    have e : src.data.toList[at_]'(by rw [size_data]; exact hat) = c := by
      rw [List.getElem?_eq_getElem (by rw [size_data]; exact hat)] at hc
      injection hc
    rw [e]
    rfl)
  obtain ⟨c0, c1⟩ := hS.cells
  clear hS hc
  have b1 : (0 : Int) ≤ (at_ : Int) := by omega
  have b2 : (at_ : Int) < (src.size : Int) := by omega
  have b3 : (at_ : Int) + 1 ≤ (src.size : Int) := by omega
  have b4 : (at_ : Int) ≤ (src.size : Int) := by omega
  have b5 : (at_ : Int) ≤ (at_ : Int) + 1 := by omega
  have b6 : (0 : Int) ≤ (at_ : Int) + 1 := by omega
  go_enter Tryz.func30, Tryz.ntmps30
  go_wp2_with fail
  go_quiet ((go_at_call 60; exact Calls.quiet_of_same (Tryz.strings_HasPrefix _ _ _)))
  rw [show Go.Lib.hasPrefix (src.extract at_ src.size).data.toList (⟨#[47, 47]⟩ : ByteArray).data.toList = false from hpre]
  clear hpre
  obtain ⟨W, hW⟩ : ∃ W, w.drewN nq = W := ⟨_, rfl⟩
  have HD : Hid (Drew w W) := Lib.hid ⟨nq, hW.symm⟩
  rw [hW]
  clear hW
  have d0 := (HD.out.cell ⟨S, 0, none⟩).trans c0
  have d1 := (HD.out.cell ⟨S, 1, none⟩).trans c1
  clear c0 c1
  go_wp2_with fail
  have hwr : IntKind.i64.wrap ((at_ : Int) + 1) = (at_ : Int) + 1 := IntWalk.i64_in ((at_ : Int) + 1) (by omega)
  have htn : ((at_ : Int) + 1).toNat = at_ + 1 := by omega
  go_quiet (fail)
  clear hwr htn
  rw [HL.out]
  obtain ⟨W2, hW2⟩ : ∃ W2, W.drewN nq = W2 := ⟨_, rfl⟩
  have HD2 : Hid (Drew w W2) := Lib.hid (HD.out.trans ⟨nq, hW2.symm⟩)
  rw [hW2]
  clear hW2 d0 d1
  have HOK : Hid (okT ⟨3, [c], 0, 0⟩) := Lib.hid (okT_mk (by omega) (by simp) (by omega) (by omega))
  go_wp2_with fail
  refine (add_any S at_ src ⟨#[c]⟩ ts ⟨3, [c], 0, 0⟩ w W2 (HD2.out.below S) (HS.out.drew HD2.out) HOK.out hn (by show at_ + 1 ≤ _; omega)).mono ?_
  intro e w2 hpost
  have HP : Hid (AddPost S at_ src ts ⟨3, [c], 0, 0⟩ 1 w e w2) := Lib.hid hpost
  clear hpost
  cases hv : validB ⟨3, [c], 0, 0⟩ with
  | true =>
    obtain ⟨rfl, h2⟩ := HP.out.1 hv
    clear hv h2
    go_wp2
    first | go_end0 | refine bodyPost_ret (results_none rfl _ _ _) rfl ?_
    exact HP.out
  | false =>
    obtain rfl := HP.out.2.1 hv
    clear hv
    go_wp2
    exact ⟨rfl, HP.out⟩
end Go.Proofs.YtfnmidddgjlipaaGreatDoor
