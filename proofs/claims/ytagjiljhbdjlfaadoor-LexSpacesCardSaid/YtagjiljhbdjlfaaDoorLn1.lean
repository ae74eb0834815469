/-
  Layer 3: the walk of LexNames.
-/
import Derived.Test.YtagjiljhbdjlfaaDoorLx16
set_option linter.unusedVariables false
set_option linter.unusedSimpArgs false
namespace Go.Proofs.YtagjiljhbdjlfaaDoor
open Go.RowKit

theorem names_yes {l : List UInt8} (h : nameB l = true) (hl : l.length ≤ 65536) : lexT l = [⟨1, l, 0, 0⟩] ∧ lexP l = 0 ∧ lexE l = 0 := by
  have h1 := name_iff.1 h
  have h2 : ¬ l.length > 65536 := by omega
  unfold lexT lexP lexE
  rw [if_neg h2, if_neg h2, if_neg h2, h1]
  exact ⟨rfl, rfl, rfl⟩
theorem lexT_valid {l : List UInt8} : ∀ t ∈ lexT l, validB t = true := by
  intro t ht
  unfold lexT at ht
  split at ht
  · cases ht
  · split at ht
    · exact lexA_valid l 0 t ht
    · cases ht

set_option maxHeartbeats 2000000 in
set_option maxRecDepth 100000 in
theorem lexNames_any (src : ByteArray) (w : World) (hL : LaidW w) (hs : src.size ≤ 9223372036854775806) :
    Calls Tryd.prog 10 #[.string src] w fun e w' => e = .returned (.bool true) ∧ Below w.heap.size w w' := by
  have HL0 := Lib.hid hL
  have h4 := hL.size
  have hlen := size_data src
  clear hL
  go_enter Tryd.func10, Tryd.ntmps10
  go_wp2_with fail
  refine (sane_any w HL0.out).mono ?_
  rintro e w1 ⟨rfl, hb⟩
  have HB1 := Lib.hid hb
  have HL1 := Lib.hid (HL0.out.below hb h4)
  clear hb
  by_cases hbig : 1000 < src.size
  · go_wp2
    go_ret
    exact ⟨rfl, HB1.out⟩
  · have hok : okT ⟨1, src.data.toList, 0, 0⟩ := okT_mk (by omega) (by omega) (by omega) (by omega)
    have HOK := Lib.hid hok
    clear hok
    go_wp2_with fail
    refine (lex_any src w1 HL1.out hs).mono ?_
    rintro e w2 ⟨v, rfl, ho, hb⟩
    have HB2 : Hid (Below w.heap.size w w2) := Lib.hid (HB1.out.trans (hb.mono HB1.out.size))
    have HL2 := Lib.hid (HL0.out.below HB2.out h4)
    clear hb
    have HNW : Hid (Tk (w2.alloc (.cells #[.int .i64 1, .string src, .int .i64 0, .int .i64 0] 35)) (.slice (some ⟨w2.heap.size, 0, none⟩) 1 1) [⟨1, src.data.toList, 0, 0⟩]) := Lib.hid (Tk.newS w2 src 35 HOK.out)
    have HBA : Hid (Below w.heap.size w (w2.alloc (.cells #[.int .i64 1, .string src, .int .i64 0, .int .i64 0] 35))) := Lib.hid (HB2.out.alloc HB2.out.size _)
    cases hnb : nameB src.data.toList with
    | true =>
      obtain ⟨e1, e2, e3⟩ := names_yes hnb (by omega)
      rw [e1] at ho
      rw [e2, e3]
      have HN := Lib.hid hnb
      have HT : Hid (textE [⟨1, src.data.toList, 0, 0⟩] = 0) := Lib.hid (by simp [textE, validB, hnb])
      obtain ⟨a, c, rfl⟩ := ho.form
      obtain ⟨b, off, rfl, _, g0, g1, g2, g3⟩ := IsToks.cells (ts := [⟨1, src.data.toList, 0, 0⟩]) (Tk.of ho) (k := 0) (by simp)
      simp only [show tokAt [(⟨1, src.data.toList, 0, 0⟩ : Tok)] 0 = ⟨1, src.data.toList, 0, 0⟩ from rfl, Nat.zero_mul, Nat.add_zero] at g0 g1 g2 g3
      clear ho e1 e2 e3 hnb
      go_wp2_with fail
      refine (text_any _ _ _ [⟨1, src.data.toList, 0, 0⟩] (HL0.out.below HBA.out h4) (Nat.le_refl _) HNW.out (by simp) (by simp; omega)).mono ?_
      rintro e w3 ⟨rfl, hb⟩
      rw [HT.out]
      have HB3 : Hid (Below w.heap.size w w3) := Lib.hid (HBA.out.trans (hb.mono HBA.out.size))
      clear hb
      go_wp2_with fail
      refine (name_any src _ hs).mono ?_
      rintro e w4 ⟨rfl, rfl⟩
      rw [HN.out]
      go_wp2
      go_ret
      exact ⟨rfl, HB3.out⟩
    | false =>
      have HN := Lib.hid hnb
      have HT : Hid (textE [⟨1, src.data.toList, 0, 0⟩] = 30) := Lib.hid (by simp [textE, validB, hnb])
      clear hnb
      obtain ⟨a, c, rfl⟩ := ho.form
      by_cases hE : lexE src.data.toList = 0
      · rw [hE]
        clear hE
        by_cases h1 : (lexT src.data.toList).length = 1
        · obtain ⟨t, ht⟩ := List.length_eq_one_iff.1 h1
          have hv := lexT_valid (l := src.data.toList) t (by rw [ht]; simp)
          rw [ht] at ho ⊢
          obtain ⟨b, off, rfl, _, g0, g1, g2, g3⟩ := IsToks.cells (ts := [t]) (Tk.of ho) (k := 0) (by simp)
          simp only [show tokAt [t] 0 = t from rfl, Nat.zero_mul, Nat.add_zero] at g0 g1 g2 g3
          by_cases hk : t.kind = 1
          · have hx : t.text ≠ src.data.toList := by
              intro e
              have := (valid_name hv hk).1
              rw [e, HN.out] at this
              cases this
            have hx2 : (t.text == src.data.toList) = false := by simp [hx]
            have hx3 : (t.text == src.toList) = false := by rw [ByteArray.toList_eq]; exact hx2
            rw [hk] at g0
            clear ho hv h1 ht hk hx
            go_wp2_with fail
            refine (text_any _ _ _ [⟨1, src.data.toList, 0, 0⟩] (HL0.out.below HBA.out h4) (Nat.le_refl _) HNW.out (by simp) (by simp; omega)).mono ?_
            rintro e w3 ⟨rfl, hb⟩
            rw [HT.out]
            have HB3 : Hid (Below w.heap.size w w3) := Lib.hid (HBA.out.trans (hb.mono HBA.out.size))
            clear hb
            go_wp2_with fail
            refine (name_any src _ hs).mono ?_
            rintro e w4 ⟨rfl, rfl⟩
            rw [HN.out]
            go_wp2
            go_ret
            exact ⟨rfl, HB3.out⟩
          · have hk2 : (t.kind == 1) = false := by simpa using hk
            clear ho hv h1 ht hk
            go_wp2_with fail
            refine (text_any _ _ _ [⟨1, src.data.toList, 0, 0⟩] (HL0.out.below HBA.out h4) (Nat.le_refl _) HNW.out (by simp) (by simp; omega)).mono ?_
            rintro e w3 ⟨rfl, hb⟩
            rw [HT.out]
            have HB3 : Hid (Below w.heap.size w w3) := Lib.hid (HBA.out.trans (hb.mono HBA.out.size))
            clear hb
            go_wp2_with fail
            refine (name_any src _ hs).mono ?_
            rintro e w4 ⟨rfl, rfl⟩
            rw [HN.out]
            go_wp2
            go_ret
            exact ⟨rfl, HB3.out⟩
        · have h2 : (((lexT src.data.toList).length : Int) == 1) = false := by simp; omega
          clear ho h1
          go_wp2_with fail
          refine (text_any _ _ _ [⟨1, src.data.toList, 0, 0⟩] (HL0.out.below HBA.out h4) (Nat.le_refl _) HNW.out (by simp) (by simp; omega)).mono ?_
          rintro e w3 ⟨rfl, hb⟩
          rw [HT.out]
          have HB3 : Hid (Below w.heap.size w w3) := Lib.hid (HBA.out.trans (hb.mono HBA.out.size))
          clear hb
          go_wp2_with fail
          refine (name_any src _ hs).mono ?_
          rintro e w4 ⟨rfl, rfl⟩
          rw [HN.out]
          go_wp2
          go_ret
          exact ⟨rfl, HB3.out⟩
      · have h2 : (lexE src.data.toList == 0) = false := by simpa using hE
        clear ho hE
        go_wp2_with fail
        refine (text_any _ _ _ [⟨1, src.data.toList, 0, 0⟩] (HL0.out.below HBA.out h4) (Nat.le_refl _) HNW.out (by simp) (by simp; omega)).mono ?_
        rintro e w3 ⟨rfl, hb⟩
        rw [HT.out]
        have HB3 : Hid (Below w.heap.size w w3) := Lib.hid (HBA.out.trans (hb.mono HBA.out.size))
        clear hb
        go_wp2_with fail
        refine (name_any src _ hs).mono ?_
        rintro e w4 ⟨rfl, rfl⟩
        rw [HN.out]
        go_wp2
        go_ret
        exact ⟨rfl, HB3.out⟩
end Go.Proofs.YtagjiljhbdjlfaaDoor
