/-
  Layer 3: the walk of LexSpaces.
-/
import Derived.Test.YtagjiljhbdjlfaaDoorLx25
import Derived.Test.YtagjiljhbdjlfaaDoorLx22
set_option linter.unusedVariables false
set_option linter.unusedSimpArgs false
namespace Go.Proofs.YtagjiljhbdjlfaaDoor
open Go.RowKit

theorem Tk.one (w : World) (t : Tok) (ty : TypeId) (hok : okT t) : Tk (w.alloc (.cells #[.int .i64 t.kind, strV t.text, .int .i64 t.n, .int .i64 t.pos] ty)) (.slice (some ⟨w.heap.size, 0, none⟩) 1 1) [t] := by
  refine ⟨w.heap.size, 0, 1, ⟨_, rfl, Nat.le_refl _, by omega, Or.inl rfl⟩, by simp, fun u hu => ?_, fun j hj => ?_⟩
  · obtain rfl := List.mem_singleton.1 hu
    exact hok
  · obtain rfl : j = 0 := by simp at hj; exact hj
    have hb : w.heap.size < (w.alloc (.cells #[.int .i64 t.kind, strV t.text, .int .i64 t.n, .int .i64 t.pos] ty)).heap.size := by simp
    exact ⟨⟨hb, World.cell?_alloc_at _ _ _ _ rfl⟩, ⟨hb, World.cell?_alloc_at _ _ _ _ rfl⟩, ⟨hb, World.cell?_alloc_at _ _ _ _ rfl⟩, ⟨hb, World.cell?_alloc_at _ _ _ _ rfl⟩⟩
/-- the words of a note -/
def noLf (l : List UInt8) : List UInt8 := l.filter fun c => c != 10
theorem noLf_succ {l : List UInt8} {k : Nat} {c : UInt8} (h : l[k]? = some c) : noLf (l.take (k + 1)) = if (c != 10) = true then noLf (l.take k) ++ [c] else noLf (l.take k) := by
  have hk := (List.getElem?_eq_some_iff.1 h).1
  unfold noLf
  rw [List.take_succ_eq_append_getElem hk, (List.getElem?_eq_some_iff.1 h).2, List.filter_append]
  by_cases hc : (c != 10) = true
  · rw [if_pos hc]; simp [hc]
  · rw [if_neg hc]; simp at hc; simp [hc]
theorem noLf_len (l : List UInt8) : (noLf l).length ≤ l.length := List.length_filter_le _ _
theorem noLf_ok (l : List UInt8) : ∀ b ∈ noLf l, (b != 10) = true := fun b hb => (List.mem_filter.1 hb).2
theorem one_text {t : Tok} : (validB t = true → textE [t] = 0 ∧ textL [t] = txt t) ∧ (validB t = false → textE [t] = 30) := by
  constructor
  · intro h
    obtain ⟨e1, e2⟩ := textE_of (ts := [t]) (by simpa using h)
    exact ⟨e1, by rw [e2]; simp [joinW]⟩
  · intro h
    unfold textE
    simp [h]
theorem extract_one' {s : ByteArray} {k : Nat} (h : k < s.size) : s.extract k (k + 1) = (⟨#[s[k]]⟩ : ByteArray) := by
  have hl := size_data s
  have e : (s.extract k (k + 1)).data.toList = [s[k]] := by
    rw [extract_list, show k + 1 - k = 1 by omega]
    have h1 : s.data.toList.drop k = s[k] :: s.data.toList.drop (k + 1) := by
      have h2 := data_get h
      obtain ⟨hlt, he⟩ := List.getElem?_eq_some_iff.1 h2
      rw [List.drop_eq_getElem_cons hlt, he]
    rw [h1]
    rfl
  have : (⟨(s.extract k (k + 1)).data.toList.toArray⟩ : ByteArray) = ⟨#[s[k]]⟩ := by rw [e]
  exact this

set_option maxHeartbeats 8000000 in
set_option maxRecDepth 100000 in
theorem lexSpaces_any (B : Nat) (ts : List Tok) (us : List Int) (v vu : Value) (s : ByteArray) (w : World) (hL : LaidW w) (hB : B ≤ w.heap.size) (hv : IsToks B w v ts) (hu : IsU8s B w vu us) (hs : s.size ≤ 140737488351232) :
    Calls Tryd.prog 8 #[v, vu, .string s] w fun e w' => e = .returned (.bool true) ∧ Below w.heap.size w w' := by
  have HL0 := Lib.hid hL
  have h4 := hL.size
  have HV := Lib.hid hv
  have HU := Lib.hid hu
  have hlen := size_data s
  obtain ⟨a, c, rfl, hc1, hc2, hc3⟩ := hv.form
  obtain ⟨au, cu, rfl, hu1, hu2, hu3⟩ := hu.form
  clear hL hv hu
  go_enter Tryd.func8, Tryd.ntmps8
  go_wp2_with fail
  refine (sane_any w HL0.out).mono ?_
  rintro e w1 ⟨rfl, hb⟩
  have HB1 := Lib.hid hb
  have HV1 := Lib.hid (HV.out.below hb hB)
  have HU1 := Lib.hid (HU.out.below hb hB)
  have HL1 := Lib.hid (HL0.out.below hb h4)
  clear hb
  go_wp2_with fail
  refine (few_any B w1 _ ts HV1.out).mono ?_
  rintro e w2 ⟨rfl, rfl⟩
  cases hf : fewB ts with
  | false =>
    clear hf
    go_wp2
    go_ret
    exact ⟨rfl, HB1.out⟩
  | true =>
    by_cases hbig : 100 < s.size
    · clear hlen hf
      go_wp2
      go_ret
      exact ⟨rfl, HB1.out⟩
    · have HFB := Lib.hid (few_bd hf)
      have HF := Lib.hid hf
      have hsm : (s.size : Int) ≤ 100 := by omega
      have hs2 : s.size ≤ 100 := by omega
      have hz1 := HB1.out.size
      have HG := Lib.hid (fun k (hk : k < s.size) => data_get hk)
      have HLN := Lib.hid hlen
      clear hf hlen hbig
      go_wp2
      go_loop [7, 8] (fun xv iv => ∃ (k : Nat) (sx : ByteArray), k ≤ s.size ∧ iv = .int .i64 k ∧ xv = .string sx ∧ sx.data.toList = noLf (s.data.toList.take k) ∧ sx.size ≤ k) (fun xv iv => s.size - (intOf iv).toNat)
      case atStart => exact ⟨0, ByteArray.empty, Nat.zero_le _, rfl, rfl, rfl, Nat.le_refl _⟩
      case round =>
        obtain ⟨k, sx, hk, rfl, rfl, hxs, hxl⟩ := hrel
        have HXS := Lib.hid hxs
        clear hxs
        by_cases hlt : k < s.size
        · have HSU := Lib.hid (noLf_succ (HG.out k hlt))
          by_cases h10 : s[k] = 10
          · have n10 : (s[k].toNat : Int) = 10 := by rw [h10]; rfl
            have HN : Hid (sx.data.toList = noLf (s.data.toList.take (k + 1))) := Lib.hid (by rw [HSU.out, h10, if_neg (by decide)]; exact HXS.out)
            clear h10
            go_wp2
            go_round
            case rel => exact ⟨k + 1, sx, by omega, by go_num, rfl, HN.out, by omega⟩
            case measure => simp [intOf]; omega
          · have n10 : ¬ (s[k].toNat : Int) = 10 := fun e => h10 (UInt8.toNat_inj.1 (by show _ = 10; omega))
            have hb10 : (s[k] != 10) = true := by simpa using h10
            have HXE := Lib.hid (extract_one' hlt)
            have HN : Hid ((sx ++ s.extract k (k + 1)).data.toList = noLf (s.data.toList.take (k + 1))) := Lib.hid (by rw [HSU.out, if_pos hb10, data_app, HXS.out, HXE.out])
            have HZ : Hid ((sx ++ s.extract k (k + 1)).size ≤ k + 1) := Lib.hid (by rw [HXE.out, ByteArray.size_append]; show sx.size + 1 ≤ _; omega)
            have hz1 : (s.extract k (k + 1)).size = 1 := by rw [HXE.out]; rfl
            clear h10 hb10
            go_wp2
            go_round
            case rel => exact ⟨k + 1, _, by omega, by go_num, rfl, HN.out, HZ.out⟩
            case measure => simp [intOf]; omega
        · obtain rfl : k = s.size := by omega
          have HWD : Hid (sx.data.toList = noLf s.data.toList) := Lib.hid (by have := HXS.out; rwa [List.take_of_length_le (by rw [HLN.out]; omega)] at this)
          have hxl2 : (sx.size : Int) ≤ 100 := by omega
          go_wp2
          obtain ⟨wd, hwd⟩ : ∃ wd, noLf s.data.toList = wd := ⟨_, rfl⟩
          have HWL : Hid (wd.length ≤ 100) := Lib.hid (by rw [← hwd]; have := noLf_len s.data.toList; have h2 := HLN.out; omega)
          have HW10 : Hid (∀ b ∈ wd, (b != 10) = true) := Lib.hid (by rw [← hwd]; exact noLf_ok _)
          rw [hwd] at HWD
          obtain ⟨W5, hW5⟩ : ∃ W, w2.alloc (.cells #[.string ⟨#[32]⟩, .string ⟨#[9]⟩, .string ⟨#[10]⟩, .string ⟨#[13, 10]⟩, .string ⟨#[32, 32]⟩, .string ((⟨#[47, 47]⟩ : ByteArray) ++ sx ++ (⟨#[10]⟩ : ByteArray)), .string ⟨#[32, 47, 47, 32, 10]⟩, .string ⟨#[10, 47, 47, 10]⟩] 9) = W := ⟨_, rfl⟩
          have HCE : Hid (∀ q, q < 8 → W5.cell? ⟨w2.heap.size, q, none⟩ = some (strV ((gapsOf wd).getD q []))) := Lib.hid (by
            intro q hq
            rw [← hW5, World.cell?_alloc_at _ _ _ _ rfl]
            have e5 : strV (47 :: 47 :: wd ++ [10]) = .string ((⟨#[47, 47]⟩ : ByteArray) ++ sx ++ (⟨#[10]⟩ : ByteArray)) := by
              have hsx : (⟨wd.toArray⟩ : ByteArray) = sx := by rw [← HWD.out]
              have h1 := strV_app ([47, 47] ++ wd) [10]
              have h2 := strV_app [47, 47] wd
              unfold strV at h2
              injection h2 with h2
              rw [h2, hsx] at h1
              exact h1
            match q, hq with
            | 0, _ => rfl
            | 1, _ => rfl
            | 2, _ => rfl
            | 3, _ => rfl
            | 4, _ => rfl
            | 5, _ => exact congrArg some e5.symm
            | 6, _ => rfl
            | 7, _ => rfl)
          have HB5 : Hid (Below w.heap.size w W5) := Lib.hid (by rw [← hW5]; exact HB1.out.alloc hz1 _)
          have hz5 : w2.heap.size < W5.heap.size := by rw [← hW5]; simp
          rw [hW5]
          have HV5 := Lib.hid (HV.out.below HB5.out hB)
          have HU5 := Lib.hid (HU.out.below HB5.out hB)
          clear hW5 HXS hwd hxl hlt hk
          go_loopw [10, 54] (fun xv iv wr => ∃ k : Nat, k ≤ ts.length ∧ iv = .int .i64 k ∧ xv = strV (headS ts wd us k) ∧ (∀ j, j < k → validB (tokAt ts j) = true) ∧ Below W5.heap.size W5 wr) (fun xv iv _ => ts.length - (intOf iv).toNat)
          case atStart => exact ⟨0, by omega, rfl, rfl, fun j hj => by omega, Below.refl _ _⟩
          case round =>
            obtain ⟨k, hk, rfl, hxe, hall, hbr⟩ := hrel
            have HA := Lib.hid hall
            have HBR := Lib.hid hbr
            have hzr := hbr.size
            have HHL := Lib.hid (headS_len (us := us) HF.out HWL.out hk hall)
            clear hall hbr
            obtain ⟨hx, hhx⟩ : ∃ hx : ByteArray, (⟨(headS ts wd us k).toArray⟩ : ByteArray) = hx := ⟨_, rfl⟩
            have hxz : hx.size ≤ 40000 := by rw [← hhx, len_mk]; exact HHL.out
            rw [show strV (headS ts wd us k) = .string hx from by rw [← hhx]] at hxe
            subst hxe
            have HHX := Lib.hid hhx
            clear hhx
            by_cases hlt : k < ts.length
            · obtain ⟨b, off, rfl, bb, g0, g1, g2, g3⟩ := (HV5.out.below HBR.out (by omega)).cells hlt
              have HOK := Lib.hid (HV5.out.ok hlt)
              have HTM : Hid (tokAt ts k ∈ ts) := Lib.hid (by rw [tokAt_get hlt]; exact List.getElem_mem hlt)
              have hbl : ¬ b = wr.heap.size := by omega
              go_upto_region 16 with fail
              rw [show (Value.string ⟨(tokAt ts k).text.toArray⟩) = strV (tokAt ts k).text from rfl]
              obtain ⟨tk, htk⟩ : ∃ tk, tokAt ts k = tk := ⟨_, rfl⟩
              have HTK := Lib.hid htk
              rw [htk] at HOK HTM ⊢
              have HKW := Lib.hid (CellsN.new wr #[.int .i64 tk.kind, strV tk.text, .int .i64 tk.n, .int .i64 tk.pos] 35)
              have HBX : Hid (Below W5.heap.size W5 (wr.alloc (.cells #[.int .i64 tk.kind, strV tk.text, .int .i64 tk.n, .int .i64 tk.pos] 35))) := Lib.hid (HBR.out.alloc hzr _)
              obtain ⟨W, hW⟩ : ∃ W, wr.alloc (.cells #[.int .i64 tk.kind, strV tk.text, .int .i64 tk.n, .int .i64 tk.pos] 35) = W := ⟨_, rfl⟩
              have hzW := HBX.out.size
              rw [hW] at HKW HBX hzW ⊢
              clear hW g0 g1 g2 g3 htk
              have m0 := HKW.out.cell 0
              have m1 := HKW.out.cell 1
              have m2 := HKW.out.cell 2
              have m3 := HKW.out.cell 3
              simp at m0 m1 m2 m3
              have HBY : Hid (Below w.heap.size w (W.alloc (.cells #[.int .i64 tk.kind, strV tk.text, .int .i64 tk.n, .int .i64 tk.pos] 35))) := Lib.hid ((HB5.out.trans (HBX.out.mono (by omega))).alloc (by omega) _)
              have HTW := Lib.hid (Tk.one W tk 35 HOK.out)
              go_wp2_with fail
              refine (text_any _ _ _ [tk] (HL0.out.below HBY.out h4) (Nat.le_refl _) HTW.out (by simp) (fun t ht => by obtain rfl := List.mem_singleton.1 ht; exact HFB.out.2 _ HTM.out)).mono ?_
              rintro e w7 ⟨rfl, hb⟩
              have HB7 : Hid (Below w.heap.size w w7) := Lib.hid (HBY.out.trans (hb.mono HBY.out.size))
              have HC7 : Hid (Below W5.heap.size W5 w7) := Lib.hid ((HBX.out.alloc hzW _).trans (hb.mono (by simp; omega)))
              have hz7 := HC7.out.size
              clear hb m0 m1 m2 m3
              cases hvb : validB tk with
              | false =>
                have HTE := Lib.hid (one_text.2 hvb)
                have HNA : Hid (textE ts = 30) := Lib.hid (by unfold textE; rw [not_all hlt (by rw [HTK.out]; exact hvb)]; rfl)
                rw [HTE.out]
                clear hvb
                go_wp2_with fail
                refine (text_any B w7 _ ts (HL0.out.below HB7.out h4) (by omega) (HV.out.below HB7.out hB) HFB.out.1 HFB.out.2).mono ?_
                rintro e w8 ⟨rfl, hb⟩
                have HB8 : Hid (Below w.heap.size w w8) := Lib.hid (HB7.out.trans (hb.mono HB7.out.size))
                rw [HNA.out]
                clear hb
                go_wp2
                go_ret
                exact ⟨rfl, HB8.out⟩
              | true =>
                have HTE := Lib.hid (one_text.1 hvb)
                have HA2 : Hid (∀ j, j < k + 1 → validB (tokAt ts j) = true) := Lib.hid (fun j hj => by
                  by_cases h : j < k
                  · exact HA.out j h
                  · obtain rfl : j = k := by omega
                    rw [HTK.out]; exact hvb)
                have HHL2 := Lib.hid (headS_len (us := us) HF.out HWL.out (k := k + 1) (by omega) HA2.out)
                have HSU := Lib.hid (headS_succ ts wd us k)
                rw [HTE.out.1, HTE.out.2]
                obtain ⟨tx, htx⟩ : ∃ tx : ByteArray, (⟨(txt tk).toArray⟩ : ByteArray) = tx := ⟨_, rfl⟩
                obtain ⟨gx, hgx⟩ : ∃ gx : ByteArray, (⟨(gapAt wd us k).toArray⟩ : ByteArray) = gx := ⟨_, rfl⟩
                have hlens : hx.size + (tx.size + 1 + gx.size) ≤ 40000 := by
                  have h1 := HHL2.out
                  rw [HSU.out, HTK.out] at h1
                  simp only [List.length_append, List.length_cons, List.length_nil] at h1
                  rw [← htx, ← hgx, ← HHX.out, len_mk, len_mk, len_mk]
                  omega
                have HNX : Hid (Value.string (hx ++ (tx ++ (⟨#[32]⟩ : ByteArray) ++ gx)) = strV (headS ts wd us (k + 1))) := Lib.hid (by
                  rw [HSU.out, HTK.out, strV_app, HHX.out]
                  have h1 := strV_app (txt tk ++ [32]) (gapAt wd us k)
                  have h2 := strV_app (txt tk) [32]
                  unfold strV at h1 h2
                  injection h1 with h1
                  injection h2 with h2
                  rw [h1, h2, htx, hgx])
                rw [show strV (txt tk) = .string tx from by rw [← htx]]
                have HGX : Hid (strV (gapAt wd us k) = .string gx) := Lib.hid (by rw [← hgx])
                have h1s : (⟨#[32]⟩ : ByteArray).size = 1 := rfl
                have hl1 : tx.size ≤ 40000 := by omega
                have hl2 : gx.size ≤ 40000 := by omega
                clear hvb htx hgx
                by_cases hku : k < us.length
                · obtain ⟨b', off', u, rfl, bb', hue, u1, u2, uc⟩ := (HU5.out.below HC7.out (by omega)).cell hku
                  obtain ⟨q, hq⟩ : ∃ q : Nat, u % 8 = (q : Int) := ⟨(u % 8).toNat, by omega⟩
                  have hq8 : q < 8 := by omega
                  have hq9 : (q : Int) < 8 := by omega
                  have hqt : u.tmod 8 = (q : Int) := by rw [Int.tmod_eq_emod_of_nonneg u1]; exact hq
                  have HGC : Hid (w7.cell? ⟨w2.heap.size, q, none⟩ = some (.string gx)) := Lib.hid (by
                    have h1 := HC7.out.cell (p := ⟨w2.heap.size, q, none⟩) hz5
                    rw [h1, HCE.out q hq8, ← HGX.out]
                    unfold gapAt
                    rw [if_pos hku, ← hue, hq]
                    rfl)
                  have gc := HGC.out
                  clear hue
                  go_wp2
                  go_roundw
                  case rel => exact ⟨k + 1, by omega, by go_num, HNX.out, HA2.out, HC7.out⟩
                  case measure => simp [intOf]; omega
                · have HG32 : Hid (gx = (⟨#[32]⟩ : ByteArray)) := Lib.hid (by
                    have := HGX.out
                    unfold gapAt strV at this
                    rw [if_neg hku] at this
                    injection this with this
                    exact this.symm)
                  rw [HG32.out] at HNX
                  go_wp2
                  go_roundw
                  case rel => exact ⟨k + 1, by omega, by go_num, HNX.out, HA2.out, HC7.out⟩
                  case measure => simp [intOf]; omega
            · obtain rfl : k = ts.length := by omega
              obtain ⟨z1, z2, z3⟩ := spaces_law (us := us) HF.out HWL.out HW10.out HA.out
              have HZ3 := Lib.hid z3
              have HE1 : Hid (lexE hx.data.toList = 0 ∧ lexP hx.data.toList = 0 ∧ hx.data.toList = headS ts wd us ts.length) := Lib.hid (by rw [← HHX.out]; exact ⟨z1, z2, rfl⟩)
              have HBW : Hid (Below w.heap.size w wr) := Lib.hid (HB5.out.trans (HBR.out.mono (by omega)))
              clear z1 z2 z3
              go_wp2_with fail
              refine (lex_any hx wr (HL0.out.below HBW.out h4) (by omega)).mono ?_
              rintro e w8 ⟨v8, rfl, ho, hb⟩
              have HB8 : Hid (Below w.heap.size w w8) := Lib.hid (HBW.out.trans (hb.mono HBW.out.size))
              have HV8 := Lib.hid (HV.out.below HB8.out hB)
              have hz8 := HB8.out.size
              rw [HE1.out.1, HE1.out.2.1]
              rw [HE1.out.2.2] at ho
              have HO8 := Lib.hid (Tk.of ho)
              obtain ⟨a8, c8, rfl⟩ := ho.form
              clear hb ho
              go_wp2_with fail
              refine (same_any w8.heap.size w8 _ _ _ _ (Nat.le_refl _) (HV8.out.mono (by omega)) HO8.out).mono ?_
              rintro e w9 ⟨rfl, hb⟩
              have HB9 : Hid (Below w.heap.size w w9) := Lib.hid (HB8.out.trans (hb.mono HB8.out.size))
              rw [HZ3.out]
              clear hb
              go_wp2
              go_ret
              exact ⟨rfl, HB9.out⟩
end Go.Proofs.YtagjiljhbdjlfaaDoor
