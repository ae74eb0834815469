/-
  Layer 31: the walk of promise.Broken.
-/
import Derived.Test.YtndcbnnbgedgcaaP31c
set_option linter.unusedVariables false
set_option linter.unusedSimpArgs false
namespace Go.Proofs.Ytndcbnnbgedgcaa
open Go.RowKit
attribute [local go_sem] Oper.semAt_some

set_option maxHeartbeats 2000000 in
set_option maxRecDepth 100000 in
/-- promise.Broken -/
theorem broken_any (B : Nat) (w : World) (vs vl vn : Value) (f : Flow) (need : List Int) (hf : IsFlow B w vs vl f) (hn : IsInts B w vn need) (hB : B ≤ w.heap.size) :
    Calls Try.prog 15 #[.agg #[vs, vl], vn] w fun e w' => ∃ v, e = .returned (.tuple #[v, .int .i64 (brokenE f need)]) ∧ OwnInts w.heap.size w' v (brokenR f need) ∧ Below w.heap.size w w' := by
  have HF := Lib.hid hf
  obtain ⟨rfl, ⟨hs1, hs2⟩, hl⟩ := hf
  obtain ⟨b, off, cap, ⟨a, rfl, hcap, hmax, ha⟩, hlen, hc⟩ := hl
  obtain ⟨b1, off1, cap1, ⟨a1, rfl, hcap1, hmax1, ha1⟩, hlen1, hz1, hc1⟩ := hn
  have HC1 := Lib.hid hc1
  have HZ1 := Lib.hid hz1
  clear hc ha hc1 hz1
  have HC := Lib.hid (fun o o' o2 => fcheck_any B (((w.alloc o).alloc o').alloc o2) _ _ f (HF.out.below ((((Below.refl B w).alloc hB o).alloc (by simp; omega) o').alloc (by simp; omega) o2) (Nat.le_refl _)) (by simp; omega))
  by_cases h1 : checkE f = 0
  · have HK := Lib.hid (checkE_ok h1)
    have h1' : (checkE f != 0) = false := by simpa using h1
    have H1 := Lib.hid h1
    clear h1
    by_cases h2 : (need.length : Int) = f.senders
    · have h2' : ((need.length : Int) != f.senders) = false := by simpa using h2
      have HE : Hid (brokenE f need = 0) := Lib.hid (by unfold brokenE; rw [if_neg (by simp [H1.out]), if_neg (by simpa using h2)])
      have HR : Hid (brokenR f need = brokenTo f need need.length) := Lib.hid (by unfold brokenR; rw [if_pos HE.out, ← h2]; rfl)
      have HN : Hid (f.senders = (need.length : Int)) := Lib.hid h2.symm
      have hn64 : need.length ≤ 64 := by have := HK.out; omega
      clear h2
      refine (callsIn_wide (n := 11)).1 ?_
      refine callsIn_of_wp_marks Try.func15 rfl trivial ?_ rfl
      simp only [Try.ntmps15, List.size_toArray, List.length_cons, List.length_nil, Nat.reduceAdd, Nat.reduceSub, Array.replicate_succ, Array.replicate_zero, List.push_toArray, List.append_toArray, List.nil_append, List.cons_append]
      gi_wp2_with fail
      refine ⟨trivial, (callsIn_wide.2 (HC.out _ _ _)).mono ?_⟩
      rintro e w5 ⟨rfl, hb5⟩
      have HX5 := Lib.hid ((((Box.new w #[.int .i64 f.senders, .slice a f.lots.length cap] 24).alloc (.cells #[.slice a1 need.length cap1] 25)).alloc (.cells #[.slice none 0 0] 25)).ext hb5)
      have HN5 := Lib.hid (((Box.new (w.alloc (.cells #[.int .i64 f.senders, .slice a f.lots.length cap] 24)) #[.slice a1 need.length cap1] 25).alloc (.cells #[.slice none 0 0] 25)).ext hb5)
      have HL5 := Lib.hid ((Cell1.new ((w.alloc (.cells #[.int .i64 f.senders, .slice a f.lots.length cap] 24)).alloc (.cells #[.slice a1 need.length cap1] 25)) (.slice none 0 0) 25).ext hb5)
      have HW5 : Hid (Below w.heap.size w w5) := Lib.hid (((((Below.refl _ w).alloc (Nat.le_refl _) _).alloc (by simp) _).alloc (by simp; omega) _).trans (hb5.mono (by simp; omega)))
      simp only [World.size_alloc] at HN5 HL5 ⊢
      obtain ⟨bn, hbn⟩ : ∃ x, w.heap.size + 1 = x := ⟨_, rfl⟩
      simp only [hbn] at HN5 HL5 ⊢
      obtain ⟨bl, hbl⟩ : ∃ x, bn + 1 = x := ⟨_, rfl⟩
      simp only [hbl] at HL5 ⊢
      have HBO : Hid (w.heap.size < bn ∧ bn < bl) := Lib.hid (by omega)
      obtain ⟨z5, r5⟩ := HX5.out
      obtain ⟨y5, q5⟩ := HN5.out
      clear hb5 hbn hbl
      gi_wp2_with fail
      refine ⟨trivial, (callsIn_wide.2 (crowds_any w5 _ _ f B (HF.out.below HW5.out hB))).mono ?_⟩
      rintro e w6 ⟨rfl, hw6⟩
      have HZ := Lib.hid HL5.out.lt
      have HW6 := Lib.hid (HW5.out.alloc (HW5.out.size) (.cells #[.int .i64 f.senders, .slice a f.lots.length cap] 24))
      have HL6 := Lib.hid (HL5.out.alloc (.cells #[.int .i64 f.senders, .slice a f.lots.length cap] 24))
      have HN6 := Lib.hid (HN5.out.alloc (.cells #[.int .i64 f.senders, .slice a f.lots.length cap] 24))
      have HX6 := Lib.hid (Box.new w5 #[.int .i64 f.senders, .slice a f.lots.length cap] 24)
      obtain ⟨bf, hbf⟩ : ∃ x, w5.heap.size = x := ⟨_, rfl⟩
      rw [hbf] at HX6 HZ ⊢
      rw [← hw6] at HW6 HL6 HN6 HX6
      clear hw6 z5 r5 y5 q5 hbf HX5 HL5 HN5 HW5
      gi_wp2
      refine range_law (w := w6) rfl (enters_of Try.func72 (by kernel_rfl) rfl) (crowds_iter B bf need.length w6 _ _ f (HF.out.below HW6.out hB) (by have := HW6.out.size; omega) HX6.out H1.out HN.out) (Turned.refl _ _)
        (fun k hk => by rcases hk with hk | rfl; have := HW6.out.size; omega; exact HX6.out.1) (fun k => k = bl) (fun k hk => ⟨by rw [hk]; exact HL6.out.lt, by rw [hk]; rintro (h | h); have := HBO.out; omega; have := HZ.out; omega⟩)
        (fun i W args h => by rw [h]; rfl) (fun i A B args h _ => h)
        (fun s i W => ∃ v, Cell1 W bl v ∧ Box W bn #[.slice a1 need.length cap1] ∧ OwnInts s W v (brokenTo f need i) ∧ Below w.heap.size w W) (fun _ _ _ _ => False) ?hI (fun _ _ _ _ _ _ h _ => h) ?h0 ?hround ?hdone (fun _ _ _ _ _ _ _ _ _ h _ => h.elim)
      case hI =>
        rintro s i A A' hs ⟨v, h1, hb, h2, h3⟩ ht
        have := HW6.out.size
        exact ⟨v, h1.turned ht (fun h => by have := HL6.out.lt; omega), hb.turned ht (fun h => by have := HN6.out.1; omega), h2.turned ht (fun k hk h => by omega), h3.trans (ht.below h3.size (fun k hk h => by omega))⟩
      case h0 =>
        intro s W1 hs hs1 hb
        exact ⟨_, HL6.out.ext hb, HN6.out.ext hb, OwnInts.nil _ _, HW6.out.trans (hb.mono HW6.out.size)⟩
      case hround =>
        rintro l s i W args hs hsW hi ⟨v, h1, hbx, h2, h3⟩ rfl
        gi_wp2
        refine ⟨Below.refl _ _, fun W2 ht => ?_⟩
        have q1 := h1.turned ht (fun h => by have := HL6.out.lt; omega)
        have qb := hbx.turned ht (fun h => by have := HN6.out.1; omega)
        have q2 := h2.turned ht (fun k hk h => by omega)
        have HB2 : Hid (Below w.heap.size w W2) := Lib.hid (h3.trans (ht.below h3.size (fun k hk h => by have := HW6.out.size; omega)))
        have HQ1 := Lib.hid q1
        have HQB := Lib.hid qb
        have HQ2 := Lib.hid q2
        have HSZ : Hid (s ≤ W2.heap.size) := Lib.hid (by have := ht.size; omega)
        have HBS : Hid (bl < s) := Lib.hid (by have := HL6.out.lt; omega)
        have HLn := Lib.hid (brokenTo_len f need i)
        have c1 := q1.cell
        obtain ⟨zb, rb⟩ := qb
        obtain rfl : a1 = some ⟨b1, off1, none⟩ := by rcases ha1 with ha | ha; exact ha; omega
        have hb1 : b1 < w.heap.size := Nat.lt_of_lt_of_le (HC1.out i hi).1 hB
        have hcell := (HB2.out.cell (p := ⟨b1, off1 + i, none⟩) hb1).trans (HC1.out i hi).2
        clear h1 h2 h3 q1 q2 ht hbx
        by_cases hg : ((reachL f i).length : Int) < nth need i
        · have HS : Hid (brokenTo f need (i + 1) = brokenTo f need i ++ [(i : Int)]) := Lib.hid (by simp [brokenTo, crowdI, hg])
          have HG := Lib.hid (decide_eq_true hg)
          clear hg
          gi_wp2_with (first
            | (refine ⟨trivial, ?_⟩; gi_at_call 37; refine (callsIn_wide.2 (less_any _ _ _)).mono ?_; rintro e w7 ⟨rfl, hw7⟩; subst w7; rw [HG.out])
            | (gi_at_builtin; refine append_intIn (n := (i : Int)) rfl _ _ rfl rfl (HQ2.out.alloc _) rfl ?c1 ?c2 ?c3 ?c4 ?c5))
          try (case c1 => exact World.cell?_alloc_at _ _ _ _ rfl)
          try (case c2 => unfold I64; omega)
          case c3 => have := HLn.out; simp; omega
          try (case c4 => have := HSZ.out; simp; omega)
          case c5 =>
            intro v' w8 ho8 hg8
            obtain ⟨a8, m8, n8, rfl⟩ := ho8.form'
            have hne : some bl ≠ v.ownBlock := fun e => by have := (HQ2.out.1.lt bl e.symm).1; have := HBS.out; omega
            have k8 := (HQ1.out.alloc (.cells #[.int .i64 (i : Int)] 3)).grown hg8 hne
            have HK8 := Lib.hid k8
            have HO8 := Lib.hid ho8
            have HG8 : Hid (Turned (fun k => k = bl ∨ s ≤ k) W2 w8) := Lib.hid ((Turned.of_below (box_below' W2 (.cells #[.int .i64 (i : Int)] 3))).trans (Turned.of_grown hg8 (fun k e => Or.inr (HQ2.out.1.lt k e).1)))
            have HB8 : Hid (Below w.heap.size w w8) := Lib.hid (HB2.out.trans (HG8.out.below HB2.out.size (fun k hk h => by have := HBS.out; have := HBO.out; omega)))
            have k9 := k8.cell
            have k10 := k8.free
            clear ho8 hg8 hne k8 c1
            gi_wp2
            have hgs := grown_setCell w8 ⟨bl, 0, none⟩ (.slice a8 m8 n8)
            have hts : Turned (fun k => k = bl ∨ s ≤ k) w8 (w8.setCell ⟨bl, 0, none⟩ (.slice a8 m8 n8)) := Turned.of_grown hgs (fun k e => by cases e; exact Or.inl rfl)
            refine ⟨HG8.out.trans hts, _, HK8.out.set _, HQB.out.turned (HG8.out.trans hts) (fun h => by have := HBS.out; have := HBO.out; omega), ?_, HB8.out.trans (hts.below HB8.out.size (fun k hk h => by have := HBS.out; have := HBO.out; omega))⟩
            rw [HS.out]
            exact HO8.out.kept hgs (Or.inr (fun e => by have := (HO8.out.1.lt bl e).1; have := HBS.out; omega))
        · have HS : Hid (brokenTo f need (i + 1) = brokenTo f need i) := Lib.hid (by simp [brokenTo, crowdI, hg])
          have HG := Lib.hid (decide_eq_false hg)
          clear hg
          gi_wp2_with (refine ⟨trivial, ?_⟩; gi_at_call 37; refine (callsIn_wide.2 (less_any _ _ _)).mono ?_; rintro e w7 ⟨rfl, hw7⟩; subst w7; rw [HG.out])
          exact ⟨Turned.refl _ _, _, HQ1.out, HQB.out, by rw [HS.out]; exact HQ2.out, HB2.out⟩
      case hdone =>
        rintro d s W hd hds hsW ⟨v, h1, hbx, h2, h3⟩ hk
        have HD := Lib.hid hk
        have H1' := Lib.hid h1
        have H2' := Lib.hid h2
        have H3' := Lib.hid h3
        obtain ⟨a8, m8, n8, rfl⟩ := h2.form'
        have c1 := h1.cell
        have c2 := h1.free
        clear h1 h2 h3 hk
        gi_wp2
        have hdb : bl ≠ d := by have := HL6.out.lt; omega
        have hK : (W.setCell ⟨bl, 0, none⟩ (.slice a8 m8 n8)).heap[d]? = some (.deferred (some [])) := (Below.heap_setCell W _ _ d (fun e => hdb e.symm)).trans HD.out
        refine ⟨by simp, .inl ⟨_, _, rfl, run_takeDeferred hK, ?_⟩⟩
        have hts : Turned (fun k => k = bl ∨ k = d) W ((W.setCell ⟨bl, 0, none⟩ (.slice a8 m8 n8)).putObj d (.deferred none)) :=
          (Turned.of_grown (grown_setCell W ⟨bl, 0, none⟩ (.slice a8 m8 n8)) (fun k e => by cases e; exact Or.inl rfl)).trans (Turned.putObj _ _ _ (Or.inr rfl))
        have hcl : ((W.setCell ⟨bl, 0, none⟩ (.slice a8 m8 n8)).putObj d (.deferred none)).cell? ⟨bl, 0, none⟩ = some (.slice a8 m8 n8) :=
          (World.cell?_of_block (World.putObj_heap_other (w := W.setCell ⟨bl, 0, none⟩ (.slice a8 m8 n8)) hdb)).trans (H1'.out.set _).cell
        refine ⟨.tuple #[.slice a8 m8 n8, .int .i64 0], by simp [results, Try.results15, go_sem, hcl], _, by rw [HE.out], ?_, ?_⟩
        · rw [HR.out]
          exact (H2'.out.turned hts (fun k hk h => by have := HL6.out.lt; omega)).mono (by have := HW6.out.size; omega)
        · exact H3'.out.trans (hts.below H3'.out.size (fun k hk h => by have := HBO.out; have := HW6.out.size; omega))
    · have h2' : ((need.length : Int) != f.senders) = true := by simpa using h2
      have HE : Hid (brokenE f need = 1) := Lib.hid (by unfold brokenE; rw [if_neg (by simp [H1.out]), if_pos h2])
      have HR : Hid (brokenR f need = []) := Lib.hid (by unfold brokenR; rw [HE.out]; rfl)
      clear h2
      go_enter Try.func15, Try.ntmps15
      go_wp2_with fail
      refine (HC.out _ _ _).mono ?_
      rintro e w5 ⟨rfl, hb5⟩
      have HX5 := Lib.hid ((((Box.new w #[.int .i64 f.senders, .slice a f.lots.length cap] 24).alloc (.cells #[.slice a1 need.length cap1] 25)).alloc (.cells #[.slice none 0 0] 25)).ext hb5)
      have HN5 := Lib.hid (((Box.new (w.alloc (.cells #[.int .i64 f.senders, .slice a f.lots.length cap] 24)) #[.slice a1 need.length cap1] 25).alloc (.cells #[.slice none 0 0] 25)).ext hb5)
      have HL5 := Lib.hid ((Cell1.new ((w.alloc (.cells #[.int .i64 f.senders, .slice a f.lots.length cap] 24)).alloc (.cells #[.slice a1 need.length cap1] 25)) (.slice none 0 0) 25).ext hb5)
      have HW5 : Hid (Below w.heap.size w w5) := Lib.hid (((((Below.refl _ w).alloc (Nat.le_refl _) _).alloc (by simp) _).alloc (by simp; omega) _).trans (hb5.mono (by simp; omega)))
      simp only [World.size_alloc] at HN5 HL5
      obtain ⟨z5, r5⟩ := HX5.out
      obtain ⟨y5, q5⟩ := HN5.out
      have c5 := HL5.out.cell
      have f5 := HL5.out.free
      clear hb5
      go_wp2
      have hset := (HL5.out.set (.slice none 0 0)).cell
      refine bodyPost_ret (v := .tuple #[.slice none 0 0, .int .i64 1]) (by simp [results, Try.results15, go_sem, hset]) rfl ⟨_, by rw [HE.out], by rw [HR.out]; exact OwnInts.nil _ _, HW5.out.setCell (by show w.heap.size ≤ w.heap.size + 1 + 1; omega) _⟩
  · have HE : Hid (brokenE f need = checkE f) := Lib.hid (by unfold brokenE; rw [if_pos h1])
    have HR : Hid (brokenR f need = []) := Lib.hid (by unfold brokenR; rw [HE.out, if_neg h1])
    have h1' : (checkE f != 0) = true := by simpa using h1
    clear h1
    go_enter Try.func15, Try.ntmps15
    go_wp2_with fail
    refine (HC.out _ _ _).mono ?_
    rintro e w5 ⟨rfl, hb5⟩
    have HL5 := Lib.hid ((Cell1.new ((w.alloc (.cells #[.int .i64 f.senders, .slice a f.lots.length cap] 24)).alloc (.cells #[.slice a1 need.length cap1] 25)) (.slice none 0 0) 25).ext hb5)
    have HW5 : Hid (Below w.heap.size w w5) := Lib.hid (((((Below.refl _ w).alloc (Nat.le_refl _) _).alloc (by simp) _).alloc (by simp; omega) _).trans (hb5.mono (by simp; omega)))
    simp only [World.size_alloc] at HL5
    have c5 := HL5.out.cell
    have f5 := HL5.out.free
    clear hb5
    go_wp2
    have hset := (HL5.out.set (.slice none 0 0)).cell
    refine bodyPost_ret (v := .tuple #[.slice none 0 0, .int .i64 (checkE f)]) (by simp [results, Try.results15, go_sem, hset]) rfl ⟨_, by rw [HE.out], by rw [HR.out]; exact OwnInts.nil _ _, HW5.out.setCell (by show w.heap.size ≤ w.heap.size + 1 + 1; omega) _⟩

end Go.Proofs.Ytndcbnnbgedgcaa
