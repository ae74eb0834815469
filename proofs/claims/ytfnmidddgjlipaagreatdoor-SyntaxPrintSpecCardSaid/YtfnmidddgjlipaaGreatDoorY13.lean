/-
  Layer 17: the walk of Parse.
-/
import Derived.Test.YtfnmidddgjlipaaGreatDoorY12
set_option linter.unusedVariables false
set_option linter.unusedSimpArgs false
namespace Go.Proofs.YtfnmidddgjlipaaGreatDoor
open Go.RowKit

theorem lexA_len (l : List UInt8) : ∀ at_, (lexA l at_).1.length ≤ l.length := by
  refine lex_induct (P := fun l => ∀ at_, (lexA l at_).1.length ≤ l.length) ?_ ?_ ?_ l
  · intro at_; rw [lexA_nil]; simp
  · intro l hl h at_; rw [lexA_bad hl h]; simp
  · intro l k o h ih at_
    rw [lexA_step h]
    have h1 := step_pos h
    have h2 := ih (at_ + k)
    rw [List.length_drop] at h2
    cases o with
    | none => unfold addTok; simp only; omega
    | some t => unfold addTok; simp only [List.length_cons]; omega
theorem lexT_len (l : List UInt8) : (lexT l).length ≤ 65536 := by
  unfold lexT
  split
  · simp
  · split
    · have := lexA_len l 0; omega
    · simp
theorem lexT_valid (l : List UInt8) : ∀ t ∈ lexT l, validB t = true := by
  unfold lexT
  split
  · intro t h; cases h
  · split
    · exact lexA_valid l 0
    · intro t h; cases h
def parE (s : List UInt8) : Int := if lexE s = 0 then readE (lexT s) else lexE s
def parP (s : List UInt8) : Int := if lexE s = 0 then readP s.length (lexT s) else lexP s
def parL (s : List UInt8) : List WishD := if lexE s = 0 then readL (lexT s) else []
def ParsePost (s : List UInt8) (w : World) (e : Ending) (w' : World) : Prop :=
  ∃ v, e = .returned (.tuple #[v, .int .i64 (parP s), .int .i64 (parE s)]) ∧ OwnWs w.heap.size w' v (parL s) ∧ Below w.heap.size w w'

set_option maxHeartbeats 2000000 in
set_option maxRecDepth 100000 in
theorem parse_any (src : ByteArray) (w : World) (hL : LaidW w) (hs : src.size ≤ 9223372036854775806) :
    Calls Tryz.prog 6 #[.string src] w (ParsePost src.data.toList w) := by
  have HL := Lib.hid hL
  have hsz : src.data.toList.length = src.size := size_data src
  obtain ⟨s, hS⟩ : ∃ s, src.data.toList = s := ⟨_, rfl⟩
  rw [hS] at hsz
  have HSZ := Lib.hid hsz
  have HSS := Lib.hid hS
  clear hL hsz
  go_enter Tryz.func6, Tryz.ntmps6
  go_wp2_with fail
  refine (lex_any src w HL.out hs).mono ?_
  rintro e w1 ⟨v, he, ho, hb⟩
  rw [hS] at he ho
  have HB := Lib.hid hb
  have HO := Lib.hid ho
  obtain ⟨a, n, c, rfl⟩ := ho.form'
  obtain ⟨E, hE⟩ : ∃ E, lexE s = E := ⟨_, rfl⟩
  rw [hE] at he
  subst he
  have HE := Lib.hid hE
  clear hb ho hE hS
  by_cases h0 : E = 0
  · subst h0
    have HP : Hid (parP s = readP s.length (lexT s) ∧ parE s = readE (lexT s) ∧ parL s = readL (lexT s)) := Lib.hid (by unfold parP parE parL; rw [HE.out]; exact ⟨rfl, rfl, rfl⟩)
    have HR := Lib.hid (read_any w1.heap.size w1 (.slice a n c) (lexT s) (s.length : Int) (Nat.le_refl _) HO.out.isToks (by have := lexT_len s; omega))
    rw [HSZ.out] at HR
    go_wp2_with fail
    refine HR.out.mono ?_
    rintro e w2 ⟨v2, rfl, ho2, hb2⟩
    have HB2 := Lib.hid hb2
    have HO2 := Lib.hid ho2
    clear hb2 ho2
    go_wp2
    refine bodyPost_ret (results_tmp3 rfl _ _ _) rfl ?_
    unfold ParsePost
    rw [HSS.out]
    refine ⟨v2, ?_, ?_, HB.out.trans (HB2.out.mono HB.out.size)⟩
    · rw [HP.out.1, HP.out.2.1, HSZ.out]; rfl
    · rw [HP.out.2.2]; exact HO2.out.mono HB.out.size
  · have hb : (E != 0) = true := by simpa using h0
    have HP : Hid (parP s = lexP s ∧ parE s = E ∧ parL s = []) := Lib.hid (by unfold parP parE parL; rw [HE.out, if_neg h0, if_neg h0, if_neg h0]; exact ⟨rfl, rfl, rfl⟩)
    clear h0
    go_wp2
    refine bodyPost_ret (results_tmp3 rfl _ _ _) rfl ?_
    unfold ParsePost
    rw [HSS.out]
    refine ⟨.slice none 0 0, ?_, ?_, HB.out⟩
    · rw [HP.out.1, HP.out.2.1]; rfl
    · rw [HP.out.2.2]; exact OwnDeep.nil
end Go.Proofs.YtfnmidddgjlipaaGreatDoor
