/- What the statement TableNone runs through comes to true at every number and text. -/
import Derived.Test.YtoaneipjcfeinaaProg
import Derived.Below
import Derived.Deep.Draws
import Derived.OwnWalk
import Derived.Tactics
import Derived.WalkKit
import Derived.KernelRfl
import Derived.RowKit3
import Derived.Deep.LoopGhost
import Derived.Deep.QuietTactic
import Derived.BigQuiet
import Derived.WideLaws
import Derived.Deep.DeepCutAuto
import Derived.RegionTactic
import Derived.ChangeAlike
import Derived.BigRegion
import Derived.Deep.RegionLaw
import Derived.Test.YtoaneipjcfeinaaWWords
import Derived.Test.YtoaneipjcfeinaaWMore
import Derived.Test.YtoaneipjcfeinaaSep
import Derived.Test.YtoaneipjcfeinaaMap
import Derived.Test.YtoaneipjcfeinaaRd
import Derived.Test.YtoaneipjcfeinaaT3
namespace Go.Proofs.Ytoaneipjcfeinaa
open Go.Sp Go.RowKit Go.Proofs.YtoaneipjcfeinaaW.PrintWords Go.Proofs.YtoaneipjcfeinaaW.PrintLast Go.Proofs.YtoaneipjcfeinaaW.PrintMore
set_option linter.unusedVariables false
set_option linter.unusedSimpArgs false
open PT08
theorem tabS_fresh (w : World) : tabS w (w.alloc (.cells #[.slice none 0 0, .slice none 0 0, .int .i64 0] 41)) emp w.heap.size [] [] 0 :=
  ⟨rfl, .slice none 0 0, .slice none 0 0, ((((Sep.start w).alloc_blk _ _).nil_row 9 1).nil_row 4 1).t3⟩
theorem tabI_fresh (w : World) : tabI w (w.alloc (.cells #[.slice none 0 0, .slice none 0 0, .int .i64 0] 44)) emp w.heap.size [] [] 0 :=
  ⟨rfl, .slice none 0 0, .slice none 0 0, ((((Sep.start w).alloc_blk _ _).nil_row 3 1).nil_row 4 1).t3⟩
theorem tabS.below {w0 w : World} {R : HP} {p : Nat} {L : List ByteArray} {H : List Bool} {n : Int} (h : tabS w0 w R p L H n) : Below w0.heap.size w0 w := by
  obtain ⟨_, _, _, h⟩ := h
  exact h.below
theorem tabI.below {w0 w : World} {R : HP} {p : Nat} {L : List Int} {H : List Bool} {n : Int} (h : tabI w0 w R p L H n) : Below w0.heap.size w0 w := by
  obtain ⟨_, _, _, h⟩ := h
  exact h.below
theorem valS_set (i : Int) (s : ByteArray) (h : 0 ≤ i) : valS (setL [] ⟨#[]⟩ i.toNat s) i = s := by
  have hl : (setL [] (⟨#[]⟩ : ByteArray) i.toNat s).length = i.toNat + 1 := by simp [setL]
  unfold valS
  rw [if_pos ⟨h, by rw [hl]; omega⟩]
  simp [setL, List.getD_eq_getElem?_getD]
theorem hasB_set (i : Int) (h : 0 ≤ i) : hasB (setH [] i.toNat) i = true := by
  have hl : (setH [] i.toNat).length = i.toNat + 1 := by simp [setH]
  unfold hasB
  rw [if_pos ⟨h, by rw [hl]; omega⟩]
  simp [setH, List.getD_eq_getElem?_getD]
set_option maxHeartbeats 2000000 in
set_option maxRecDepth 100000 in
theorem none_awake (i : Int) (s : ByteArray) (w : World) (h : 50 < (s.size : Int) ∨ (2000 < i ∧ i < 1048576)) : Calls Try.prog 4 #[.int .i64 i, .string s] w fun e w' => e = .returned (.bool true) ∧ Below w.heap.size w w' := by
  by_cases h0 : 50 < (s.size : Int)
  · have hb := decide_eq_true h0
    clear h
    go_enter Try.func4, Try.ntmps4
    go_wp2_with fail
    refine (awake08 _).mono ?_
    rintro e w' ⟨rfl, hB⟩
    go_wp2
    go_ret
    exact ⟨rfl, hB⟩
  · have hb := decide_eq_false h0
    obtain ⟨h1, h2⟩ : 2000 < i ∧ i < 1048576 := by omega
    clear h
    go_enter Try.func4, Try.ntmps4
    go_wp2_with fail
    refine (awake08 _).mono ?_
    rintro e w' ⟨rfl, hB⟩
    go_wp2
    go_ret
    exact ⟨rfl, hB⟩
set_option maxHeartbeats 2000000 in
set_option maxRecDepth 100000 in
theorem none_in (i : Int) (s : ByteArray) (w : World) (h0 : ¬ 50 < (s.size : Int)) (h1 : 0 ≤ i) (h2 : i ≤ 2000) : Calls Try.prog 4 #[.int .i64 i, .string s] w fun e w' => e = .returned (.bool true) ∧ Below w.heap.size w w' := by
  have hb := decide_eq_false h0
  have hb2 : decide (2000 < i) = false := decide_eq_false (by omega)
  have hb3 : decide (0 ≤ i) = true := decide_eq_true h1
  have hb4 : decide (i < 1048576) = true := decide_eq_true (by omega)
  go_enter Try.func4, Try.ntmps4
  go_wp2_with fail
  refine (getS_nil _ _).mono ?_
  rintro e w1 ⟨rfl, rfl⟩
  go_wp2_with fail
  refine (setS_nil _ _ _).mono ?_
  rintro e w1 ⟨rfl, rfl⟩
  go_wp2_with fail
  refine (orS_nil _ _ _).mono ?_
  rintro e w1 ⟨rfl, rfl⟩
  go_wp2_with fail
  refine (lenS_nil _).mono ?_
  rintro e w1 ⟨rfl, rfl⟩
  go_wp2_with fail
  refine (setS_in w _ emp _ [] [] 0 i s (tabS_fresh w) h1 (by omega) (by omega) (by omega)).mono ?_
  rintro e w1 ⟨rfl, HT⟩
  go_wp2_with fail
  refine (getS_any w _ emp _ _ _ _ i HT).mono ?_
  rw [valS_set i s h1, hasB_set i h1]
  rintro e w2 ⟨rfl, hd⟩
  have hB := HT.below.trans (hd.below.mono HT.below.size)
  clear hd HT
  go_wp2_with fail
  all_goals
    refine (awake08 _).mono ?_
    rintro e w3 ⟨rfl, hB3⟩
    replace hB := hB.trans (hB3.mono hB.size)
    go_wp2
    go_ret
    exact ⟨rfl, hB⟩
set_option maxHeartbeats 2000000 in
set_option maxRecDepth 100000 in
theorem none_out (i : Int) (s : ByteArray) (w : World) (h0 : ¬ 50 < (s.size : Int)) (h1 : i < 0 ∨ 1048576 ≤ i) : Calls Try.prog 4 #[.int .i64 i, .string s] w fun e w' => e = .returned (.bool true) ∧ Below w.heap.size w w' := by
  have hb := decide_eq_false h0
  have h5 : (decide (2000 < i) && decide (i < 1048576)) = false := by rw [Bool.and_eq_false_iff, decide_eq_false_iff_not, decide_eq_false_iff_not]; omega
  have h6 : (decide (0 ≤ i) && decide (i < 1048576)) = false := by rw [Bool.and_eq_false_iff, decide_eq_false_iff_not, decide_eq_false_iff_not]; omega
  have H1 := Aside0.mk h1
  by_cases h7 : i < 0
  · have hb2 : decide (2000 < i) = false := decide_eq_false (by omega)
    have hb3 : decide (0 ≤ i) = false := decide_eq_false (by omega)
    clear h1 h5 h6
    go_enter Try.func4, Try.ntmps4
    go_wp2_with fail
    refine (getS_nil _ _).mono ?_
    rintro e w1 ⟨rfl, rfl⟩
    go_wp2_with fail
    refine (setS_nil _ _ _).mono ?_
    rintro e w1 ⟨rfl, rfl⟩
    go_wp2_with fail
    refine (orS_nil _ _ _).mono ?_
    rintro e w1 ⟨rfl, rfl⟩
    go_wp2_with fail
    refine (lenS_nil _).mono ?_
    rintro e w1 ⟨rfl, rfl⟩
    go_wp2_with fail
    refine (setS_out _ _ i s H1.out).mono ?_
    rintro e w1 ⟨rfl, rfl⟩
    have HT := tabS_fresh w
    go_wp2_with fail
    refine (getS_out w _ emp _ _ _ _ i HT (by omega)).mono ?_
    rintro e w2 ⟨rfl, hd⟩
    have hB := HT.below.trans (hd.below.mono HT.below.size)
    clear hd HT
    go_wp2_with fail
    all_goals
      refine (awake08 _).mono ?_
      rintro e w3 ⟨rfl, hB3⟩
      replace hB := hB.trans (hB3.mono hB.size)
      go_wp2
      go_ret
      exact ⟨rfl, hB⟩
  · have hb2 : decide (2000 < i) = true := decide_eq_true (by omega)
    have hb3 : decide (0 ≤ i) = true := decide_eq_true (by omega)
    have hb4 : decide (i < 1048576) = false := decide_eq_false (by omega)
    clear h1 h5 h6
    go_enter Try.func4, Try.ntmps4
    go_wp2_with fail
    refine (getS_nil _ _).mono ?_
    rintro e w1 ⟨rfl, rfl⟩
    go_wp2_with fail
    refine (setS_nil _ _ _).mono ?_
    rintro e w1 ⟨rfl, rfl⟩
    go_wp2_with fail
    refine (orS_nil _ _ _).mono ?_
    rintro e w1 ⟨rfl, rfl⟩
    go_wp2_with fail
    refine (lenS_nil _).mono ?_
    rintro e w1 ⟨rfl, rfl⟩
    go_wp2_with fail
    refine (setS_out _ _ i s H1.out).mono ?_
    rintro e w1 ⟨rfl, rfl⟩
    have HT := tabS_fresh w
    go_wp2_with fail
    refine (getS_out w _ emp _ _ _ _ i HT (.inr (by simp; omega))).mono ?_
    rintro e w2 ⟨rfl, hd⟩
    have hB := HT.below.trans (hd.below.mono HT.below.size)
    clear hd HT
    go_wp2_with fail
    all_goals
      refine (awake08 _).mono ?_
      rintro e w3 ⟨rfl, hB3⟩
      replace hB := hB.trans (hB3.mono hB.size)
      go_wp2
      go_ret
      exact ⟨rfl, hB⟩
theorem none_any (i : Int) (s : ByteArray) (w : World) : Calls Try.prog 4 #[.int .i64 i, .string s] w fun e w' => e = .returned (.bool true) ∧ Below w.heap.size w w' := by
  by_cases h0 : 50 < (s.size : Int) ∨ (2000 < i ∧ i < 1048576)
  · exact none_awake i s w h0
  · by_cases h1 : 0 ≤ i ∧ i ≤ 2000
    · exact none_in i s w (by omega) h1.1 h1.2
    · exact none_out i s w (by omega) (by omega)
end Go.Proofs.Ytoaneipjcfeinaa
