/- The example that each statement of layer 8 ends with is true. -/
import Derived.Test.YtoaneipjcfeinaaProg
import Derived.Below
import Derived.Deep.Draws
import Derived.OwnWalk
import Derived.Tactics
import Derived.WalkKit
import Derived.KernelRfl
import Derived.RowKit3
import Derived.Deep.LoopGhost
import Derived.Deep.QuietTactic
import Derived.BigQuiet
import Derived.WideLaws
import Derived.Deep.DeepCutAuto
import Derived.RegionTactic
import Derived.ChangeAlike
import Derived.BigRegion
import Derived.Deep.RegionLaw
import Derived.Test.YtoaneipjcfeinaaWWords
import Derived.Test.YtoaneipjcfeinaaWMore
import Derived.Test.YtoaneipjcfeinaaSep
import Derived.Test.YtoaneipjcfeinaaMap
import Derived.Test.YtoaneipjcfeinaaRd
import Derived.Test.YtoaneipjcfeinaaT2
namespace Go.Proofs.Ytoaneipjcfeinaa
open Go.Sp Go.RowKit Go.Proofs.YtoaneipjcfeinaaW.PrintWords Go.Proofs.YtoaneipjcfeinaaW.PrintLast Go.Proofs.YtoaneipjcfeinaaW.PrintMore
set_option linter.unusedVariables false
set_option linter.unusedSimpArgs false
open PT08
theorem flat27 : Flat k27 cells27 := ⟨fun _ => rfl, fun w x => k27_mk w x, fun w base ok x cs h => k27_openM h⟩
theorem same_calls (a b : List S27) (A0 A1 : Option Addr) (c0 c1 : Nat) (w : World) (h0 : Kd.C k27 w A0 a.length a) (hc0 : a.length ≤ c0) (h1 : Kd.C k27 w A1 b.length b) (hc1 : b.length ≤ c1) (hn : a.length ≤ 1000000000000) :
    Calls Try.prog 13 #[.slice A0 a.length c0, .slice A1 b.length c1] w fun e w' => e = .returned (.bool (decide (a = b))) ∧ Drawn0 w w' :=
  easementref08_Same.calls (a.length + 1) A0 c0 a A1 c1 b _ w h0 hc0 h1 hc1 (Same_f a b hn)
set_option maxHeartbeats 1000000 in
set_option maxRecDepth 100000 in
theorem awake08 (w : World) : Calls Try.prog 11 #[] w fun e w' => e = .returned (.bool true) ∧ Below w.heap.size w w' := by
  go_enter Try.func11, Try.ntmps11
  go_wp2_with fail
  have HS := ((Sep.start w).alloc_blk #[.int .i64 1, .int .i64 5, .int .i64 0, .int .i64 6, .int .i64 1, .int .i64 7] 27).row_of_blk (n := 3) (cap := 3) (sz := 2) (Nat.le_refl _) (by decide) rfl
  have HC := (HS.reads' (d := k27) (l := [⟨1, 5⟩, ⟨0, 6⟩, ⟨1, 7⟩]) flat27).2
  have HB0 := HS.below
  generalize w.alloc (Obj.cells #[.int .i64 1, .int .i64 5, .int .i64 0, .int .i64 6, .int .i64 1, .int .i64 7] 27) = W1 at *
  clear HS
  refine (groupP_in [⟨1, 5⟩, ⟨0, 6⟩, ⟨1, 7⟩] _ 3 2 _ HC (by decide) (by decide) (by decide)).mono ?_
  rintro e W2 ⟨g, vs, rfl, hv, HG⟩
  match vs, hv with
  | [v0, v1], _ =>
    have hg : (List.range 2).map (fun (k : Nat) => groupF [⟨1, 5⟩, ⟨0, 6⟩, ⟨1, 7⟩] k) = [[⟨0, 6⟩], [⟨1, 5⟩, ⟨1, 7⟩]] := by decide
    rw [hg] at HG
    rw [rowsL_cons, rowsL_cons, rowsL_nn] at HG
    have HR := HG.cast (show _ = row 22 1 (.slice (some ⟨g, 0, none⟩) 2 2) 2 [v0, v1] * row 27 2 v0 1 (cells27 ⟨0, 6⟩) * emp * row 27 2 v1 2 ([⟨1, 5⟩, ⟨1, 7⟩].flatMap cells27) by simp only [List.flatMap_cons, List.flatMap_nil, List.append_nil, List.length_cons, List.length_nil]; ac_rfl)
    obtain ⟨A1, c1, rfl, hc1, HC1⟩ := HR.reads (d := k27) (l := [⟨1, 5⟩, ⟨1, 7⟩]) flat27
    have hx := HR.t4'.row_cell 1 _ rfl
    have HB1 := HB0.trans (HG.below.mono HB0.size)
    clear HG HR hg HC
    go_wp2_with fail
    have HS3 := ((Sep.start W2).alloc_blk #[.int .i64 1, .int .i64 5, .int .i64 1, .int .i64 7] 27).row_of_blk (n := 2) (cap := 2) (sz := 2) (Nat.le_refl _) (by decide) rfl
    have HC3 := (HS3.reads' (d := k27) (l := [⟨1, 5⟩, ⟨1, 7⟩]) flat27).2
    refine (same_calls [⟨1, 5⟩, ⟨1, 7⟩] [⟨1, 5⟩, ⟨1, 7⟩] A1 _ c1 2 _ (Kd.C_below HC1 HS3.below) hc1 HC3 (by decide) (by decide)).mono ?_
    rintro e W3 ⟨rfl, hd⟩
    have HB3 := HB1.trans ((HS3.below.mono HB1.size).trans (hd.below.mono (HB1.trans (HS3.below.mono HB1.size)).size))
    clear HS3 HC3 hd HC1 hx
    go_wp2_with fail
    have HS4 := ((Sep.start W3).alloc_blk #[.string ⟨#[97]⟩, .string ⟨#[98]⟩, .string ⟨#[97]⟩] 9).row_of_blk (n := 3) (cap := 3) (sz := 1) (Nat.le_refl _) (by decide) rfl
    have HC4 := (HS4.reads' (d := Kd.string) (l := [⟨#[97]⟩, ⟨#[98]⟩, ⟨#[97]⟩]) flat_string).2
    refine (firstsS_any [⟨#[97]⟩, ⟨#[98]⟩, ⟨#[97]⟩] _ 3 _ HC4 (by decide) (by decide)).mono ?_
    rintro e W5 ⟨A5, c5, rfl, HS5⟩
    have hl : (firstsF [(⟨#[97]⟩ : ByteArray), ⟨#[98]⟩, ⟨#[97]⟩]).length = 2 := by decide
    have HB5 := HB3.trans ((HS4.below.mono HB3.size).trans (HS5.below.mono (HB3.trans (HS4.below.mono HB3.size)).size))
    rw [hl]
    clear HS4 HC4 HS5 hl
    go_wp2
    go_ret
    exact ⟨rfl, HB5⟩
end Go.Proofs.Ytoaneipjcfeinaa
