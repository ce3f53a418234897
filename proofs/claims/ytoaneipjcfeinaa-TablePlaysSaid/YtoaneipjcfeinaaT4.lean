/- What the reference's Set of layer 8 does, walked. -/
import Derived.Test.YtoaneipjcfeinaaProg
import Derived.Below
import Derived.Deep.Draws
import Derived.OwnWalk
import Derived.Tactics
import Derived.WalkKit
import Derived.KernelRfl
import Derived.RowKit3
import Derived.Deep.LoopGhost
import Derived.Deep.QuietTactic
import Derived.BigQuiet
import Derived.WideLaws
import Derived.Deep.DeepCutAuto
import Derived.RegionTactic
import Derived.ChangeAlike
import Derived.BigRegion
import Derived.Deep.RegionLaw
import Derived.Test.YtoaneipjcfeinaaWWords
import Derived.Test.YtoaneipjcfeinaaWMore
import Derived.Test.YtoaneipjcfeinaaSep
import Derived.Test.YtoaneipjcfeinaaMap
import Derived.Test.YtoaneipjcfeinaaRd
import Derived.Test.YtoaneipjcfeinaaP08b
namespace Go.Proofs.Ytoaneipjcfeinaa
open Go.Sp Go.RowKit Go.Proofs.YtoaneipjcfeinaaW.PrintWords Go.Proofs.YtoaneipjcfeinaaW.PrintLast Go.Proofs.YtoaneipjcfeinaaW.PrintMore
set_option linter.unusedVariables false
set_option linter.unusedSimpArgs false
open PT08
theorem refSet_bad (w : World) (A : Option Addr) (m c : Nat) (i v : Int) (h : i < 0 ∨ 1048576 ≤ i) :
    Calls Try.prog 21 #[.slice A m c, .int .i64 i, .int .i64 v] w fun e w' => e = .returned (.tuple #[.slice A m c, .bool false]) ∧ w = w' := by
  by_cases h0 : i < 0
  · clear h
    go_enter Try.func21, Try.ntmps21
    go_wp2
    go_ret2
    exact ⟨rfl, rfl⟩
  · have h1 : 1048576 ≤ i := by omega
    clear h
    go_enter Try.func21, Try.ntmps21
    go_wp2
    go_ret2
    exact ⟨rfl, rfl⟩
def SetRes (l : List S27) (i v : Int) (w : World) (e : Ending) (w' : World) : Prop := ∃ A' c', e = .returned (.tuple #[.slice A' (setF l i v).length c', .bool true]) ∧ Sep w w' (emp * row 27 2 (.slice A' (setF l i v).length c') (setF l i v).length ((setF l i v).flatMap cells27))
set_option maxHeartbeats 4000000 in
set_option maxRecDepth 100000 in
theorem refSet_in (w : World) (A : Option Addr) (c : Nat) (l : List S27) (i v : Int) (HC : Kd.C k27 w A l.length l) (hl : l.length ≤ 100000) (h0 : 0 ≤ i) (h1 : i < 1048576) :
    Calls Try.prog 21 #[.slice A l.length c, .int .i64 i, .int .i64 v] w (SetRes l i v w) := by
  have hni : ¬ i < 0 := by omega
  have hni2 : ¬ 1048576 ≤ i := by omega
  replace HC := Aside0.mk HC
  go_enter Try.func21, Try.ntmps21
  go_wp2
  go_loopg [8, 9, 10] l.length (fun kq v8 v9 v10 w' => ∃ (k : Nat) (o : List S27) (b : Bool) (A' : Option Addr) (c' : Nat), v8 = .slice A' o.length c' ∧ v9 = .bool b ∧ v10 = .int .i64 k ∧ Aside0 (k ≤ l.length) ∧ Aside0 ((o, b) = (l.take k).foldl (stepF i v) ([], false) ∧ o.length ≤ 2 * k ∧ Sep w w' (emp * row 27 2 (.slice A' o.length c') o.length (o.flatMap cells27))) ∧ Aside0 (kq = l.length - k))
  case atStart => exact ⟨0, [], false, some ⟨w.heap.size, 0, none⟩, 0, rfl, rfl, rfl, ⟨by omega⟩, ⟨rfl, by simp, ((Sep.start w).alloc_blk #[] 27).row_of_blk (n := 0) (cap := 0) (sz := 2) (Nat.le_refl _) (by decide) rfl⟩, ⟨by omega⟩⟩
  case round =>
    obtain ⟨k, o, b, A', c', rfl, rfl, rfl, Hk, HI, HK⟩ := hrel
    by_cases hlt : (k : Int) < l.length
    · have hlb := decide_eq_true hlt
      have hkk : k < l.length := by omega
      obtain ⟨ad, rfl, hx0, hx1⟩ := at_T27 HC.out (k : Int) (by omega) (by omega)
      rw [rd27 l k hkk, Int.toNat_natCast] at hx0 hx1
      obtain ⟨s, hs⟩ : ∃ s, s = l[k] := ⟨_, rfl⟩
      rw [← hs] at hx0 hx1
      have Hs : Aside0 (l.take (k + 1) = l.take k ++ [s]) := ⟨by rw [List.take_succ_eq_append_getElem (by omega), hs]⟩
      clear hs
      have hN : ∀ w1, Below w.heap.size w w1 → w1.cell? (ad.add (k * 2)) = some (.int .i64 s.f0) ∧ w1.cell? ⟨(ad.add (k * 2)).block, (ad.add (k * 2)).off + 1, none⟩ = some (.int .i64 s.f1) := fun w1 hb => ⟨pw_cell_below hb hx0, pw_cell_below hb hx1⟩
      clear hx0 hx1
      obtain ⟨hz0, hz1⟩ := hN wr HI.out.2.2.below
      cases b
      · by_cases hg : i ≤ s.f0
        · by_cases hq : s.f0 = i
          · have hne : (s.f0 != i) = false := by simp [hq]
            have hqq := Aside0.mk hq
            clear hq
            have hge := decide_eq_true hg
            have hgg := Aside0.mk hg
            clear hg
            go_wp2_with ((with_reducible refine gate_dst (N := 41) rfl ?_); refine held ?_)
            refine unheld ?_
            refine wpList_sep_append rfl (.tmp 36) (.tmp 40) 22 27 (.agg #[(.int .i64 0), (.int .i64 0)]) 2 16 _ rfl Try.underlying22 info27 rfl (by decide) (by decide) (.slice A' o.length c') (o.length) (o.flatMap cells27) #[.int .i64 i, .int .i64 v] rfl rfl rfl rfl rfl HI.out.2.2 (by have := HI.out.2.1; have := Hk.out; omega) ?_
            intro A1 c1 w1 ho1
            replace ho1 := Aside0.mk ho1
            have hy0 := hN w1 ho1.out.below
            obtain ⟨hy00, hy01⟩ := hy0
            go_wp2
            go_roundg (l.length - (k + 1))
            case measure => have := HK.out; omega
            case rel =>
              refine ⟨k + 1, o ++ [⟨i, v⟩], true, A1, c1, by simp, rfl, by go_num, ⟨by omega⟩, ⟨?_, ?_, ?_⟩, ⟨rfl⟩⟩
              · rw [Hs.out, List.foldl_append, ← HI.out.1]
                simp only [List.foldl_cons, List.foldl_nil]
                simp [stepF, hqq.out, hgg.out]
              · have := HI.out.2.1
                simp
                omega
              · refine Sep.cast ho1.out ?_
                simp [cells27]
          · have hne : (s.f0 != i) = true := by simp [hq]
            have hqq := Aside0.mk hq
            clear hq
            have hge := decide_eq_true hg
            have hgg := Aside0.mk hg
            clear hg
            go_wp2_with ((with_reducible refine gate_dst (N := 41) rfl ?_); refine held ?_)
            refine unheld ?_
            refine wpList_sep_append rfl (.tmp 36) (.tmp 40) 22 27 (.agg #[(.int .i64 0), (.int .i64 0)]) 2 16 _ rfl Try.underlying22 info27 rfl (by decide) (by decide) (.slice A' o.length c') (o.length) (o.flatMap cells27) #[.int .i64 i, .int .i64 v] rfl rfl rfl rfl rfl HI.out.2.2 (by have := HI.out.2.1; have := Hk.out; omega) ?_
            intro A1 c1 w1 ho1
            replace ho1 := Aside0.mk ho1
            have hy0 := hN w1 ho1.out.below
            obtain ⟨hy00, hy01⟩ := hy0
            go_wp2_with ((with_reducible refine gate_dst (N := 55) rfl ?_); refine held ?_)
            refine unheld ?_
            refine wpList_sep_append rfl (.tmp 49) (.tmp 54) 22 27 (.agg #[(.int .i64 0), (.int .i64 0)]) 2 16 _ rfl Try.underlying22 info27 rfl (by decide) (by decide) (.slice A1 (o.length + 1) c1) (o.length + 1) (o.flatMap cells27 ++ [.int .i64 i, .int .i64 v]) #[.int .i64 s.f0, .int .i64 s.f1] rfl rfl rfl rfl rfl ho1.out (by have := HI.out.2.1; have := Hk.out; omega) ?_
            intro A2 c2 w2 ho2
            replace ho2 := Aside0.mk ho2
            go_wp2
            go_roundg (l.length - (k + 1))
            case measure => have := HK.out; omega
            case rel =>
              refine ⟨k + 1, o ++ [⟨i, v⟩] ++ [s], true, A2, c2, by simp, rfl, by go_num, ⟨by omega⟩, ⟨?_, ?_, ?_⟩, ⟨rfl⟩⟩
              · rw [Hs.out, List.foldl_append, ← HI.out.1]
                simp only [List.foldl_cons, List.foldl_nil]
                simp [stepF, hqq.out, hgg.out]
              · have := HI.out.2.1
                simp
                omega
              · refine Sep.cast ho2.out ?_
                simp [cells27]
        · by_cases hq : s.f0 = i
          · exact absurd hq (by omega)
          · have hne : (s.f0 != i) = true := by simp [hq]
            have hqq := Aside0.mk hq
            clear hq
            have hge := decide_eq_false hg
            have hgg := Aside0.mk hg
            clear hg
            go_wp2_with ((with_reducible refine gate_dst (N := 55) rfl ?_); refine held ?_)
            refine unheld ?_
            refine wpList_sep_append rfl (.tmp 49) (.tmp 54) 22 27 (.agg #[(.int .i64 0), (.int .i64 0)]) 2 16 _ rfl Try.underlying22 info27 rfl (by decide) (by decide) (.slice A' o.length c') (o.length) (o.flatMap cells27) #[.int .i64 s.f0, .int .i64 s.f1] rfl rfl rfl rfl rfl HI.out.2.2 (by have := HI.out.2.1; have := Hk.out; omega) ?_
            intro A2 c2 w2 ho2
            replace ho2 := Aside0.mk ho2
            go_wp2
            go_roundg (l.length - (k + 1))
            case measure => have := HK.out; omega
            case rel =>
              refine ⟨k + 1, o ++ [s], false, A2, c2, by simp, rfl, by go_num, ⟨by omega⟩, ⟨?_, ?_, ?_⟩, ⟨rfl⟩⟩
              · rw [Hs.out, List.foldl_append, ← HI.out.1]
                simp only [List.foldl_cons, List.foldl_nil]
                simp [stepF, hqq.out, show ¬ i ≤ s.f0 from by have := hgg.out; omega]
              · have := HI.out.2.1
                simp
                omega
              · refine Sep.cast ho2.out ?_
                simp [cells27]
      · by_cases hq : s.f0 = i
        · have hne : (s.f0 != i) = false := by simp [hq]
          have hqq := Aside0.mk hq
          clear hq
          go_wp2
          go_roundg (l.length - (k + 1))
          case measure => have := HK.out; omega
          case rel =>
            refine ⟨k + 1, o, true, A', c', by simp, rfl, by go_num, ⟨by omega⟩, ⟨?_, ?_, ?_⟩, ⟨rfl⟩⟩
            · rw [Hs.out, List.foldl_append, ← HI.out.1]
              simp only [List.foldl_cons, List.foldl_nil]
              simp [stepF, hqq.out]
            · have := HI.out.2.1
              simp
              omega
            · refine Sep.cast HI.out.2.2 ?_
              simp [cells27]
        · have hne : (s.f0 != i) = true := by simp [hq]
          have hqq := Aside0.mk hq
          clear hq
          go_wp2_with ((with_reducible refine gate_dst (N := 55) rfl ?_); refine held ?_)
          refine unheld ?_
          refine wpList_sep_append rfl (.tmp 49) (.tmp 54) 22 27 (.agg #[(.int .i64 0), (.int .i64 0)]) 2 16 _ rfl Try.underlying22 info27 rfl (by decide) (by decide) (.slice A' o.length c') (o.length) (o.flatMap cells27) #[.int .i64 s.f0, .int .i64 s.f1] rfl rfl rfl rfl rfl HI.out.2.2 (by have := HI.out.2.1; have := Hk.out; omega) ?_
          intro A2 c2 w2 ho2
          replace ho2 := Aside0.mk ho2
          go_wp2
          go_roundg (l.length - (k + 1))
          case measure => have := HK.out; omega
          case rel =>
            refine ⟨k + 1, o ++ [s], true, A2, c2, by simp, rfl, by go_num, ⟨by omega⟩, ⟨?_, ?_, ?_⟩, ⟨rfl⟩⟩
            · rw [Hs.out, List.foldl_append, ← HI.out.1]
              simp only [List.foldl_cons, List.foldl_nil]
              simp [stepF, hqq.out]
            · have := HI.out.2.1
              simp
              omega
            · refine Sep.cast ho2.out ?_
              simp [cells27]
    · have hlb := decide_eq_false hlt
      have hk : k = l.length := by have := Hk.out; omega
      subst hk
      obtain ⟨e1, e2, e3⟩ := HI.out
      rw [List.take_length] at e1
      have hlo : o.length ≤ 200000 := by omega
      replace e1 := Aside0.mk e1
      replace e3 := Aside0.mk e3
      clear e2 HI Hk HK
      cases b
      · go_wp2_with ((with_reducible refine gate_dst (N := 63) rfl ?_); refine held ?_)
        refine unheld ?_
        refine wpList_sep_append rfl (.tmp 58) (.tmp 62) 22 27 (.agg #[(.int .i64 0), (.int .i64 0)]) 2 16 _ rfl Try.underlying22 info27 rfl (by decide) (by decide) (.slice A' o.length c') o.length (o.flatMap cells27) #[.int .i64 i, .int .i64 v] rfl rfl rfl rfl rfl e3.out (by omega) ?_
        intro A1 c1 w1 ho1
        replace ho1 := Aside0.mk ho1
        go_wp2
        go_ret2
        have hF : setF l i v = o ++ [⟨i, v⟩] := by unfold setF; rw [← e1.out]; rfl
        refine ⟨A1, c1, ?_, ?_⟩
        · rw [hF, List.length_append]; rfl
        · rw [hF]
          exact ho1.out.cast (by simp [cells27])
      · go_wp2
        go_ret2
        have hF : setF l i v = o := by unfold setF; rw [← e1.out]; rfl
        refine ⟨A', c', ?_, ?_⟩
        · rw [hF]; rfl
        · rw [hF]
          exact e3.out
end Go.Proofs.Ytoaneipjcfeinaa
