/- The pairs of a table, gone through by its iterator. -/
import Derived.Test.YtoaneipjcfeinaaProg
import Derived.Below
import Derived.RangeFuncNested
import Derived.Shelf.RegionOpen
import Derived.Shelf.Abstract
import Derived.RangeFuncBound
import Derived.RangeFuncCalls
import Derived.RangeFuncLeaves
import Derived.RangeFuncFrom
import Derived.RangeFuncWrites
import Derived.RangeFuncBox
import Derived.OwnWalkIn
import Derived.TacticsInMore
import Derived.LoopNIn
import Derived.LoopIn
import Derived.Maps.OwnIn
import Derived.Maps.AppendAt
import Derived.Outline
import Derived.Deep.Draws
import Derived.OwnWalk
import Derived.Tactics
import Derived.WalkKit
import Derived.KernelRfl
import Derived.RowKit3
import Derived.Deep.LoopGhost
import Derived.Deep.QuietTactic
import Derived.BigQuiet
import Derived.WideLaws
import Derived.Deep.DeepCutAuto
import Derived.RegionTactic
import Derived.ChangeAlike
import Derived.BigRegion
import Derived.Deep.RegionLaw
import Derived.Test.YtoaneipjcfeinaaWWords
import Derived.Test.YtoaneipjcfeinaaWMore
import Derived.Test.YtoaneipjcfeinaaSep
import Derived.Test.YtoaneipjcfeinaaMap
import Derived.Test.YtoaneipjcfeinaaRd
import Derived.Test.YtoaneipjcfeinaaT3
import Derived.Test.YtoaneipjcfeinaaT4
namespace Go.Proofs.Ytoaneipjcfeinaa
open Go.Sp Go.RowKit Go.Proofs.YtoaneipjcfeinaaW.PrintWords Go.Proofs.YtoaneipjcfeinaaW.PrintLast Go.Proofs.YtoaneipjcfeinaaW.PrintMore
set_option linter.unusedVariables false
set_option linter.unusedSimpArgs false
open PT08
attribute [local go_sem] Oper.semAt_some
/-- The pairs of the first k numbers. -/
theorem tabN_succ (k : Nat) (L : List Int) (H : List Bool) : tabN (k + 1) L H = if H.getD k false then tabN k L H ++ [⟨(k : Int), L.getD k 0⟩] else tabN k L H := by
  unfold tabN
  rw [List.range_succ, List.filter_append]
  by_cases h : H.getD k false = true
  · rw [if_pos h]
    simp [-List.getD_eq_getElem?_getD, h]
  · rw [if_neg h]
    simp [-List.getD_eq_getElem?_getD, h]
theorem tabN_len (k : Nat) (L : List Int) (H : List Bool) : (tabN k L H).length ≤ k := by
  unfold tabN
  rw [List.length_map]
  have := List.length_filter_le (fun k => H.getD k false) (List.range k)
  simpa using this
set_option maxHeartbeats 1000000 in
theorem all_in (F : Fence) (n : Nat) (h57 : F.fn 57) (hro : F.round = none) (a : Option Addr) (w : World) :
    CallsIn F n Try.prog 57 #[.pointer a] w fun e w' => e = .returned (.func (.func 71) #[] #[.pointer (some ⟨w.heap.size, 0, none⟩)]) ∧ w' = w.alloc (.cells #[.pointer a] 53) := by
  refine callsIn_of_wp Try.func57 rfl h57 ?_ hro
  simp only [Try.ntmps57, List.size_toArray, List.length_cons, List.length_nil, Nat.reduceAdd, Nat.reduceSub, Array.replicate_succ, Array.replicate_zero, List.push_toArray, List.append_toArray, List.nil_append, List.cons_append]
  gi_wp2
  go_ret
  exact ⟨rfl, rfl⟩
/-- What the iterator reads: the table's two rows, below n₀. -/
structure Sees (n₀ : Nat) (W : World) (p : Nat) (L : List Int) (H : List Bool) : Prop where
  ex : ∃ g1 c1 g2 c2, W.cell? ⟨p, 0, none⟩ = some (.slice (some ⟨g1, 0, none⟩) L.length c1) ∧ W.cell? ⟨p, 1, none⟩ = some (.slice (some ⟨g2, 0, none⟩) L.length c2) ∧ p < n₀ ∧ g1 < n₀ ∧ g2 < n₀ ∧
    (∀ j, j < L.length → W.cell? ⟨g1, j, none⟩ = some (.int .i64 (L.getD j 0))) ∧ (∀ j, j < L.length → W.cell? ⟨g2, j, none⟩ = some (.bool (H.getD j false)))
set_option maxRecDepth 100000 in
set_option maxHeartbeats 4000000 in
theorem all1_in (F : Fence) (n : Nat) (h71 : F.fn 71) (hro : F.round = none) (hn : 1 ≤ n) (l Bs n₀ p : Nat) (L : List Int) (H : List Bool) (hL : L.length ≤ 1000000) (J Jx : List S27 → World → Prop)
    (hY : ∀ pre x W, J pre W → pre.length < L.length → YieldAt F (n - 1) Try.prog l #[.int .i64 x.f0, .int .i64 x.f1] W fun e W' =>
      (e = .returned (.bool true) ∧ J (pre ++ [x]) W' ∧ Below n₀ W W') ∨ (e = .returned (.bool false) ∧ Jx (pre ++ [x]) W'))
    (W : World) (hBn : Bs < n₀) (hBs : W.cell? ⟨Bs, 0, none⟩ = some (.pointer (some ⟨p, 0, none⟩))) (g1 c1 g2 c2 : Nat) (hp0 : W.cell? ⟨p, 0, none⟩ = some (.slice (some ⟨g1, 0, none⟩) L.length c1)) (hp1 : W.cell? ⟨p, 1, none⟩ = some (.slice (some ⟨g2, 0, none⟩) L.length c2))
    (hpn : p < n₀) (hg1 : g1 < n₀) (hg2 : g2 < n₀) (hc1 : ∀ j, j < L.length → W.cell? ⟨g1, j, none⟩ = some (.int .i64 (L.getD j 0))) (hc2 : ∀ j, j < L.length → W.cell? ⟨g2, j, none⟩ = some (.bool (H.getD j false))) (h0 : J [] W) :
    CallsIn F n Try.prog 71 #[.func (.yield l) #[] #[], .pointer (some ⟨Bs, 0, none⟩)] W fun e W' => (∃ v, e = .returned v) ∧
      ((∃ ys, ys = tabN L.length L H ∧ J ys W') ∨ (∃ pre, True ∧ Jx pre W')) := by
  refine callsIn_of_wp Try.func71 rfl h71 ?_ hro
  simp only [Try.ntmps71, List.size_toArray, List.length_cons, List.length_nil, Nat.reduceAdd, Nat.reduceSub, Array.replicate_succ, Array.replicate_zero, List.push_toArray, List.append_toArray, List.nil_append, List.cons_append]
  have HC1 := Aside0.mk hc1
  have HC2 := Aside0.mk hc2
  clear hc1 hc2
  gi_wp2
  gi_loopw [12] (fun i wr => ∃ k : Nat, Aside0 (k ≤ L.length) ∧ i = .int .i64 k ∧ Aside0 (J (tabN k L H) wr) ∧ Aside0 (Below n₀ W wr))
    (fun i _ => L.length - (intOf i).toNat)
  case atStart => exact ⟨0, ⟨Nat.zero_le _⟩, rfl, ⟨h0⟩, ⟨Below.refl _ _⟩⟩
  case round =>
    obtain ⟨k, Hk, rfl, HJ, HB⟩ := hrel
    have hk := Hk.out
    have hb1 := (HB.out.cell (p := ⟨Bs, 0, none⟩) hBn).trans hBs
    have hb2 := (HB.out.cell (p := ⟨p, 0, none⟩) hpn).trans hp0
    have hb3 := (HB.out.cell (p := ⟨p, 1, none⟩) hpn).trans hp1
    by_cases hlt : k < L.length
    · have hd1 := (HB.out.cell (p := ⟨g1, k, none⟩) hg1).trans (HC1.out k hlt)
      have hd2 := (HB.out.cell (p := ⟨g2, k, none⟩) hg2).trans (HC2.out k hlt)
      obtain ⟨q, hq⟩ : ∃ q, q = L.getD k 0 := ⟨_, rfl⟩
      rw [← hq] at hd1
      have Hq := Aside0.mk hq
      clear hq
      generalize hb : H.getD k false = b at hd2
      have Hb := Aside0.mk hb
      clear hb
      cases b
      · gi_wp2
        refine ⟨fun _ h => (by cases h), ?_⟩
        gi_wp2
        go_roundw
        case rel => exact ⟨k + 1, ⟨by omega⟩, by simp, ⟨by rw [tabN_succ, Hb.out]; exact HJ.out⟩, HB⟩
        case measure => simp [intOf]; omega
      · obtain ⟨fn, tmps, assign, body, hy, hR⟩ := hY _ ⟨(k : Int), q⟩ wr HJ.out (by have := tabN_len k L H; omega)
        dsimp only at hy
        have HR := Aside0.mk hR
        clear hR
        gi_wp2
        refine HR.out.mono ?_
        rintro e W3 (⟨rfl, hJ3, hk3⟩ | ⟨rfl, hJx3⟩)
        · have HJ3 := Aside0.mk (And.intro hJ3 hk3)
          clear hJ3 hk3
          gi_wp2
          go_roundw
          case rel => exact ⟨k + 1, ⟨by omega⟩, by simp, ⟨by rw [tabN_succ, Hb.out, ← Hq.out]; exact HJ3.out.1⟩, ⟨HB.out.trans HJ3.out.2⟩⟩
          case measure => simp [intOf]; omega
        · gi_wp2
          refine bodyPost_ret (results_none rfl _ _ _) rfl ?_
          exact ⟨⟨_, rfl⟩, .inr ⟨_, trivial, hJx3⟩⟩
    · obtain rfl : k = L.length := by omega
      gi_wp2
      go_end0
      exact ⟨⟨_, rfl⟩, .inl ⟨_, rfl, HJ.out⟩⟩
theorem all1_nil (F : Fence) (n : Nat) (h71 : F.fn 71) (hro : F.round = none) (l Bs p : Nat) (J : List S27 → World → Prop) (W : World) (hBs : W.cell? ⟨Bs, 0, none⟩ = some (.pointer (some ⟨p, 0, none⟩))) (A : Option Addr) (c : Nat) (hp0 : W.cell? ⟨p, 0, none⟩ = some (.slice A 0 c)) (h0 : J [] W) :
    CallsIn F n Try.prog 71 #[.func (.yield l) #[] #[], .pointer (some ⟨Bs, 0, none⟩)] W fun e W' => (∃ v, e = .returned v) ∧ J [] W' := by
  refine callsIn_of_wp Try.func71 rfl h71 ?_ hro
  simp only [Try.ntmps71, List.size_toArray, List.length_cons, List.length_nil, Nat.reduceAdd, Nat.reduceSub, Array.replicate_succ, Array.replicate_zero, List.push_toArray, List.append_toArray, List.nil_append, List.cons_append]
  gi_wp2
  gi_loopw [12] (fun i wr => i = .int .i64 0 ∧ J [] wr) (fun _ _ => 0)
  case atStart => exact ⟨rfl, h0⟩
  case round =>
    obtain ⟨rfl, hJs⟩ := hrel
    gi_wp2
    go_end0
    exact ⟨⟨_, rfl⟩, hJs⟩
theorem all_stops (F : Fence) (n : Nat) (h71 : F.fn 71) (hro : F.round = none) (hn : 1 ≤ n) (Bs n₀ p : Nat) (L : List Int) (H : List Bool) (hL : L.length ≤ 1000000) (w : World) (hBs : Bs < w.heap.size) (hn₀ : n₀ ≤ w.heap.size) (hBn : Bs < n₀)
    (hc : w.cell? ⟨Bs, 0, none⟩ = some (.pointer (some ⟨p, 0, none⟩))) (A1 A2 : Option Addr) (c1 c2 : Nat) (hp0 : w.cell? ⟨p, 0, none⟩ = some (.slice A1 L.length c1)) (hp1 : w.cell? ⟨p, 1, none⟩ = some (.slice A2 L.length c2)) (hpn : p < n₀)
    (hr : 0 < L.length → ∃ g1 g2, A1 = some ⟨g1, 0, none⟩ ∧ A2 = some ⟨g2, 0, none⟩ ∧ g1 < n₀ ∧ g2 < n₀ ∧ (∀ j, j < L.length → w.cell? ⟨g1, j, none⟩ = some (.int .i64 (L.getD j 0))) ∧ (∀ j, j < L.length → w.cell? ⟨g2, j, none⟩ = some (.bool (H.getD j false)))) :
    SeqStopsK F n Try.prog 71 #[.pointer (some ⟨Bs, 0, none⟩)] (fun x : S27 => #[Value.int .i64 x.f0, Value.int .i64 x.f1]) (Below n₀) (fun ys => ys = tabN L.length L H) (fun pre => True) L.length w := fun l J Jx W hW _ _ hY h0 => by
  have hc' := (hW.cell (p := ⟨Bs, 0, none⟩) hBs).trans hc
  have hp0' := (hW.cell (p := ⟨p, 0, none⟩) (Nat.lt_of_lt_of_le hpn hn₀)).trans hp0
  have hp1' := (hW.cell (p := ⟨p, 1, none⟩) (Nat.lt_of_lt_of_le hpn hn₀)).trans hp1
  rcases Nat.eq_zero_or_pos L.length with hz | hz
  · rw [hz] at hp0'
    exact (all1_nil F n h71 hro l Bs p J W hc' A1 c1 hp0' h0).mono fun e W' ⟨he, hj⟩ => ⟨he, .inl ⟨_, by rw [hz]; rfl, hj⟩⟩
  · obtain ⟨g1, g2, rfl, rfl, hg1, hg2, hc1, hc2⟩ := hr hz
    exact all1_in F n h71 hro hn l Bs n₀ p L H hL J Jx hY W hBn hc' g1 c1 g2 c2 hp0' hp1' hpn hg1 hg2
      (fun j hj => (hW.cell (p := ⟨g1, j, none⟩) (Nat.lt_of_lt_of_le hg1 hn₀)).trans (hc1 j hj)) (fun j hj => (hW.cell (p := ⟨g2, j, none⟩) (Nat.lt_of_lt_of_le hg2 hn₀)).trans (hc2 j hj)) h0
theorem fn_nil (x : Value) (W : World) : (binOp BinOp.eql 92 (Value.func (Fn.func 71) #[] #[x]) Value.nilFunc).run Try.prog W = .ok (.bool false) W := by kernel_rfl
set_option maxRecDepth 100000 in
set_option maxHeartbeats 4000000 in
theorem pairs_in (F : Fence) (n : Nat) (h27 : F.fn 27) (h57 : F.fn 57) (h71 : F.fn 71) (hro : F.round = none) (hn : 3 ≤ n) (w : World) (p : Nat) (L : List Int) (H : List Bool) (hL : L.length ≤ 1000000) (A1 A2 : Option Addr) (c1 c2 : Nat) (hp0 : w.cell? ⟨p, 0, none⟩ = some (.slice A1 L.length c1)) (hp1 : w.cell? ⟨p, 1, none⟩ = some (.slice A2 L.length c2))
    (hr : 0 < L.length → ∃ g1 g2, A1 = some ⟨g1, 0, none⟩ ∧ A2 = some ⟨g2, 0, none⟩ ∧ g1 < w.heap.size ∧ g2 < w.heap.size ∧ (∀ j, j < L.length → w.cell? ⟨g1, j, none⟩ = some (.int .i64 (L.getD j 0))) ∧ (∀ j, j < L.length → w.cell? ⟨g2, j, none⟩ = some (.bool (H.getD j false)))) :
    CallsIn F n Try.prog 27 #[.pointer (some ⟨p, 0, none⟩)] w fun e w' => ∃ v, e = .returned (.tuple #[v, .bool true]) ∧ w'.ownsRow w.heap.size 27 2 v (tabN L.length L H).length ((tabN L.length L H).flatMap cells27) ∧ Below w.heap.size w w' := by
  have h1 : 1 ≤ n := by omega
  have hfn := fn_nil
  refine callsIn_of_wp_marks Try.func27 rfl h27 ?_ hro
  simp only [Try.ntmps27, List.size_toArray, List.length_cons, List.length_nil, Nat.reduceAdd, Nat.reduceSub, Array.replicate_succ, Array.replicate_zero, List.push_toArray, List.append_toArray, List.nil_append, List.cons_append]
  gi_wp2_with (gi_at_call 57; refine (all_in F (n - 1) h57 hro _ _).mono ?_; rintro e w' ⟨rfl, rfl⟩)
  obtain ⟨i0, hi, hzz⟩ := Option.map_eq_some_iff.1 info27
  simp only [Prod.mk.injEq] at hzz
  obtain ⟨hz0, hz1, hz2⟩ := hzz
  have hB0 : Below w.heap.size w ((w.alloc (.cells #[.pointer (some ⟨p, 0, none⟩)] 53)).alloc (.cells #[.slice none 0 0] 22)) := ((Below.refl _ w).alloc (Nat.le_refl _) _).alloc (by simp) _
  have bS := Boxed.new (w.alloc (.cells #[.pointer (some ⟨p, 0, none⟩)] 53)) 22 (.slice none 0 0)
  rw [World.size_alloc] at bS
  have bP := Boxed.new w 53 (.pointer (some ⟨p, 0, none⟩))
  have hpl : p < w.heap.size := World.block_lt_of_cell? _ _ hp0
  have hstop := all_stops F (n - 1) h71 hro (by omega) w.heap.size (w.heap.size + 1) p L H hL ((w.alloc (.cells #[.pointer (some ⟨p, 0, none⟩)] 53)).alloc (.cells #[.slice none 0 0] 22)) (by simp; omega) (by simp) (by omega)
    (bP.alloc _).cell A1 A2 c1 c2 ((hB0.cell (p := ⟨p, 0, none⟩) hpl).trans hp0) ((hB0.cell (p := ⟨p, 1, none⟩) hpl).trans hp1) (by omega)
    (fun h => by
      obtain ⟨g1, g2, e1, e2, hg1, hg2, h3, h4⟩ := hr h
      exact ⟨g1, g2, e1, e2, by omega, by omega, fun j hj => (hB0.cell (p := ⟨g1, j, none⟩) hg1).trans (h3 j hj), fun j hj => (hB0.cell (p := ⟨g2, j, none⟩) hg2).trans (h4 j hj)⟩)
  refine wpIn_rangeFunc_ownF hro h1 (gf := 71) (lb := #[.pointer (some ⟨w.heap.size, 0, none⟩)]) rfl h71 (enters_of Try.func71 (by kernel_rfl) rfl)
    hstop belowK_t (belowK_b (by simp)) (Below.refl _ _) (fun _ => rfl)
    (fun pre W => (∃ v, Boxed W (w.heap.size + 1) 22 v ∧ W.ownsRow (w.heap.size + 2) 27 2 v pre.length (pre.flatMap cells27) ∧ True) ∧ Below w.heap.size w W)
    (fun _ _ _ => False)
    (OwnFrom.and (Own.from (holdsRow_own (w.heap.size + 2) (w.heap.size + 1) 22 27 2 (fun pre : List S27 => pre.length) (fun pre => pre.flatMap cells27) (fun _ _ => True)) _) (ownFrom_below (Nat.le_refl _) (by simp; omega)))
    (fun _ _ _ _ _ hs _ _ => hs)
    ⟨⟨_, bS, World.ownsRow_nil _ _ _ _, trivial⟩, hB0⟩
    (fun x => { tmps := #[.pointer (some ⟨p, 0, none⟩), undef, .slice none 0 0, .bool false, .func (.func 71) #[] #[.pointer (some ⟨w.heap.size, 0, none⟩)], .pointer (some ⟨w.heap.size + 1, 0, none⟩), .int .i64 x.f0, .int .i64 x.f1, .pointer (some ⟨p, 0, none⟩), .func (.func 71) #[] #[.pointer (some ⟨w.heap.size, 0, none⟩)], .func (.func 71) #[] #[.pointer (some ⟨w.heap.size, 0, none⟩)], .bool false, .func (.func 71) #[] #[.pointer (some ⟨w.heap.size, 0, none⟩)], .int .i64 x.f0, .int .i64 x.f1, undef, undef, undef, undef, undef, undef, undef], defers := [] }) ?assign ?body ?done ?stop
  case assign =>
    intro l x W K hK
    gi_wp2
    exact hK
  case body =>
    rintro l pre x W ⟨⟨v, hv, hrow, _⟩, hB⟩ hpre
    have hc := hv.cell
    have hf := hv.frozen
    have hlt : w.heap.size + 1 < W.heap.size := World.block_lt_of_cell? _ _ hc
    gi_wp2_with (gi_at_builtin; refine wpListIn_append_own _ rfl _ _ 22 rfl (w.heap.size + 2) 27 i0 (.agg #[(.int .i64 0), (.int .i64 0)]) 2 16 Try.underlying22 hi hz0 hz1 hz2 rfl (by decide) v pre.length (pre.flatMap cells27) rfl (hrow.alloc _) ⟨W.heap.size, 0, none⟩ 1 1 [.int .i64 x.f0, .int .i64 x.f1] rfl rfl (World.news_of_block (cs := #[.int .i64 x.f0, .int .i64 x.f1]) (t := 27) (fr := (0, 0)) (heap_alloc_new W _)) (by simp [Value.oneCell']) (by simp only [maxLen]; omega) (by omega) (by simp; omega) ?_; intro v' w3 hown' hg3 hnil3; have hv3 : Boxed w3 (w.heap.size + 1) 22 v := (hv.alloc _).kept hg3 (Boxed.not_row (hv.alloc _) (by decide) (hrow.alloc (.cells #[.int .i64 x.f0, .int .i64 x.f1] 27))); have hc3 := hv3.cell; have hf3 := hv3.frozen; obtain ⟨A', c', rfl⟩ := own_slice hown'; have HO := Aside0.mk (And.intro hown' (And.intro hg3 hv3)); clear hown' hg3 hnil3 hv3)
    obtain ⟨q1, q2, q3⟩ := HO.out
    have hk : ∀ (j : Nat) (o : Obj), v.ownBlock = some j → (W.alloc (.cells #[.int .i64 x.f0, .int .i64 x.f1] 27)).heap[j]? = some o → o.isCells = true := by
      intro j o hj ho
      obtain ⟨cells, hcs⟩ := own_typed (hrow.alloc (.cells #[.int .i64 x.f0, .int .i64 x.f1] 27)) j hj
      rw [hcs] at ho
      injection ho with ho
      subst ho
      rfl
    have hbb : Below (w.heap.size + 1) W (W.alloc (.cells #[.int .i64 x.f0, .int .i64 x.f1] 27)) := (Below.refl _ W).alloc (by omega) _
    have hbc : Below (w.heap.size + 1) W w3 := hbb.grown q2 (by simp; omega) (fun j hj => by have := (hrow.lt j hj).1; omega)
    refine ⟨((KeepsOthers.alloc W _).trans (KeepsOthers.of_grownBy q2 hk)).trans (KeepsOthers.setCell _ _ _), hbc.setCell (p := ⟨w.heap.size + 1, 0, none⟩) (Nat.le_refl _) _, ⟨_, q3.set _, ?_, trivial⟩, hB.trans ((hbc.mono (by omega)).setCell (p := ⟨w.heap.size + 1, 0, none⟩) (by simp) _)⟩
    have := ownsRow_setCell_below (a := ⟨w.heap.size + 1, 0, none⟩) q1 (by simp) (.slice A' (pre.length + 1) c')
    simpa [cells27] using this
  case done =>
    rintro D ys W hD rfl ⟨⟨v, hv, hrow, _⟩, hB⟩ hK
    have hc := hv.cell
    gi_wp2
    refine ⟨by simp, .inl ⟨_, _, rfl, run_takeDeferred hK, ?_⟩⟩
    have hg : W.grownBy (W.putObj D (.deferred none)) (some D) := grownBy_putObj' W D _
    have hrow' := hrow.kept hg (by
      rcases hrow.2 with ⟨rfl, _⟩ | ⟨g, cap, cur, rfl, _, hgb, _⟩
      · exact .inl rfl
      · refine .inr (fun e' => ?_)
        have : g = D := by simpa [Value.ownBlock] using e'
        subst this
        rw [hgb] at hK
        cases hK)
    refine ⟨.tuple #[v, .bool true], ?_, v, rfl, own_weaken hrow' (by omega), hB.trans (belowK_b (w := w) (Nat.le_refl _) W D _ _ (by simp at hD; omega) hK rfl rfl)⟩
    simp [results, Try.f27, go_sem]
  case stop =>
    rintro D c pre W hD _ h _
    exact h.elim
/-- What goes through a table gives its pairs. -/
theorem pairs_any (w0 w : World) (R : HP) (p : Nat) (L : List Int) (H : List Bool) (n : Int) (HT : tabI w0 w R p L H n) (hL : L.length ≤ 1000000) :
    Calls Try.prog 27 #[.pointer (some ⟨p, 0, none⟩)] w fun e w' => ∃ A c, e = .returned (.tuple #[.slice A (tabList L H).length c, .bool true]) ∧ (tabList L H).length ≤ c ∧ Kd.C k27 w' A (tabList L H).length (tabList L H) ∧ Below w.heap.size w w' := by
  obtain ⟨hl, lv, hv, HS⟩ := HT
  obtain ⟨A1, c1, rfl, -⟩ := HS.t3.row_slice
  obtain ⟨A2, c2, rfl, -⟩ := HS.t2.row_slice
  have hc0 := HS.cell 0
  have hc1 := HS.cell 1
  simp at hc0 hc1
  refine (callsIn_wide (n := 3)).1 ?_
  refine (pairs_in _ 3 trivial trivial trivial rfl (by omega) w p L H hL A1 A2 c1 c2 hc0 hc1 (fun h => ?_)).mono ?_
  · obtain ⟨g1, rfl, -, h1, -⟩ := HS.t3.row_form h
    obtain ⟨g2, rfl, -, h2, -⟩ := HS.t2.row_form h
    have k1 : ∀ j, j < L.length → w.cell? ⟨g1, j, none⟩ = some (.int .i64 (L.getD j 0)) := fun j hj => h1 j _ (by simp [hj, List.getD_eq_getElem?_getD])
    have k2 : ∀ j, j < L.length → w.cell? ⟨g2, j, none⟩ = some (.bool (H.getD j false)) := fun j hj => h2 j _ (bools_get _ _ (by omega))
    exact ⟨g1, g2, rfl, rfl, World.block_lt_of_cell? _ _ (k1 0 h), World.block_lt_of_cell? _ _ (k2 0 h), k1, k2⟩
  · rintro e w' ⟨v, rfl, ho, hb⟩
    have ht : tabN L.length L H = tabList L H := by unfold tabList; rw [hl]
    rw [ht] at ho
    obtain ⟨A, c, rfl, hC⟩ := own_reads_row ho (reps_flat flat27 w' _) rfl
    refine ⟨A, c, rfl, ?_, hC, hb⟩
    rcases ho.2 with ⟨h1, h2⟩ | ⟨g, cap, cur, h1, _, _, h2, _⟩
    · injection h1 with _ _ h3; omega
    · injection h1 with _ _ h3; omega
end Go.Proofs.Ytoaneipjcfeinaa
