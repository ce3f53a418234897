/- TablePlays. -/
import Derived.Test.YtoaneipjcfeinaaProg
import Derived.Below
import Derived.Deep.Draws
import Derived.OwnWalk
import Derived.Tactics
import Derived.WalkKit
import Derived.KernelRfl
import Derived.RowKit3
import Derived.Deep.LoopGhost
import Derived.Deep.QuietTactic
import Derived.BigQuiet
import Derived.WideLaws
import Derived.Deep.DeepCutAuto
import Derived.RegionTactic
import Derived.ChangeAlike
import Derived.BigRegion
import Derived.Deep.RegionLaw
import Derived.Test.YtoaneipjcfeinaaWWords
import Derived.Test.YtoaneipjcfeinaaWMore
import Derived.Test.YtoaneipjcfeinaaSep
import Derived.Test.YtoaneipjcfeinaaMap
import Derived.Test.YtoaneipjcfeinaaRd
import Derived.Test.YtoaneipjcfeinaaT5
import Derived.Test.YtoaneipjcfeinaaL1
namespace Go.Proofs.Ytoaneipjcfeinaa
open Go.Sp Go.RowKit Go.Proofs.YtoaneipjcfeinaaW.PrintWords Go.Proofs.YtoaneipjcfeinaaW.PrintLast Go.Proofs.YtoaneipjcfeinaaW.PrintMore
set_option linter.unusedVariables false
set_option linter.unusedSimpArgs false
open PT08
def okB (i : Int) : Bool := decide (0 ≤ i) && decide (i < 1048576)
def setW (l : List S27) (i v : Int) : List S27 := if okB i then setF l i v else l
def rowW (A : Option Addr) (c : Nat) (l : List S27) : HP := row 27 2 (.slice A l.length c) l.length (l.flatMap cells27)
def SetTab (w0 : World) (p : Nat) (L : List Int) (H : List Bool) (n : Int) (l : List S27) (i v : Int) (e : Ending) (w' : World) : Prop :=
  ∃ A' c', e = .returned (.tuple #[.slice A' (setW l i v).length c', .bool (okB i)]) ∧ tabI w0 w' (rowW A' c' (setW l i v)) p L H n
theorem tabI.reads {w0 w : World} {A : Option Addr} {c : Nat} {l : List S27} {p : Nat} {L : List Int} {H : List Bool} {n : Int} (h : tabI w0 w (rowW A c l) p L H n) : l.length ≤ c ∧ Kd.C k27 w A l.length l := by
  obtain ⟨_, lv, hv, hS⟩ := h
  exact (((hS.drop.drop.drop).cast (emp_star _).symm).reads' (d := k27) flat27)
theorem refSet_tab (w0 w : World) (A : Option Addr) (c p : Nat) (L : List Int) (H : List Bool) (n : Int) (l : List S27) (i v : Int) (HT : tabI w0 w (rowW A c l) p L H n) (hl : l.length ≤ 100000) :
    Calls Try.prog 21 #[.slice A l.length c, .int .i64 i, .int .i64 v] w (SetTab w0 p L H n l i v) := by
  unfold SetTab setW
  by_cases h : 0 ≤ i ∧ i < 1048576
  · have hb : okB i = true := by unfold okB; simp [h]
    rw [hb, if_pos rfl]
    refine (refSet_in w A c l i v HT.reads.2 hl h.1 h.2).mono ?_
    rintro e w' ⟨A', c', rfl, hS⟩
    refine ⟨A', c', rfl, ?_⟩
    obtain ⟨h1, lv, hv, h2⟩ := HT
    refine ⟨h1, lv, hv, ?_⟩
    have h3 := (h2.cast (show _ = row 3 1 lv L.length (L.map (Value.int .i64)) * row 4 1 hv L.length (bools H) * blk p #[lv, hv, .int .i64 n] 44 * rowW A c l by ac_rfl)).drop
    have h4 := h3.add_row hS.below (by
      obtain ⟨q1, q2⟩ := hS.ownsRow
      exact ⟨q1, q2⟩)
    exact h4.cast (by unfold rowW; ac_rfl)
  · have hb : okB i = false := by unfold okB; rw [Bool.and_eq_false_iff, decide_eq_false_iff_not, decide_eq_false_iff_not]; omega
    rw [hb, if_neg (by simp)]
    refine (refSet_bad w A l.length c i v (by omega)).mono ?_
    rintro e w' ⟨rfl, rfl⟩
    exact ⟨A, c, rfl, HT⟩
theorem refSet_to {w0 w : World} {A : Option Addr} {c p : Nat} {L : List Int} {H : List Bool} {n : Int} {l l' : List S27} {i v : Int} (e1 : setW l i v = l') (HT : tabI w0 w (rowW A c l) p L H n) (hl : l.length ≤ 100000) :
    Calls Try.prog 21 #[.slice A l.length c, .int .i64 i, .int .i64 v] w fun e w' => ∃ A' c', e = .returned (.tuple #[.slice A' l'.length c', .bool (okB i)]) ∧ tabI w0 w' (rowW A' c' l') p L H n := by
  subst e1
  exact refSet_tab w0 w A c p L H n l i v HT hl
def tL (L : List Int) (i v : Int) : List Int := if okB i then setL L 0 i.toNat v else L
def tH (H : List Bool) (i : Int) : List Bool := if okB i then setH H i.toNat else H
def tN (H : List Bool) (i n : Int) : Int := if okB i then setN H i.toNat n else n
theorem setI_any (w0 w : World) (R : HP) (p : Nat) (L : List Int) (H : List Bool) (n i v : Int) (HT : tabI w0 w R p L H n) (hn0 : 0 ≤ n) (hn1 : n < 2000000) :
    Calls Try.prog 22 #[.pointer (some ⟨p, 0, none⟩), .int .i64 i, .int .i64 v] w fun e w' => e = .returned (.bool (okB i)) ∧ tabI w0 w' R p (tL L i v) (tH H i) (tN H i n) := by
  unfold tL tH tN
  by_cases h : 0 ≤ i ∧ i < 1048576
  · have hb : okB i = true := by unfold okB; simp [h]
    rw [hb]
    exact setI_in w0 w R p L H n i v HT h.1 h.2 hn0 hn1
  · have hb : okB i = false := by unfold okB; rw [Bool.and_eq_false_iff, decide_eq_false_iff_not, decide_eq_false_iff_not]; omega
    rw [hb]
    refine (setI_out w _ i v (by omega)).mono ?_
    rintro e w' ⟨rfl, rfl⟩
    exact ⟨rfl, HT⟩
theorem refGet_calls (l : List S27) (A : Option Addr) (c : Nat) (n : Int) (w : World) (h : Kd.C k27 w A l.length l) (hc : l.length ≤ c) (hn : l.length ≤ 1000000000) :
    Calls Try.prog 24 #[.slice A l.length c, .int .i64 n] w fun e w' => e = .returned (.tuple #[.int .i64 (getF l n).1, .bool (getF l n).2]) ∧ Drawn0 w w' :=
  easementref08_Get.calls (l.length + 1) A c l n _ _ w h hc (Get_f l n hn)
/-- What holds of the table and the list at a round's head. -/
structure Plays (w0 W : World) (p : Nat) (k : Nat) (A : Option Addr) (c : Nat) (L : List Int) (H : List Bool) : Prop where
  tab : tabI w0 W (rowW A c (tabList L H)) p L H ((tabList L H).length : Nat)
  len : L.length ≤ 2000
  zero : ∀ k, H.getD k false = false → L.getD k 0 = 0
  cnt : (tabList L H).length ≤ k
theorem plays_set {L : List Int} {H : List Bool} {i v : Int} (h : okB i = true → i < 2000) (hl : L.length ≤ 2000) (hz : ∀ k, H.getD k false = false → L.getD k 0 = 0) {k : Nat} (hk : (tabList L H).length ≤ k) :
    setW (tabList L H) i v = tabList (tL L i v) (tH H i) ∧ tN H i ((tabList L H).length : Nat) = ((tabList (tL L i v) (tH H i)).length : Nat) ∧ (tL L i v).length ≤ 2000 ∧ (∀ k, (tH H i).getD k false = false → (tL L i v).getD k 0 = 0) ∧ (tabList (tL L i v) (tH H i)).length ≤ k + 1 := by
  unfold setW tL tH tN
  by_cases hb : okB i = true
  · simp only [hb, if_true]
    have hi : 0 ≤ i := by unfold okB at hb; simp at hb; exact hb.1
    obtain ⟨m, rfl⟩ := Int.eq_ofNat_of_zero_le hi
    rw [Int.toNat_natCast]
    have h1 := tab_len L H m v
    refine ⟨tab_set L H m v, h1.symm, ?_, tab_zero L H m v hz, ?_⟩
    · rw [setL_length]; have := h hb; omega
    · have h2 : setN H m ((tabList L H).length : Nat) ≤ ((tabList L H).length : Nat) + 1 := by unfold setN; split <;> omega
      omega
  · simp only [hb, if_false, Bool.false_eq_true]
    exact ⟨trivial, trivial, hl, hz, by omega⟩
theorem plays_far (l : List S27) (A : Option Addr) (c : Nat) (i other : Int) (w : World) (h : 40 < (l.length : Int)) :
    Calls Try.prog 5 #[.slice A l.length c, .int .i64 i, .int .i64 other] w fun e w' => e = .returned (.bool true) ∧ Below w.heap.size w w' := by
  have hb := decide_eq_true h
  go_enter Try.func5, Try.ntmps5
  go_wp2_with fail
  refine (awake08 _).mono ?_
  rintro e w' ⟨rfl, hB⟩
  go_wp2
  go_ret
  exact ⟨rfl, hB⟩
set_option maxHeartbeats 8000000 in
set_option maxRecDepth 100000 in
theorem plays_in (l : List S27) (A : Option Addr) (c : Nat) (i other : Int) (w : World) (HC : Kd.C k27 w A l.length l) (hc : l.length ≤ c) (h : ¬ 40 < (l.length : Int)) :
    Calls Try.prog 5 #[.slice A l.length c, .int .i64 i, .int .i64 other] w fun e w' => e = .returned (.bool true) ∧ Below w.heap.size w w' := by
  have hb := decide_eq_false h
  have HP0 : Aside0 (Plays w (w.alloc (.cells #[.slice none 0 0, .slice none 0 0, .int .i64 0] 44)) w.heap.size 0 none 0 [] []) := by
    refine ⟨⟨rfl, .slice none 0 0, .slice none 0 0, ?_⟩, by simp, by simp, by simp [tabList, tabN]⟩
    have := ((((Sep.start w).alloc_blk #[.slice none 0 0, .slice none 0 0, .int .i64 0] 44).nil_row 27 2).nil_row 3 1).nil_row 4 1
    exact this.cast (by unfold rowW; simp only [tabList, tabN, List.length_nil, List.range_zero, List.filter_nil, List.map_nil, List.flatMap_nil, bools]; rw [emp_star]; ac_rfl)
  replace HC := Aside0.mk HC
  go_enter Try.func5, Try.ntmps5
  go_wp2
  go_loopg [8, 9] l.length (fun kq v8 v9 w' => ∃ (k : Nat) (A' : Option Addr) (c' m : Nat) (L : List Int) (H : List Bool), v8 = .slice A' m c' ∧ v9 = .int .i64 k ∧ Aside0 (k ≤ l.length) ∧ Aside0 (m = (tabList L H).length ∧ Plays w w' w.heap.size k A' c' L H) ∧ Aside0 (kq = l.length - k))
  case atStart => exact ⟨0, none, 0, 0, [], [], rfl, rfl, ⟨by omega⟩, ⟨rfl, HP0.out⟩, ⟨by omega⟩⟩
  case round =>
    clear HP0
    obtain ⟨k, A', c', m, L, H, rfl, rfl, Hk, HI, HK⟩ := hrel
    by_cases hlt : (k : Int) < l.length
    · have hlb := decide_eq_true hlt
      have hkk : k < l.length := by omega
      obtain ⟨ad, rfl, hx0, hx1⟩ := at_T27 HC.out (k : Int) (by omega) (by omega)
      rw [rd27 l k hkk, Int.toNat_natCast] at hx0 hx1
      generalize l[k] = s at hx0 hx1
      have hN : Aside0 (∀ w1, Below w.heap.size w w1 → w1.cell? (ad.add (k * 2)) = some (.int .i64 s.f0) ∧ w1.cell? ⟨(ad.add (k * 2)).block, (ad.add (k * 2)).off + 1, none⟩ = some (.int .i64 s.f1)) := ⟨fun w1 hb => ⟨pw_cell_below hb hx0, pw_cell_below hb hx1⟩⟩
      clear hx0 hx1
      obtain ⟨hz0, hz1⟩ := hN.out wr HI.out.2.tab.below
      have hB := Aside0.mk HI.out.2.tab.below
      by_cases hfar : 2000 ≤ s.f0 ∧ s.f0 < 1048576
      · have hd0 := decide_eq_true hfar.1
        have hd1 := decide_eq_true hfar.2
        clear hfar
        go_wp2_with fail
        refine (awake08 _).mono ?_
        rintro e w5 ⟨rfl, hB5⟩
        have hBB := hB.out.trans (hB5.mono hB.out.size)
        go_wp2
        go_ret
        exact ⟨rfl, hBB⟩
      · have hd : Aside0 (okB s.f0 = true → s.f0 < 2000) := ⟨fun h => by unfold okB at h; simp at h; omega⟩
        obtain ⟨hm, HPl⟩ := HI.out
        subst hm
        have HS1 := Aside0.mk (plays_set (v := s.f1) hd.out HPl.len HPl.zero HPl.cnt)
        have hml : (tabList L H).length ≤ 100000 := by have := HPl.cnt; omega
        have hd2 : Aside0 (¬ (2000 ≤ s.f0 ∧ s.f0 < 1048576)) := ⟨hfar⟩
        clear hfar hd
        go_upto_region 8 with fail
        go_cut [41] (fun v wx => v = .bool false ∧ wx = wr)
        case first =>
          by_cases hge : 2000 ≤ s.f0
          · have hd0 := decide_eq_true hge
            have hd1 : decide (s.f0 < 1048576) = false := decide_eq_false (by have := hd2.out; omega)
            go_wp2
            go_meet
            exact ⟨rfl, rfl⟩
          · have hd0 := decide_eq_false hge
            go_wp2
            go_meet
            exact ⟨rfl, rfl⟩
        case rest =>
        obtain ⟨rfl, rfl⟩ := hcut
        obtain ⟨e1, e2, e3, e4, e5⟩ := HS1.out
        have E2 := Aside0.mk e2
        clear HS1 e2
        generalize hL3 : tL L s.f0 s.f1 = L3 at *
        generalize hH3 : tH H s.f0 = H3 at *
        replace hL3 := Aside0.mk hL3
        replace hH3 := Aside0.mk hH3
        have e1' := Aside0.mk e1
        clear e1
        go_upto_region 10 with fail
        go_cut [10, 11] (fun v10 v11 wx => ∃ A2 c2, v10 = .slice A2 (tabList L3 H3).length c2 ∧ v11 = .bool (okB s.f0) ∧ Aside0 (tabI w wx (rowW A2 c2 (tabList L3 H3)) w.heap.size L H ((tabList L H).length : Nat)))
        case first =>
          go_region_with (go_at_call 21; refine (refSet_to e1'.out (by first | exact HPl.tab | exact HPl.tab.move (Below.refl _ _).drew) hml).mono ?_; rintro e w2 ⟨A2, c2, rfl, HT2⟩; replace HT2 := Aside0.mk HT2)
          all_goals (go_wp2_with fail; go_meet; exact ⟨_, _, rfl, rfl, HT2⟩)
        case rest =>
        obtain ⟨A2, c2, rfl, rfl, HT2⟩ := hcut
        clear hz0 hz1 hB
        obtain ⟨hz0, hz1⟩ := hN.out _ HT2.out.below
        have hn1 : (((tabList L H).length : Nat) : Int) < 2000000 := by omega
        have hn0 : (0 : Int) ≤ ((tabList L H).length : Nat) := by omega
        go_upto_region 12 with fail
        go_cut [71] (fun v wy => v = .bool false ∧ Aside0 (tabI w wy (rowW A2 c2 (tabList L3 H3)) w.heap.size (tL L s.f0 s.f1) (tH H s.f0) (tN H s.f0 ((tabList L H).length : Nat))))
        case first =>
          go_region_with (go_at_call 22; refine (setI_any w _ _ _ L H _ _ _ (by first | exact HT2.out | exact HT2.out.move (Below.refl _ _).drew) hn0 hn1).mono ?_; rintro e w3 ⟨rfl, HT3⟩; replace HT3 := Aside0.mk HT3)
          all_goals (go_wp2_with fail; go_meet; refine ⟨?_, HT3⟩; simp)
        case rest =>
        obtain ⟨rfl, HT3⟩ := hcut
        replace HT3 := HT3.out
        rw [hL3.out, hH3.out, E2.out] at HT3
        clear e1' hL3 hH3 E2 hz0 hz1 HT2 hn1 hn0 HPl HI
        have hz := e4
        have HLn : Aside0 ((tabList L3 H3).length ≤ 100000) := ⟨by omega⟩
        have hlen3 : L3.length = H3.length := HT3.1
        have HR := HT3.reads
        have HTa := Aside0.mk HT3
        have HRa := Aside0.mk HR
        clear HT3 HR
        go_wp2_with fail
        refine (getI_any w _ _ _ L3 H3 _ i HTa.out).mono ?_
        rintro e w4 ⟨rfl, hD4⟩
        have hB4 := hD4.below
        replace HTa := Aside0.mk (HTa.out.move hB4)
        replace HRa := Aside0.mk HTa.out.reads
        clear hD4 hB4
        go_wp2_with fail
        refine (refGet_calls (tabList L3 H3) A2 c2 i _ HRa.out.2 HRa.out.1 (by have := HLn.out; omega)).mono ?_
        rw [tab_get L3 H3 i hlen3 hz]
        rintro e w5 ⟨rfl, hD5⟩
        replace HTa := Aside0.mk (HTa.out.move hD5.below)
        clear HRa hD5
        generalize hv : valI L3 i = v
        generalize hb : hasB H3 i = b
        have Hv := Aside0.mk hv
        have Hb := Aside0.mk hb
        clear hv hb
        have hvv : (v != v) = false := by simp
        have hbb : (b != b) = false := by simp
        have hnn : ((((tabList L3 H3).length : Nat) : Int) != ((tabList L3 H3).length : Nat)) = false := by simp
        go_wp2_with fail
        refine (lenI_some w _ _ _ L3 H3 _ HTa.out).mono ?_
        rintro e w6 ⟨rfl, rfl⟩
        cases b
        · go_wp2_with fail
          refine (orI_any w _ _ _ L3 H3 _ i other HTa.out).mono ?_
          rw [Hb.out, Hv.out]
          rintro e w6 ⟨rfl, hD6⟩
          replace HTa := Aside0.mk (HTa.out.move hD6.below)
          clear hD6
          dsimp only [orF, Bool.false_eq_true, if_false]
          have hoo : (other != other) = false := by simp
          go_wp2_with fail
          go_roundg (l.length - (k + 1))
          case measure => have := HK.out; omega
          case rel => exact ⟨k + 1, A2, c2, _, L3, H3, rfl, by go_num, ⟨by omega⟩, ⟨rfl, ⟨HTa.out, e3, e4, e5⟩⟩, ⟨rfl⟩⟩
        · go_wp2_with fail
          refine (orI_any w _ _ _ L3 H3 _ i other HTa.out).mono ?_
          rw [Hb.out, Hv.out]
          rintro e w6 ⟨rfl, hD6⟩
          replace HTa := Aside0.mk (HTa.out.move hD6.below)
          clear hD6
          dsimp only [orF, if_true]
          go_wp2_with fail
          go_roundg (l.length - (k + 1))
          case measure => have := HK.out; omega
          case rel => exact ⟨k + 1, A2, c2, _, L3, H3, rfl, by go_num, ⟨by omega⟩, ⟨rfl, ⟨HTa.out, e3, e4, e5⟩⟩, ⟨rfl⟩⟩
    · have hlb := decide_eq_false hlt
      obtain ⟨hm, HPl⟩ := HI.out
      subst hm
      have HTa := Aside0.mk HPl.tab
      have hLn : L.length ≤ 1000000 := by have := HPl.len; omega
      have hln : (tabList L H).length ≤ 1000000000000 := by have := HPl.cnt; have := Hk.out; omega
      have hlb2 : decide (k < l.length) = false := decide_eq_false (by omega)
      have hlt2 : ¬ k < l.length := by omega
      clear HPl HI Hk HK hlt HC
      go_wp2_with fail
      refine (pairs_any w _ _ _ L H _ HTa.out hLn).mono ?_
      rintro e w2 ⟨A2, c2, rfl, hc2, HC2, hB2⟩
      have HT3 := Aside0.mk (HTa.out.move hB2)
      replace HC2 := Aside0.mk HC2
      clear HTa hB2
      go_wp2_with fail
      refine (same_calls (tabList L H) (tabList L H) A2 A' c2 c' _ HC2.out hc2 HT3.out.reads.2 HT3.out.reads.1 hln).mono ?_
      simp only [decide_true]
      rintro e w3 ⟨rfl, hD⟩
      have hB3 := HT3.out.below.trans (hD.below.mono HT3.out.below.size)
      clear hD
      go_wp2_with fail
      refine (awake08 _).mono ?_
      rintro e w5 ⟨rfl, hB5⟩
      have hB := hB3.trans (hB5.mono hB3.size)
      go_wp2
      go_ret
      exact ⟨rfl, hB⟩
theorem plays_row (w : World) (A : Option Addr) (c : Nat) (l : List S27) (HC : Kd.C k27 w A l.length l) (hc : l.length ≤ c) (hq : (∀ y ∈ l, True) ∧ l.length ≤ maxLen) (i other : Int) :
    Calls Try.prog 5 #[.slice A l.length c, .int .i64 i, .int .i64 other] w fun e w' => e = .returned (.bool true) ∧ Below w.heap.size w w' := by
  by_cases h : 40 < (l.length : Int)
  · exact plays_far l A c i other w h
  · exact plays_in l A c i other w HC hc h
end Go.Proofs.Ytoaneipjcfeinaa
