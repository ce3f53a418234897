/- What the statement TableGroups runs through comes to true at every list and number. -/
import Derived.Test.YtoaneipjcfeinaaProg
import Derived.Below
import Derived.Deep.Draws
import Derived.OwnWalk
import Derived.Tactics
import Derived.WalkKit
import Derived.KernelRfl
import Derived.RowKit3
import Derived.Deep.LoopGhost
import Derived.Deep.QuietTactic
import Derived.BigQuiet
import Derived.WideLaws
import Derived.Deep.DeepCutAuto
import Derived.RegionTactic
import Derived.ChangeAlike
import Derived.BigRegion
import Derived.Deep.RegionLaw
import Derived.Test.YtoaneipjcfeinaaWWords
import Derived.Test.YtoaneipjcfeinaaWMore
import Derived.Test.YtoaneipjcfeinaaSep
import Derived.Test.YtoaneipjcfeinaaMap
import Derived.Test.YtoaneipjcfeinaaRd
import Derived.Test.YtoaneipjcfeinaaT3
import Derived.Test.YtoaneipjcfeinaaOpen
namespace Go.Proofs.Ytoaneipjcfeinaa
open Go.Sp Go.RowKit Go.Proofs.YtoaneipjcfeinaaW.PrintWords Go.Proofs.YtoaneipjcfeinaaW.PrintLast Go.Proofs.YtoaneipjcfeinaaW.PrintMore
set_option linter.unusedVariables false
set_option linter.unusedSimpArgs false
open PT08
theorem refGroup_calls (l : List S27) (A : Option Addr) (c : Nat) (n : Int) (w : World) (h : Kd.C k27 w A l.length l) (hc : l.length ≤ c) (hn : l.length ≤ 1000000000) :
    Calls Try.prog 16 #[.slice A l.length c, .int .i64 n] w fun e w' => ∃ A' c', e = .returned (.slice A' (groupF l n).length c') ∧ (groupF l n).length ≤ c' ∧ Kd.C k27 w' A' (groupF l n).length (groupF l n) ∧ Below w.heap.size w w' := by
  refine (easementref08_Group.calls (l.length + 1) A c l n _ w h hc (Group_f l n hn)).mono ?_
  rintro e w' ⟨v, rfl, hr, hb⟩
  obtain ⟨A', c', rfl, h1, h2⟩ := Kd.R_reads hr
  exact ⟨A', c', rfl, h1, h2, hb⟩
theorem refFirsts_calls (l : List S27) (A : Option Addr) (c : Nat) (w : World) (h : Kd.C k27 w A l.length l) (hc : l.length ≤ c) (hn : l.length ≤ 100000) :
    Calls Try.prog 15 #[.slice A l.length c] w fun e w' => ∃ A' c', e = .returned (.slice A' (firstsF l).length c') ∧ (firstsF l).length ≤ c' ∧ Kd.C k27 w' A' (firstsF l).length (firstsF l) ∧ Below w.heap.size w w' := by
  refine (easementref08_Firsts.calls ((l.length + 1) * (l.length + 2)) A c l _ w h hc (Firsts_f l hn)).mono ?_
  rintro e w' ⟨v, rfl, hr, hb⟩
  obtain ⟨A', c', rfl, h1, h2⟩ := Kd.R_reads hr
  exact ⟨A', c', rfl, h1, h2, hb⟩
theorem firstsP_calls (l : List S27) (A : Option Addr) (c : Nat) (w : World) (h : Kd.C k27 w A l.length l) (hc : l.length ≤ c) (hn : l.length ≤ 1048576) :
    Calls Try.prog 14 #[.slice A l.length c] w fun e w' => ∃ A' c', e = .returned (.slice A' (firstsF l).length c') ∧ (firstsF l).length ≤ c' ∧ Kd.C k27 w' A' (firstsF l).length (firstsF l) ∧ Below w.heap.size w w' := by
  refine (firstsP_any l A c w h hc hn).mono ?_
  rintro e w' ⟨A', c', rfl, hS⟩
  have := (hS.cast (emp_star _).symm).reads' (d := k27) flat27
  exact ⟨A', c', rfl, this.1, this.2, hS.below⟩
/-- Its limits, as a test. -/
theorem groups_far (l : List S27) (A : Option Addr) (c : Nat) (n : Int) (w : World) (h : 60 < (l.length : Int) ∨ (100 < n ∧ n ≤ 1048576)) :
    Calls Try.prog 3 #[.slice A l.length c, .int .i64 n] w fun e w' => e = .returned (.bool true) ∧ Below w.heap.size w w' := by
  by_cases h0 : 60 < (l.length : Int)
  · have hb := decide_eq_true h0
    clear h
    go_enter Try.func3, Try.ntmps3
    go_wp2_with fail
    refine (awake08 _).mono ?_
    rintro e w' ⟨rfl, hB⟩
    go_wp2
    go_ret
    exact ⟨rfl, hB⟩
  · have hb := decide_eq_false h0
    obtain ⟨h1, h2⟩ : 100 < n ∧ n ≤ 1048576 := by omega
    clear h
    go_enter Try.func3, Try.ntmps3
    go_wp2_with fail
    refine (awake08 _).mono ?_
    rintro e w' ⟨rfl, hB⟩
    go_wp2
    go_ret
    exact ⟨rfl, hB⟩
set_option maxHeartbeats 2000000 in
set_option maxRecDepth 100000 in
theorem groups_out (l : List S27) (A : Option Addr) (c : Nat) (n : Int) (w : World) (HC : Kd.C k27 w A l.length l) (hc : l.length ≤ c) (h0 : ¬ 60 < (l.length : Int)) (h1 : n < 0 ∨ 1048576 < n) :
    Calls Try.prog 3 #[.slice A l.length c, .int .i64 n] w fun e w' => e = .returned (.bool true) ∧ Below w.heap.size w w' := by
  have hb := decide_eq_false h0
  have H1 := Aside0.mk h1
  replace HC := Aside0.mk HC
  by_cases h2 : 100 < n
  · have hn0 : decide (100 < n) = true := decide_eq_true h2
    have hn1 : decide (n ≤ 1048576) = false := decide_eq_false (by omega)
    have hn2 : decide (n < 0) = false := decide_eq_false (by omega)
    have hn3 : decide (1048576 < n) = true := decide_eq_true (by omega)
    clear h1
    go_enter Try.func3, Try.ntmps3
    go_wp2_with fail
    refine (groupP_out l A c n _ H1.out).mono ?_
    rintro e w1 ⟨rfl, rfl⟩
    go_wp2_with fail
    refine (firstsP_calls l A c _ HC.out hc (by omega)).mono ?_
    rintro e w1 ⟨A1, c1, rfl, hc1, HC1, hB1⟩
    replace HC1 := Aside0.mk HC1
    go_wp2_with fail
    refine (refFirsts_calls l A c _ (Kd.C_below HC.out hB1) hc (by omega)).mono ?_
    rintro e w2 ⟨A2, c2, rfl, hc2, HC2, hB2⟩
    replace HC2 := Aside0.mk HC2
    go_wp2_with fail
    refine (same_calls (firstsF l) (firstsF l) A1 A2 c1 c2 _ (Kd.C_below HC1.out hB2) hc1 HC2.out hc2 (by have := firstsF_len l; omega)).mono ?_
    rintro e w3 ⟨rfl, hd⟩
    have hB := hB1.trans ((hB2.mono hB1.size).trans (hd.below.mono (hB1.trans (hB2.mono hB1.size)).size))
    clear hd hB1 hB2
    simp only [decide_true]
    go_wp2_with fail
    refine (awake08 _).mono ?_
    rintro e w4 ⟨rfl, hB4⟩
    replace hB := hB.trans (hB4.mono hB.size)
    go_wp2
    go_ret
    exact ⟨rfl, hB⟩
  · have hn0 : decide (100 < n) = false := decide_eq_false h2
    have hn2 : decide (n < 0) = true := decide_eq_true (by omega)
    clear h1
    go_enter Try.func3, Try.ntmps3
    go_wp2_with fail
    refine (groupP_out l A c n _ H1.out).mono ?_
    rintro e w1 ⟨rfl, rfl⟩
    go_wp2_with fail
    refine (firstsP_calls l A c _ HC.out hc (by omega)).mono ?_
    rintro e w1 ⟨A1, c1, rfl, hc1, HC1, hB1⟩
    replace HC1 := Aside0.mk HC1
    go_wp2_with fail
    refine (refFirsts_calls l A c _ (Kd.C_below HC.out hB1) hc (by omega)).mono ?_
    rintro e w2 ⟨A2, c2, rfl, hc2, HC2, hB2⟩
    replace HC2 := Aside0.mk HC2
    go_wp2_with fail
    refine (same_calls (firstsF l) (firstsF l) A1 A2 c1 c2 _ (Kd.C_below HC1.out hB2) hc1 HC2.out hc2 (by have := firstsF_len l; omega)).mono ?_
    rintro e w3 ⟨rfl, hd⟩
    have hB := hB1.trans ((hB2.mono hB1.size).trans (hd.below.mono (hB1.trans (hB2.mono hB1.size)).size))
    clear hd hB1 hB2
    simp only [decide_true]
    go_wp2_with fail
    refine (awake08 _).mono ?_
    rintro e w4 ⟨rfl, hB4⟩
    replace hB := hB.trans (hB4.mono hB.size)
    go_wp2
    go_ret
    exact ⟨rfl, hB⟩
theorem group_reads {l : List S27} {n : Nat} {w w' : World} {g : Nat} {vs : List Value} (hv : vs.length = n) (h : Sep w w' (row 22 1 (.slice (some ⟨g, 0, none⟩) n n) n vs * rowsL 27 2 cells27 vs ((List.range n).map fun (k : Nat) => groupF l k))) (k : Nat) (hk : k < n) :
    ∃ A c, w'.cell? ⟨g, k, none⟩ = some (.slice A (groupF l k).length c) ∧ (groupF l k).length ≤ c ∧ Kd.C k27 w' A (groupF l k).length (groupF l k) := by
  obtain ⟨R, hR, -⟩ := rowsL_at 27 2 cells27 vs ((List.range n).map fun (q : Nat) => groupF l q) k (by omega) (by simp [hv])
  rw [hR] at h
  simp only [List.getElem_map, List.getElem_range] at h
  have h2 := h.cast (star_assoc _ _ _).symm
  obtain ⟨A, c, h3, h4, h5⟩ := h2.reads (d := k27) flat27
  have h6 := h2.t3'.row_cell k (vs[k]'(by omega)) (by simp [List.getElem?_eq_getElem (show k < vs.length by omega)])
  rw [h3] at h6
  exact ⟨A, c, h6, h4, h5⟩
set_option maxHeartbeats 2000000 in
set_option maxRecDepth 100000 in
theorem groups_in (l : List S27) (A : Option Addr) (c : Nat) (n : Nat) (w : World) (HC : Kd.C k27 w A l.length l) (hc : l.length ≤ c) (h0 : ¬ 60 < (l.length : Int)) (h1 : n ≤ 100) :
    Calls Try.prog 3 #[.slice A l.length c, .int .i64 n] w fun e w' => e = .returned (.bool true) ∧ Below w.heap.size w w' := by
  have hb := decide_eq_false h0
  replace HC := Aside0.mk HC
  have hn0 : decide (100 < (n : Int)) = false := decide_eq_false (by omega)
  have hn1 : decide ((n : Int) < 0) = false := decide_eq_false (by omega)
  have hn2 : decide (1048576 < (n : Int)) = false := decide_eq_false (by omega)
  go_enter Try.func3, Try.ntmps3
  go_wp2_with fail
  refine (groupP_in l A c n _ HC.out hc (by omega) (by omega)).mono ?_
  rintro e w1 ⟨g, vs, rfl, hv, HG⟩
  have hB1 := HG.below
  have HGR := Aside0.mk (fun k hk => group_reads hv HG k hk)
  clear HG hv
  go_wp2_with fail
  refine (firstsP_calls l A c _ (Kd.C_below HC.out hB1) hc (by omega)).mono ?_
  rintro e w2 ⟨A1, c1, rfl, hc1, HC1, hB2⟩
  replace HC1 := Aside0.mk HC1
  go_wp2_with fail
  refine (refFirsts_calls l A c _ (Kd.C_below (Kd.C_below HC.out hB1) hB2) hc (by omega)).mono ?_
  rintro e w3 ⟨A2, c2, rfl, hc2, HC2, hB3⟩
  replace HC2 := Aside0.mk HC2
  go_wp2_with fail
  refine (same_calls (firstsF l) (firstsF l) A1 A2 c1 c2 _ (Kd.C_below HC1.out hB3) hc1 HC2.out hc2 (by have := firstsF_len l; omega)).mono ?_
  rintro e w4 ⟨rfl, hd⟩
  have hB4 := hB2.trans ((hB3.mono hB2.size).trans (hd.below.mono (hB2.trans (hB3.mono hB2.size)).size))
  clear hd hB2 hB3
  simp only [decide_true]
  go_wp2
  have HB1 := Aside0.mk hB1
  clear hB1
  replace hB4 := Aside0.mk hB4
  clear HC1 HC2 hc1 hc2
  go_loopg [6] n (fun kq v6 w' => ∃ k : Nat, v6 = .int .i64 k ∧ Aside0 (k ≤ n) ∧ Aside0 (Below w1.heap.size w1 w') ∧ Aside0 (kq = n - k))
  case atStart => exact ⟨0, rfl, ⟨by omega⟩, ⟨hB4.out⟩, ⟨by omega⟩⟩
  case round =>
    clear hB4
    obtain ⟨k, rfl, Hk, HB, HK⟩ := hrel
    by_cases hlt : (k : Int) < n
    · have hlb := decide_eq_true hlt
      obtain ⟨A3, c3, hx, hc3, HC3⟩ := HGR.out k (by omega)
      have hx1 := pw_cell_below HB.out hx
      replace HC3 := Aside0.mk (Kd.C_below HC3 HB.out)
      have HC4 := Aside0.mk (Kd.C_below (Kd.C_below HC.out HB1.out) HB.out)
      clear hx
      have hgl : (groupF l k).length ≤ 1000000000000 := by
        have := List.length_filter_le (fun x : S27 => decide (x.f0 = (k : Int))) l
        unfold groupF
        omega
      go_wp2_with fail
      go_region_with (first
        | (go_at_call 16; refine (refGroup_calls l A c (k : Int) _ (by first | exact HC4.out | exact Kd.C_below HC4.out (Below.refl _ _).drew) hc (by omega)).mono ?_; rintro e w2 ⟨A4, c4, rfl, hc4, HC5, hB2⟩; replace hB2 : Below wr.heap.size wr w2 := (Below.refl wr.heap.size wr).drew.trans hB2; replace hx2 := pw_cell_below hB2 hx1; replace HC6 := Aside0.mk (And.intro hc4 (And.intro HC5 (And.intro hB2 (Kd.C_below HC3.out hB2)))); clear hc4 HC5 hB2)
        | (go_at_call 13; refine (same_calls (groupF l k) (groupF l k) A3 A4 c3 c4 _ HC6.out.2.2.2 hc3 HC6.out.2.1 HC6.out.1 hgl).mono ?_; rintro e w3 ⟨rfl, hd⟩; simp only [decide_true]; replace hBB := Aside0.mk (HB.out.trans ((HC6.out.2.2.1.mono HB.out.size).trans (hd.below.mono (HB.out.trans (HC6.out.2.2.1.mono HB.out.size)).size))); clear hd))
      all_goals
        go_wp2
        go_roundg (n - (k + 1))
        case measure => have := HK.out; omega
        case rel => exact ⟨k + 1, by go_num, ⟨by omega⟩, ⟨hBB.out⟩, ⟨rfl⟩⟩
    · have hlb := decide_eq_false hlt
      go_wp2_with fail
      refine (awake08 _).mono ?_
      rintro e w5 ⟨rfl, hB5⟩
      have hB := HB1.out.trans ((HB.out.mono HB1.out.size).trans (hB5.mono (HB1.out.trans (HB.out.mono HB1.out.size)).size))
      go_wp2
      go_ret
      exact ⟨rfl, hB⟩
theorem groups_any (A : Option Addr) (c : Nat) (l : List S27) (w0 : World) (HC : Kd.C k27 w0 A l.length l) (hc : l.length ≤ c) (n : Int) :
    Calls Try.prog 3 #[.slice A l.length c, .int .i64 n] w0 fun e w' => e = .returned (.bool true) ∧ Below w0.heap.size w0 w' := by
  by_cases h : 60 < (l.length : Int) ∨ (100 < n ∧ n ≤ 1048576)
  · exact groups_far l A c n w0 h
  · by_cases h1 : n < 0 ∨ 1048576 < n
    · exact groups_out l A c n w0 HC hc (by omega) h1
    · obtain ⟨m, rfl⟩ := Int.eq_ofNat_of_zero_le (show 0 ≤ n by omega)
      exact groups_in l A c m w0 HC hc (by omega) (by omega)
theorem opens27 : Opens Try.prog 27 k27 (fun _ => True) := by
  have h := opens_iso (opens_struct (t := 27) Try.underlying27 (by kernel_rfl) (opensL_cons (opens_int Try.underlying3) (opensL_one (opens_int Try.underlying3)))) (fun x : S27 => (x.f0, x.f1)) (fun p => ⟨p.1, p.2⟩) (fun _ => rfl)
  intro H enc w base spare held fuel cs x hx
  obtain ⟨y, h1, _⟩ := h H enc w base spare held fuel cs x hx
  exact ⟨y, h1, trivial⟩
theorem opens22 : Opens Try.prog 22 (Kd.slice 27 k27) (fun l => (∀ y ∈ l, True) ∧ l.length ≤ maxLen) := opens_slice Try.underlying22 (by kernel_rfl) opens27
theorem groups_row (w : World) (A : Option Addr) (c : Nat) (l : List S27) (HC : Kd.C k27 w A l.length l) (hc : l.length ≤ c) (hq : (∀ y ∈ l, True) ∧ l.length ≤ maxLen) (n : Int) :
    Calls Try.prog 3 #[.slice A l.length c, .int .i64 n] w fun e w' => e = .returned (.bool true) ∧ Below w.heap.size w w' := groups_any A c l w HC hc n
end Go.Proofs.Ytoaneipjcfeinaa
