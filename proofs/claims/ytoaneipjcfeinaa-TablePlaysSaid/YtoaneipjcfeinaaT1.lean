/- What the functions of tables of layer 8 do: Set, Get, Or and Len, each walked once. -/
import Derived.Test.YtoaneipjcfeinaaProg
import Derived.Below
import Derived.Deep.Draws
import Derived.OwnWalk
import Derived.Tactics
import Derived.WalkKit
import Derived.KernelRfl
import Derived.RowKit3
import Derived.Deep.LoopGhost
import Derived.Deep.QuietTactic
import Derived.BigQuiet
import Derived.WideLaws
import Derived.Deep.DeepCutAuto
import Derived.RegionTactic
import Derived.ChangeAlike
import Derived.BigRegion
import Derived.Deep.RegionLaw
import Derived.Test.YtoaneipjcfeinaaWWords
import Derived.Test.YtoaneipjcfeinaaWMore
import Derived.Test.YtoaneipjcfeinaaSep
import Derived.Test.YtoaneipjcfeinaaMap
import Derived.Test.YtoaneipjcfeinaaRd
namespace Go.Proofs.Ytoaneipjcfeinaa
open Go.Sp Go.RowKit Go.Proofs.YtoaneipjcfeinaaW.PrintWords Go.Proofs.YtoaneipjcfeinaaW.PrintLast Go.Proofs.YtoaneipjcfeinaaW.PrintMore
set_option linter.unusedVariables false
set_option linter.unusedSimpArgs false
theorem info9 : (Try.prog.info? 9).map (fun i => (i.zero, i.size, i.bytes)) = some (some (.string ⟨#[]⟩), 1, 16) := by kernel_rfl
theorem info4 : (Try.prog.info? 4).map (fun i => (i.zero, i.size, i.bytes)) = some (some (.bool false), 1, 1) := by kernel_rfl
theorem info3 : (Try.prog.info? 3).map (fun i => (i.zero, i.size, i.bytes)) = some (some (.int .i64 0), 1, 8) := by kernel_rfl
theorem bools_length (xs : List Bool) : (bools xs).length = xs.length := by simp [bools]
theorem bools_set (xs : List Bool) (i : Nat) (b : Bool) : (bools xs).set i (.bool b) = bools (xs.set i b) := by simp [bools, List.map_set]
def setN (H : List Bool) (i : Nat) (n : Int) : Int := if H.getD i false then n else n + 1
theorem bools_get (H : List Bool) (i : Nat) (h : i < H.length) : (bools H)[i]? = some (.bool (H.getD i false)) := by simp [bools, h, List.getD_eq_getElem?_getD]
def hasB (H : List Bool) (i : Int) : Bool := if 0 ≤ i ∧ i < H.length then H.getD i.toNat false else false
def orF {α : Type} (b : Bool) (x y : α) : α := if b then x else y
def setL {α : Type} (L : List α) (z : α) (i : Nat) (v : α) : List α := (L ++ List.replicate (i + 1 - L.length) z).set i v
def setH (H : List Bool) (i : Nat) : List Bool := (H ++ List.replicate (i + 1 - H.length) false).set i true
theorem setL_of {α : Type} (L : List α) (z : α) (i m : Nat) {v : α} (h : i < L.length + m) (hm : m = 0 ∨ L.length + m ≤ i + 1) : (L ++ List.replicate m z).set i v = setL L z i v := by
  unfold setL
  rcases hm with rfl | hm
  · have : i + 1 - L.length = 0 := by omega
    rw [this]
  · have : i + 1 - L.length = m := by omega
    rw [this]
theorem setH_of (L : List Bool) (i m : Nat) (h : i < L.length + m) (hm : m = 0 ∨ L.length + m ≤ i + 1) : (L ++ List.replicate m false).set i true = setH L i := setL_of L false i m h hm
theorem getD_app (H : List Bool) (i m : Nat) : (H ++ List.replicate m false).getD i false = H.getD i false := by
  simp only [List.getD_eq_getElem?_getD, List.getElem?_append]
  split
  · rfl
  · rename_i h
    rw [List.getElem?_eq_none (by omega : H.length ≤ i), List.getElem?_replicate]
    split <;> rfl
/-! ## S -/
def tabS (w0 w : World) (R : HP) (p : Nat) (L : List ByteArray) (H : List Bool) (n : Int) : Prop :=
  L.length = H.length ∧ ∃ lv hv, Sep w0 w (R * row 9 1 lv L.length (L.map Value.string) * row 4 1 hv L.length (bools H) * blk p #[lv, hv, .int .i64 n] 41)
theorem tabS.move {w0 w w1 : World} {R : HP} {p : Nat} {L : List ByteArray} {H : List Bool} {n : Int} (h : tabS w0 w R p L H n) (hb : Below w.heap.size w w1) : tabS w0 w1 R p L H n := by
  obtain ⟨h1, lv, hv, h2⟩ := h
  exact ⟨h1, lv, hv, h2.move hb⟩

set_option maxHeartbeats 1000000 in
theorem setS_in (w0 w : World) (R : HP) (p : Nat) (L : List ByteArray) (H : List Bool) (n : Int) (i : Int) (s : ByteArray) (HT : tabS w0 w R p L H n) (h0 : 0 ≤ i) (h1 : i < 1048576) (hn0 : 0 ≤ n) (hn1 : n < 2000000) :
    Calls Try.prog 18 #[.pointer (some ⟨p, 0, none⟩), .int .i64 i, Value.string s] w fun e w' => e = .returned (.bool true) ∧ tabS w0 w' R p (setL L ⟨#[]⟩ i.toNat s) (setH H i.toNat) (setN H i.toNat n) := by
  obtain ⟨hl, lv, hv, HT⟩ := HT
  have HT := Aside0.mk HT
  have HL := Aside0.mk hl
  clear hl
  go_enter Try.func18, Try.ntmps18
  have hni : ¬ (i < 0) := by omega
  have hni2 : ¬ (1048576 ≤ i) := by omega
  go_wp2
  go_loopg [] (i.toNat + 1 - L.length) (fun kq w' => ∃ L' H' lv' hv', Aside0 (Sep w0 w' (R * row 9 1 lv' L'.length (L'.map Value.string) * row 4 1 hv' L'.length (bools H') * blk p #[lv', hv', .int .i64 n] 41)) ∧ Aside0 (∃ m, L' = L ++ List.replicate m ⟨#[]⟩ ∧ H' = H ++ List.replicate m false ∧ (m = 0 ∨ L.length + m ≤ i.toNat + 1)) ∧ Aside0 (kq = i.toNat + 1 - L'.length))
  case atStart => exact ⟨L, H, lv, hv, ⟨HT.out⟩, ⟨0, by simp, by simp, .inl rfl⟩, ⟨by simp⟩⟩
  case round =>
    clear HT
    obtain ⟨L', H', lv', hv', HT', HM, HK⟩ := hrel
    have hc0 := HT'.out.cell 0
    have hc1 := HT'.out.cell 1
    have hf0 := HT'.out.free 0
    have hf1 := HT'.out.free 1
    have hc2 := HT'.out.cell 2
    have hf2 := HT'.out.free 2
    simp at hc0 hc1 hc2
    obtain ⟨A, c, rfl, -⟩ := HT'.out.t3.row_slice
    obtain ⟨A2, c2, rfl, -⟩ := HT'.out.t2.row_slice
    by_cases hl : (L'.length : Int) ≤ i
    · have hlb := decide_eq_true hl
      go_wp2_with ((with_reducible refine gate_dst (N := 32) rfl ?_); refine held ?_)
      refine unheld ?_
      refine wpList_sep_append rfl (.tmp 29) (.tmp 31) 38 9 (.string ⟨#[]⟩) 1 16 _ rfl Try.underlying38 info9 rfl (by decide) (by decide) (.slice A L'.length c) L'.length (L'.map Value.string) #[(.string ⟨#[]⟩)] rfl rfl rfl rfl rfl HT'.out.t3 (by omega) ?_
      intro A1 c1 w1 ho
      have hd0 := ho.t2.cell 0
      have hd1 := ho.t2.cell 1
      have hg0 := ho.t2.free 0
      simp at hd0 hd1
      have HS1 := Aside0.mk ho
      clear ho
      go_wp2_with ((with_reducible refine gate_dst (N := 41) rfl ?_); refine held ?_)
      refine unheld ?_
      refine wpList_sep_append rfl (.tmp 39) (.tmp 40) 39 4 (.bool false) 1 1 _ rfl Try.underlying39 info4 rfl (by decide) (by decide) (.slice A2 L'.length c2) L'.length (bools H') #[.bool false] rfl rfl (by simp) rfl rfl (HS1.out.t2.set 0 (.slice A1 (L'.length + 1) c1)).t3 (by omega) ?_
      intro A3 c3 w2 ho
      have he0 := ho.t2.cell 0
      have he1 := ho.t2.cell 1
      have hk1 := ho.t2.free 1
      simp at he0 he1
      have HS2 := Aside0.mk ho
      clear ho
      go_wp2
      go_roundg (i.toNat + 1 - (L'.length + 1))
      case measure => have := HK.out; omega
      case rel =>
        have HF := HS2.out.t2.set 1 (.slice A3 (L'.length + 1) c3)
        refine ⟨L' ++ [⟨#[]⟩], H' ++ [false], .slice A1 (L'.length + 1) c1, .slice A3 (L'.length + 1) c3, ⟨?_⟩, ⟨?_⟩, ⟨?_⟩⟩
        · refine Sep.cast HF ?_
          simp [bools]
        · obtain ⟨m, rfl, rfl, hm⟩ := HM.out
          exact ⟨m + 1, by rw [List.replicate_succ', List.append_assoc], by rw [List.replicate_succ', List.append_assoc], .inr (by simp at hl; omega)⟩
        · simp
    · have hlb := decide_eq_false hl
      have hi : i.toNat < L'.length := by omega
      obtain ⟨g1, rfl, -, hcl, hfl⟩ := HT'.out.t3.row_form (by omega)
      obtain ⟨g2, rfl, -, hch, hfh⟩ := HT'.out.t2.row_form (by omega)
      have hx1 := hcl i.toNat (Value.string (L'.getD i.toNat ⟨#[]⟩)) (by simp [hi, List.getD_eq_getElem?_getD])
      have hx2 := hch i.toNat (.bool (H'.getD i.toNat false)) (by
        obtain ⟨m, rfl, rfl, _⟩ := HM.out
        have hlh : i.toNat < (H ++ List.replicate m false).length := by have := HL.out; simp at hi ⊢; omega
        exact bools_get _ _ hlh)
      have hx3 := hfl i.toNat
      have hx4 := hfh i.toNat
      clear hcl hch hfl hfh
      have n1 : g1 ≠ p := HT'.out.t3.t2.row_blk_ne
      have n2 : g2 ≠ p := Sep.row_blk_ne HT'.out
      have n3 : g1 ≠ g2 := HT'.out.t3.t3.row_row_ne
      generalize hb : H'.getD i.toNat false = b at hx2
      have HBb := Aside0.mk hb
      clear hb
      have HC : Aside0 (L'.set i.toNat s = setL L ⟨#[]⟩ i.toNat s ∧ H'.set i.toNat true = setH H i.toNat ∧ H'.getD i.toNat false = H.getD i.toNat false) := by
        obtain ⟨m, rfl, rfl, hm⟩ := HM.out
        have := HL.out
        exact ⟨setL_of _ _ _ _ (by simpa using hi) hm, setH_of _ _ _ (by simp at hi; omega) (by omega), getD_app _ _ _⟩
      cases b
      · go_wp2
        go_region
        go_wp2
        go_ret
        have HF := ((HT'.out.set 2 (.int .i64 (n + 1))).t3.row_set i.toNat (Value.string s)).t3.row_set i.toNat (.bool true)
        refine ⟨rfl, ?_, .slice (some ⟨g1, 0, none⟩) L'.length c, .slice (some ⟨g2, 0, none⟩) L'.length c2, ?_⟩
        · rw [← HC.out.1, ← HC.out.2.1]
          obtain ⟨m, rfl, rfl, hm⟩ := HM.out
          simpa using HL.out
        · unfold setN
          rw [← HC.out.1, ← HC.out.2.1, ← HC.out.2.2, HBb.out]
          refine Sep.cast (w := _) (P := R * blk p (#[.slice (some ⟨g1, 0, none⟩) L'.length c, .slice (some ⟨g2, 0, none⟩) L'.length c2, .int .i64 n].setIfInBounds 2 (.int .i64 (n + 1))) 41 * row 9 1 (.slice (some ⟨g1, 0, none⟩) L'.length c) L'.length ((L'.map Value.string).set i.toNat (Value.string s)) * row 4 1 (.slice (some ⟨g2, 0, none⟩) L'.length c2) L'.length ((bools H').set i.toNat (.bool true))) ?_ ?_
          · first | exact HF | exact HF.drew | exact HF.drewN _
          · rw [bools_set, List.map_set, List.length_set]
            show R * blk p #[_, _, _] 41 * _ * _ = _
            simp only [if_neg (show ¬ (false = true) by decide)]
            ac_rfl
      · go_wp2
        go_region
        go_wp2
        go_ret
        have HF := (HT'.out.t3.row_set i.toNat (Value.string s)).t3.row_set i.toNat (.bool true)
        refine ⟨rfl, ?_, .slice (some ⟨g1, 0, none⟩) L'.length c, .slice (some ⟨g2, 0, none⟩) L'.length c2, ?_⟩
        · rw [← HC.out.1, ← HC.out.2.1]
          obtain ⟨m, rfl, rfl, hm⟩ := HM.out
          simpa using HL.out
        · unfold setN
          rw [← HC.out.1, ← HC.out.2.1, ← HC.out.2.2, HBb.out]
          refine Sep.cast (w := _) (P := R * blk p #[.slice (some ⟨g1, 0, none⟩) L'.length c, .slice (some ⟨g2, 0, none⟩) L'.length c2, .int .i64 n] 41 * row 9 1 (.slice (some ⟨g1, 0, none⟩) L'.length c) L'.length ((L'.map Value.string).set i.toNat (Value.string s)) * row 4 1 (.slice (some ⟨g2, 0, none⟩) L'.length c2) L'.length ((bools H').set i.toNat (.bool true))) ?_ ?_
          · first | exact HF | exact HF.drew | exact HF.drewN _
          · rw [bools_set, List.map_set, List.length_set, if_pos rfl]
            ac_rfl
theorem setS_nil (w : World) (i : Int) (s : ByteArray) : Calls Try.prog 18 #[.pointer none, .int .i64 i, Value.string s] w fun e w' => e = .returned (.bool false) ∧ w = w' := by
  go_enter Try.func18, Try.ntmps18
  go_wp2
  go_ret
  exact ⟨rfl, rfl⟩
theorem setS_out (w : World) (p : Addr) (i : Int) (s : ByteArray) (h : i < 0 ∨ 1048576 ≤ i) : Calls Try.prog 18 #[.pointer (some p), .int .i64 i, Value.string s] w fun e w' => e = .returned (.bool false) ∧ w = w' := by
  by_cases h0 : i < 0
  · clear h
    go_enter Try.func18, Try.ntmps18
    go_wp2
    go_ret
    exact ⟨rfl, rfl⟩
  · have h1 : 1048576 ≤ i := by omega
    clear h
    go_enter Try.func18, Try.ntmps18
    go_wp2
    go_ret
    exact ⟨rfl, rfl⟩
theorem getS_nil (w : World) (i : Int) : Calls Try.prog 17 #[.pointer none, .int .i64 i] w fun e w' => e = .returned (.tuple #[(.string ⟨#[]⟩), .bool false]) ∧ w = w' := by
  go_enter Try.func17, Try.ntmps17
  go_wp2
  go_ret2
  exact ⟨rfl, rfl⟩
theorem getS_in (w0 w : World) (R : HP) (p : Nat) (L : List ByteArray) (H : List Bool) (n : Int) (i : Int) (HT : tabS w0 w R p L H n) (h0 : 0 ≤ i) (h1 : i < L.length) :
    Calls Try.prog 17 #[.pointer (some ⟨p, 0, none⟩), .int .i64 i] w fun e w' => e = .returned (.tuple #[Value.string (L.getD i.toNat ⟨#[]⟩), .bool (H.getD i.toNat false)]) ∧ Drawn0 w w' := by
  obtain ⟨hl, lv, hv, HT⟩ := HT
  obtain ⟨A, c, rfl, -⟩ := HT.t3.row_slice
  obtain ⟨A2, c2, rfl, -⟩ := HT.t2.row_slice
  obtain ⟨g1, rfl, -, hcl, -⟩ := HT.t3.row_form (by omega)
  obtain ⟨g2, rfl, -, hch, -⟩ := HT.t2.row_form (by omega)
  have hc0 := HT.cell 0
  have hc1 := HT.cell 1
  simp at hc0 hc1
  have hx1 := hcl i.toNat (Value.string (L.getD i.toNat ⟨#[]⟩)) (by simp [show i.toNat < L.length by omega, List.getD_eq_getElem?_getD])
  have hx2 := hch i.toNat (.bool (H.getD i.toNat false)) (bools_get _ _ (by omega))
  clear hcl hch HT hl
  generalize L.getD i.toNat ⟨#[]⟩ = x at *
  generalize H.getD i.toNat false = y at *
  go_enter Try.func17, Try.ntmps17
  go_wp2
  go_quiet (fail)
  go_wp2
  go_ret2
  exact ⟨rfl, by repeat (first | exact Drawn0.refl _ | apply Drawn0.step)⟩
theorem getS_out (w0 w : World) (R : HP) (p : Nat) (L : List ByteArray) (H : List Bool) (n : Int) (i : Int) (HT : tabS w0 w R p L H n) (h : i < 0 ∨ (L.length : Int) ≤ i) :
    Calls Try.prog 17 #[.pointer (some ⟨p, 0, none⟩), .int .i64 i] w fun e w' => e = .returned (.tuple #[(.string ⟨#[]⟩), .bool false]) ∧ Drawn0 w w' := by
  obtain ⟨hl, lv, hv, HT⟩ := HT
  obtain ⟨A, c, rfl, -⟩ := HT.t3.row_slice
  have hc0 := HT.cell 0
  simp at hc0
  clear HT hl
  by_cases h0 : i < 0
  · clear h
    go_enter Try.func17, Try.ntmps17
    go_wp2
    go_ret2
    exact ⟨rfl, by repeat (first | exact Drawn0.refl _ | apply Drawn0.step)⟩
  · have h1 : (L.length : Int) ≤ i := by omega
    have h0 : 0 ≤ i := by omega
    clear h
    go_enter Try.func17, Try.ntmps17
    go_wp2
    go_ret2
    exact ⟨rfl, by repeat (first | exact Drawn0.refl _ | apply Drawn0.step)⟩
theorem lenS_nil (w : World) : Calls Try.prog 20 #[.pointer none] w fun e w' => e = .returned (.int .i64 0) ∧ w = w' := by
  go_enter Try.func20, Try.ntmps20
  go_wp2
  go_ret
  exact ⟨rfl, rfl⟩
theorem lenS_some (w0 w : World) (R : HP) (p : Nat) (L : List ByteArray) (H : List Bool) (n : Int) (HT : tabS w0 w R p L H n) : Calls Try.prog 20 #[.pointer (some ⟨p, 0, none⟩)] w fun e w' => e = .returned (.int .i64 n) ∧ w = w' := by
  obtain ⟨hl, lv, hv, HT⟩ := HT
  have hc2 := HT.cell 2
  simp at hc2
  clear HT hl
  go_enter Try.func20, Try.ntmps20
  go_wp2
  go_ret
  exact ⟨rfl, rfl⟩
/-- What a number's value is, and whether there is one. -/
def valS (L : List ByteArray) (i : Int) : ByteArray := if 0 ≤ i ∧ i < L.length then L.getD i.toNat ⟨#[]⟩ else ⟨#[]⟩
theorem getS_any (w0 w : World) (R : HP) (p : Nat) (L : List ByteArray) (H : List Bool) (n : Int) (i : Int) (HT : tabS w0 w R p L H n) :
    Calls Try.prog 17 #[.pointer (some ⟨p, 0, none⟩), .int .i64 i] w fun e w' => e = .returned (.tuple #[Value.string (valS L i), .bool (hasB H i)]) ∧ Drawn0 w w' := by
  have hl := HT.1
  by_cases h : 0 ≤ i ∧ i < L.length
  · have := getS_in w0 w R p L H n i HT h.1 h.2
    unfold valS hasB
    rw [if_pos h, if_pos (by omega)]
    exact this
  · have := getS_out w0 w R p L H n i HT (by omega)
    unfold valS hasB
    rw [if_neg h, if_neg (by omega)]
    exact this
theorem orS_nil (w : World) (i : Int) (s : ByteArray) : Calls Try.prog 19 #[.pointer none, .int .i64 i, Value.string s] w fun e w' => e = .returned (Value.string s) ∧ w = w' := by
  go_enter Try.func19, Try.ntmps19
  go_wp2_with fail
  refine (getS_nil _ _).mono ?_
  rintro e w' ⟨rfl, rfl⟩
  go_wp2
  go_ret
  exact ⟨rfl, rfl⟩
theorem orS_any (w0 w : World) (R : HP) (p : Nat) (L : List ByteArray) (H : List Bool) (n : Int) (i : Int) (s : ByteArray) (HT : tabS w0 w R p L H n) :
    Calls Try.prog 19 #[.pointer (some ⟨p, 0, none⟩), .int .i64 i, Value.string s] w fun e w' => e = .returned (Value.string (orF (hasB H i) (valS L i) s)) ∧ Drawn0 w w' := by
  have HT := Aside0.mk HT
  generalize hb : hasB H i = b
  have Hb := Aside0.mk hb
  clear hb
  cases b
  · go_enter Try.func19, Try.ntmps19
    go_wp2_with fail
    refine (getS_any w0 w R p L H n i HT.out).mono ?_
    rw [Hb.out]
    rintro e w' ⟨rfl, ⟨m, rfl⟩⟩
    go_wp2
    go_ret
    exact ⟨rfl, by repeat (first | exact Drawn0.refl _ | apply Drawn0.step)⟩
  · go_enter Try.func19, Try.ntmps19
    go_wp2_with fail
    refine (getS_any w0 w R p L H n i HT.out).mono ?_
    rw [Hb.out]
    rintro e w' ⟨rfl, ⟨m, rfl⟩⟩
    go_wp2
    go_ret
    exact ⟨rfl, by repeat (first | exact Drawn0.refl _ | apply Drawn0.step)⟩
/-! ## I -/
def tabI (w0 w : World) (R : HP) (p : Nat) (L : List Int) (H : List Bool) (n : Int) : Prop :=
  L.length = H.length ∧ ∃ lv hv, Sep w0 w (R * row 3 1 lv L.length (L.map (Value.int .i64)) * row 4 1 hv L.length (bools H) * blk p #[lv, hv, .int .i64 n] 44)
theorem tabI.move {w0 w w1 : World} {R : HP} {p : Nat} {L : List Int} {H : List Bool} {n : Int} (h : tabI w0 w R p L H n) (hb : Below w.heap.size w w1) : tabI w0 w1 R p L H n := by
  obtain ⟨h1, lv, hv, h2⟩ := h
  exact ⟨h1, lv, hv, h2.move hb⟩

set_option maxHeartbeats 1000000 in
theorem setI_in (w0 w : World) (R : HP) (p : Nat) (L : List Int) (H : List Bool) (n : Int) (i : Int) (s : Int) (HT : tabI w0 w R p L H n) (h0 : 0 ≤ i) (h1 : i < 1048576) (hn0 : 0 ≤ n) (hn1 : n < 2000000) :
    Calls Try.prog 22 #[.pointer (some ⟨p, 0, none⟩), .int .i64 i, (Value.int .i64) s] w fun e w' => e = .returned (.bool true) ∧ tabI w0 w' R p (setL L 0 i.toNat s) (setH H i.toNat) (setN H i.toNat n) := by
  obtain ⟨hl, lv, hv, HT⟩ := HT
  have HT := Aside0.mk HT
  have HL := Aside0.mk hl
  clear hl
  go_enter Try.func22, Try.ntmps22
  have hni : ¬ (i < 0) := by omega
  have hni2 : ¬ (1048576 ≤ i) := by omega
  go_wp2
  go_loopg [] (i.toNat + 1 - L.length) (fun kq w' => ∃ L' H' lv' hv', Aside0 (Sep w0 w' (R * row 3 1 lv' L'.length (L'.map (Value.int .i64)) * row 4 1 hv' L'.length (bools H') * blk p #[lv', hv', .int .i64 n] 44)) ∧ Aside0 (∃ m, L' = L ++ List.replicate m 0 ∧ H' = H ++ List.replicate m false ∧ (m = 0 ∨ L.length + m ≤ i.toNat + 1)) ∧ Aside0 (kq = i.toNat + 1 - L'.length))
  case atStart => exact ⟨L, H, lv, hv, ⟨HT.out⟩, ⟨0, by simp, by simp, .inl rfl⟩, ⟨by simp⟩⟩
  case round =>
    clear HT
    obtain ⟨L', H', lv', hv', HT', HM, HK⟩ := hrel
    have hc0 := HT'.out.cell 0
    have hc1 := HT'.out.cell 1
    have hf0 := HT'.out.free 0
    have hf1 := HT'.out.free 1
    have hc2 := HT'.out.cell 2
    have hf2 := HT'.out.free 2
    simp at hc0 hc1 hc2
    obtain ⟨A, c, rfl, -⟩ := HT'.out.t3.row_slice
    obtain ⟨A2, c2, rfl, -⟩ := HT'.out.t2.row_slice
    by_cases hl : (L'.length : Int) ≤ i
    · have hlb := decide_eq_true hl
      go_wp2_with ((with_reducible refine gate_dst (N := 32) rfl ?_); refine held ?_)
      refine unheld ?_
      refine wpList_sep_append rfl (.tmp 29) (.tmp 31) 42 3 (.int .i64 0) 1 8 _ rfl Try.underlying42 info3 rfl (by decide) (by decide) (.slice A L'.length c) L'.length (L'.map (Value.int .i64)) #[(.int .i64 0)] rfl rfl rfl rfl rfl HT'.out.t3 (by omega) ?_
      intro A1 c1 w1 ho
      have hd0 := ho.t2.cell 0
      have hd1 := ho.t2.cell 1
      have hg0 := ho.t2.free 0
      simp at hd0 hd1
      have HS1 := Aside0.mk ho
      clear ho
      go_wp2_with ((with_reducible refine gate_dst (N := 41) rfl ?_); refine held ?_)
      refine unheld ?_
      refine wpList_sep_append rfl (.tmp 39) (.tmp 40) 39 4 (.bool false) 1 1 _ rfl Try.underlying39 info4 rfl (by decide) (by decide) (.slice A2 L'.length c2) L'.length (bools H') #[.bool false] rfl rfl (by simp) rfl rfl (HS1.out.t2.set 0 (.slice A1 (L'.length + 1) c1)).t3 (by omega) ?_
      intro A3 c3 w2 ho
      have he0 := ho.t2.cell 0
      have he1 := ho.t2.cell 1
      have hk1 := ho.t2.free 1
      simp at he0 he1
      have HS2 := Aside0.mk ho
      clear ho
      go_wp2
      go_roundg (i.toNat + 1 - (L'.length + 1))
      case measure => have := HK.out; omega
      case rel =>
        have HF := HS2.out.t2.set 1 (.slice A3 (L'.length + 1) c3)
        refine ⟨L' ++ [0], H' ++ [false], .slice A1 (L'.length + 1) c1, .slice A3 (L'.length + 1) c3, ⟨?_⟩, ⟨?_⟩, ⟨?_⟩⟩
        · refine Sep.cast HF ?_
          simp [bools]
        · obtain ⟨m, rfl, rfl, hm⟩ := HM.out
          exact ⟨m + 1, by rw [List.replicate_succ', List.append_assoc], by rw [List.replicate_succ', List.append_assoc], .inr (by simp at hl; omega)⟩
        · simp
    · have hlb := decide_eq_false hl
      have hi : i.toNat < L'.length := by omega
      obtain ⟨g1, rfl, -, hcl, hfl⟩ := HT'.out.t3.row_form (by omega)
      obtain ⟨g2, rfl, -, hch, hfh⟩ := HT'.out.t2.row_form (by omega)
      have hx1 := hcl i.toNat ((Value.int .i64) (L'.getD i.toNat 0)) (by simp [hi, List.getD_eq_getElem?_getD])
      have hx2 := hch i.toNat (.bool (H'.getD i.toNat false)) (by
        obtain ⟨m, rfl, rfl, _⟩ := HM.out
        have hlh : i.toNat < (H ++ List.replicate m false).length := by have := HL.out; simp at hi ⊢; omega
        exact bools_get _ _ hlh)
      have hx3 := hfl i.toNat
      have hx4 := hfh i.toNat
      clear hcl hch hfl hfh
      have n1 : g1 ≠ p := HT'.out.t3.t2.row_blk_ne
      have n2 : g2 ≠ p := Sep.row_blk_ne HT'.out
      have n3 : g1 ≠ g2 := HT'.out.t3.t3.row_row_ne
      generalize hb : H'.getD i.toNat false = b at hx2
      have HBb := Aside0.mk hb
      clear hb
      have HC : Aside0 (L'.set i.toNat s = setL L 0 i.toNat s ∧ H'.set i.toNat true = setH H i.toNat ∧ H'.getD i.toNat false = H.getD i.toNat false) := by
        obtain ⟨m, rfl, rfl, hm⟩ := HM.out
        have := HL.out
        exact ⟨setL_of _ _ _ _ (by simpa using hi) hm, setH_of _ _ _ (by simp at hi; omega) (by omega), getD_app _ _ _⟩
      cases b
      · go_wp2
        go_region
        go_wp2
        go_ret
        have HF := ((HT'.out.set 2 (.int .i64 (n + 1))).t3.row_set i.toNat ((Value.int .i64) s)).t3.row_set i.toNat (.bool true)
        refine ⟨rfl, ?_, .slice (some ⟨g1, 0, none⟩) L'.length c, .slice (some ⟨g2, 0, none⟩) L'.length c2, ?_⟩
        · rw [← HC.out.1, ← HC.out.2.1]
          obtain ⟨m, rfl, rfl, hm⟩ := HM.out
          simpa using HL.out
        · unfold setN
          rw [← HC.out.1, ← HC.out.2.1, ← HC.out.2.2, HBb.out]
          refine Sep.cast (w := _) (P := R * blk p (#[.slice (some ⟨g1, 0, none⟩) L'.length c, .slice (some ⟨g2, 0, none⟩) L'.length c2, .int .i64 n].setIfInBounds 2 (.int .i64 (n + 1))) 44 * row 3 1 (.slice (some ⟨g1, 0, none⟩) L'.length c) L'.length ((L'.map (Value.int .i64)).set i.toNat ((Value.int .i64) s)) * row 4 1 (.slice (some ⟨g2, 0, none⟩) L'.length c2) L'.length ((bools H').set i.toNat (.bool true))) ?_ ?_
          · first | exact HF | exact HF.drew | exact HF.drewN _
          · rw [bools_set, List.map_set, List.length_set]
            show R * blk p #[_, _, _] 44 * _ * _ = _
            simp only [if_neg (show ¬ (false = true) by decide)]
            ac_rfl
      · go_wp2
        go_region
        go_wp2
        go_ret
        have HF := (HT'.out.t3.row_set i.toNat ((Value.int .i64) s)).t3.row_set i.toNat (.bool true)
        refine ⟨rfl, ?_, .slice (some ⟨g1, 0, none⟩) L'.length c, .slice (some ⟨g2, 0, none⟩) L'.length c2, ?_⟩
        · rw [← HC.out.1, ← HC.out.2.1]
          obtain ⟨m, rfl, rfl, hm⟩ := HM.out
          simpa using HL.out
        · unfold setN
          rw [← HC.out.1, ← HC.out.2.1, ← HC.out.2.2, HBb.out]
          refine Sep.cast (w := _) (P := R * blk p #[.slice (some ⟨g1, 0, none⟩) L'.length c, .slice (some ⟨g2, 0, none⟩) L'.length c2, .int .i64 n] 44 * row 3 1 (.slice (some ⟨g1, 0, none⟩) L'.length c) L'.length ((L'.map (Value.int .i64)).set i.toNat ((Value.int .i64) s)) * row 4 1 (.slice (some ⟨g2, 0, none⟩) L'.length c2) L'.length ((bools H').set i.toNat (.bool true))) ?_ ?_
          · first | exact HF | exact HF.drew | exact HF.drewN _
          · rw [bools_set, List.map_set, List.length_set, if_pos rfl]
            ac_rfl
theorem setI_nil (w : World) (i : Int) (s : Int) : Calls Try.prog 22 #[.pointer none, .int .i64 i, (Value.int .i64) s] w fun e w' => e = .returned (.bool false) ∧ w = w' := by
  go_enter Try.func22, Try.ntmps22
  go_wp2
  go_ret
  exact ⟨rfl, rfl⟩
theorem setI_out (w : World) (p : Addr) (i : Int) (s : Int) (h : i < 0 ∨ 1048576 ≤ i) : Calls Try.prog 22 #[.pointer (some p), .int .i64 i, (Value.int .i64) s] w fun e w' => e = .returned (.bool false) ∧ w = w' := by
  by_cases h0 : i < 0
  · clear h
    go_enter Try.func22, Try.ntmps22
    go_wp2
    go_ret
    exact ⟨rfl, rfl⟩
  · have h1 : 1048576 ≤ i := by omega
    clear h
    go_enter Try.func22, Try.ntmps22
    go_wp2
    go_ret
    exact ⟨rfl, rfl⟩
theorem getI_nil (w : World) (i : Int) : Calls Try.prog 23 #[.pointer none, .int .i64 i] w fun e w' => e = .returned (.tuple #[(.int .i64 0), .bool false]) ∧ w = w' := by
  go_enter Try.func23, Try.ntmps23
  go_wp2
  go_ret2
  exact ⟨rfl, rfl⟩
theorem getI_in (w0 w : World) (R : HP) (p : Nat) (L : List Int) (H : List Bool) (n : Int) (i : Int) (HT : tabI w0 w R p L H n) (h0 : 0 ≤ i) (h1 : i < L.length) :
    Calls Try.prog 23 #[.pointer (some ⟨p, 0, none⟩), .int .i64 i] w fun e w' => e = .returned (.tuple #[(Value.int .i64) (L.getD i.toNat 0), .bool (H.getD i.toNat false)]) ∧ Drawn0 w w' := by
  obtain ⟨hl, lv, hv, HT⟩ := HT
  obtain ⟨A, c, rfl, -⟩ := HT.t3.row_slice
  obtain ⟨A2, c2, rfl, -⟩ := HT.t2.row_slice
  obtain ⟨g1, rfl, -, hcl, -⟩ := HT.t3.row_form (by omega)
  obtain ⟨g2, rfl, -, hch, -⟩ := HT.t2.row_form (by omega)
  have hc0 := HT.cell 0
  have hc1 := HT.cell 1
  simp at hc0 hc1
  have hx1 := hcl i.toNat ((Value.int .i64) (L.getD i.toNat 0)) (by simp [show i.toNat < L.length by omega, List.getD_eq_getElem?_getD])
  have hx2 := hch i.toNat (.bool (H.getD i.toNat false)) (bools_get _ _ (by omega))
  clear hcl hch HT hl
  generalize L.getD i.toNat 0 = x at *
  generalize H.getD i.toNat false = y at *
  go_enter Try.func23, Try.ntmps23
  go_wp2
  go_quiet (fail)
  go_wp2
  go_ret2
  exact ⟨rfl, by repeat (first | exact Drawn0.refl _ | apply Drawn0.step)⟩
theorem getI_out (w0 w : World) (R : HP) (p : Nat) (L : List Int) (H : List Bool) (n : Int) (i : Int) (HT : tabI w0 w R p L H n) (h : i < 0 ∨ (L.length : Int) ≤ i) :
    Calls Try.prog 23 #[.pointer (some ⟨p, 0, none⟩), .int .i64 i] w fun e w' => e = .returned (.tuple #[(.int .i64 0), .bool false]) ∧ Drawn0 w w' := by
  obtain ⟨hl, lv, hv, HT⟩ := HT
  obtain ⟨A, c, rfl, -⟩ := HT.t3.row_slice
  have hc0 := HT.cell 0
  simp at hc0
  clear HT hl
  by_cases h0 : i < 0
  · clear h
    go_enter Try.func23, Try.ntmps23
    go_wp2
    go_ret2
    exact ⟨rfl, by repeat (first | exact Drawn0.refl _ | apply Drawn0.step)⟩
  · have h1 : (L.length : Int) ≤ i := by omega
    have h0 : 0 ≤ i := by omega
    clear h
    go_enter Try.func23, Try.ntmps23
    go_wp2
    go_ret2
    exact ⟨rfl, by repeat (first | exact Drawn0.refl _ | apply Drawn0.step)⟩
theorem lenI_nil (w : World) : Calls Try.prog 25 #[.pointer none] w fun e w' => e = .returned (.int .i64 0) ∧ w = w' := by
  go_enter Try.func25, Try.ntmps25
  go_wp2
  go_ret
  exact ⟨rfl, rfl⟩
theorem lenI_some (w0 w : World) (R : HP) (p : Nat) (L : List Int) (H : List Bool) (n : Int) (HT : tabI w0 w R p L H n) : Calls Try.prog 25 #[.pointer (some ⟨p, 0, none⟩)] w fun e w' => e = .returned (.int .i64 n) ∧ w = w' := by
  obtain ⟨hl, lv, hv, HT⟩ := HT
  have hc2 := HT.cell 2
  simp at hc2
  clear HT hl
  go_enter Try.func25, Try.ntmps25
  go_wp2
  go_ret
  exact ⟨rfl, rfl⟩
/-- What a number's value is, and whether there is one. -/
def valI (L : List Int) (i : Int) : Int := if 0 ≤ i ∧ i < L.length then L.getD i.toNat 0 else 0
theorem getI_any (w0 w : World) (R : HP) (p : Nat) (L : List Int) (H : List Bool) (n : Int) (i : Int) (HT : tabI w0 w R p L H n) :
    Calls Try.prog 23 #[.pointer (some ⟨p, 0, none⟩), .int .i64 i] w fun e w' => e = .returned (.tuple #[(Value.int .i64) (valI L i), .bool (hasB H i)]) ∧ Drawn0 w w' := by
  have hl := HT.1
  by_cases h : 0 ≤ i ∧ i < L.length
  · have := getI_in w0 w R p L H n i HT h.1 h.2
    unfold valI hasB
    rw [if_pos h, if_pos (by omega)]
    exact this
  · have := getI_out w0 w R p L H n i HT (by omega)
    unfold valI hasB
    rw [if_neg h, if_neg (by omega)]
    exact this
theorem orI_nil (w : World) (i : Int) (s : Int) : Calls Try.prog 26 #[.pointer none, .int .i64 i, (Value.int .i64) s] w fun e w' => e = .returned ((Value.int .i64) s) ∧ w = w' := by
  go_enter Try.func26, Try.ntmps26
  go_wp2_with fail
  refine (getI_nil _ _).mono ?_
  rintro e w' ⟨rfl, rfl⟩
  go_wp2
  go_ret
  exact ⟨rfl, rfl⟩
theorem orI_any (w0 w : World) (R : HP) (p : Nat) (L : List Int) (H : List Bool) (n : Int) (i : Int) (s : Int) (HT : tabI w0 w R p L H n) :
    Calls Try.prog 26 #[.pointer (some ⟨p, 0, none⟩), .int .i64 i, (Value.int .i64) s] w fun e w' => e = .returned ((Value.int .i64) (orF (hasB H i) (valI L i) s)) ∧ Drawn0 w w' := by
  have HT := Aside0.mk HT
  generalize hb : hasB H i = b
  have Hb := Aside0.mk hb
  clear hb
  cases b
  · go_enter Try.func26, Try.ntmps26
    go_wp2_with fail
    refine (getI_any w0 w R p L H n i HT.out).mono ?_
    rw [Hb.out]
    rintro e w' ⟨rfl, ⟨m, rfl⟩⟩
    go_wp2
    go_ret
    exact ⟨rfl, by repeat (first | exact Drawn0.refl _ | apply Drawn0.step)⟩
  · go_enter Try.func26, Try.ntmps26
    go_wp2_with fail
    refine (getI_any w0 w R p L H n i HT.out).mono ?_
    rw [Hb.out]
    rintro e w' ⟨rfl, ⟨m, rfl⟩⟩
    go_wp2
    go_ret
    exact ⟨rfl, by repeat (first | exact Drawn0.refl _ | apply Drawn0.step)⟩
end Go.Proofs.Ytoaneipjcfeinaa
