/- What Group, Firsts and Key of layer 8 do, each walked once. -/
import Derived.Test.YtoaneipjcfeinaaProg
import Derived.Below
import Derived.Deep.Draws
import Derived.OwnWalk
import Derived.Tactics
import Derived.WalkKit
import Derived.KernelRfl
import Derived.RowKit3
import Derived.Deep.LoopGhost
import Derived.Deep.QuietTactic
import Derived.BigQuiet
import Derived.WideLaws
import Derived.Deep.DeepCutAuto
import Derived.RegionTactic
import Derived.ChangeAlike
import Derived.BigRegion
import Derived.Deep.RegionLaw
import Derived.Test.YtoaneipjcfeinaaWWords
import Derived.Test.YtoaneipjcfeinaaWMore
import Derived.Test.YtoaneipjcfeinaaSep
import Derived.Test.YtoaneipjcfeinaaMap
import Derived.Test.YtoaneipjcfeinaaRd
import Derived.Test.YtoaneipjcfeinaaP08Pure
import Derived.Test.YtoaneipjcfeinaaT1
namespace Go.Proofs.Ytoaneipjcfeinaa
open Go.Sp Go.RowKit Go.Proofs.YtoaneipjcfeinaaW.PrintWords Go.Proofs.YtoaneipjcfeinaaW.PrintLast Go.Proofs.YtoaneipjcfeinaaW.PrintMore
set_option linter.unusedVariables false
set_option linter.unusedSimpArgs false
theorem zero3 (w : World) : (zeroValue 3).run Try.prog w = .ok (.int .i64 0) w := by kernel_rfl
theorem C_at {w : World} {A : Option Addr} {l : List ByteArray} (h : Kd.C Kd.string w A l.length l) (i : Nat) (hi : i < l.length) : ∃ ad, A = some ad ∧ w.cell? (ad.add i) = some (.string (l.getD i ⟨#[]⟩)) := by
  obtain ⟨ad, c, e, _, hK, hc0⟩ := Kd.C_get h ⟨#[]⟩ (i : Int) (by omega) (by omega)
  refine ⟨ad, e, ?_⟩
  have hK' : c = [.string (l.getD (i : Int).toNat ⟨#[]⟩)] := hK
  subst hK'
  have := hc0 0 _ rfl
  simpa [Kd.string, Kd.scalar] using this
set_option maxHeartbeats 1000000 in
set_option maxRecDepth 100000 in
theorem firstsS_any (l : List ByteArray) (A : Option Addr) (c : Nat) (w : World) (HC : Kd.C Kd.string w A l.length l) (hc : l.length ≤ c) (hl : l.length ≤ 1048576) :
    Calls Try.prog 56 #[.slice A l.length c] w fun e w' => ∃ A' c', e = .returned (.slice A' (firstsF l).length c') ∧ Sep w w' (row 9 1 (.slice A' (firstsF l).length c') (firstsF l).length ((firstsF l).map Value.string)) := by
  have hmm := @run_makeMap Try.prog
  have HC := Aside0.mk HC
  go_enter Try.func56, Try.ntmps56
  go_wp2
  go_loopg [3, 10] (l.length) (fun kq v3 v10 w' => ∃ (k : Nat) (A' : Option Addr) (m c' : Nat) (E : List (ByteArray × Int × Nat)) (cl : Nat), v3 = .slice A' m c' ∧ v10 = .int .i64 k ∧ Aside0 (k ≤ l.length) ∧ Aside0 (m = (firstsF (l.take k)).length ∧ Counts E cl (l.take k) ∧ Sep w w' (one w.heap.size (mapO Value.string E cl) * row 9 1 (.slice A' m c') m ((firstsF (l.take k)).map Value.string))) ∧ Aside0 (kq = l.length - k))
  case atStart => exact ⟨0, none, 0, 0, [], 0, rfl, rfl, ⟨by omega⟩, ⟨rfl, Counts.nil, ((Sep.start w).alloc _).cast (emp_star _) |>.nil_row 9 1⟩, ⟨by omega⟩⟩
  case round =>
    obtain ⟨k, A', m, c', E, cl, rfl, rfl, Hk, HI, HK⟩ := hrel
    by_cases hlt : (k : Int) < l.length
    · have hlb := decide_eq_true hlt
      obtain ⟨ad, rfl, hx⟩ := C_at HC.out k (by omega)
      have hx := pw_cell_below HI.out.2.2.below hx
      obtain ⟨s, hs⟩ : ∃ s, s = l.getD k ⟨#[]⟩ := ⟨_, rfl⟩
      rw [← hs] at hx
      have Hs := Aside0.mk hs
      clear hs
      have hb := HI.out.2.2.t2'.one_at.1
      have KO := keyOK_string Try.underlying9
      have e1 := run_lookup_E KO Try.underlying121 zero3 hb s
      have e2 := run_mapUpdate_E KO Try.underlying121 hb s (getE s E + 1)
      have hb2 := put_same wr _ (mapO Value.string (updE s (getE s E + 1) E cl) (updC s E cl)) _ hb
      have e3 := run_lookup_E KO Try.underlying121 zero3 hb2 s
      rw [getE_upd] at e3
      have hq := HI.out.2.1.bound s
      have hq3 : (l.take k).length ≤ l.length := by simp; omega
      have Hz := Aside0.mk (HI.out.2.1.zero s)
      generalize hqq : getE s E = q at *
      have hq0 : 0 ≤ q := by omega
      have hq1 : q ≤ 1048576 := by omega
      have Hqq := Aside0.mk hqq
      clear hqq hq hb hb2 hq3 KO
      by_cases hq5 : q = 0
      · subst hq5
        simp only [Int.zero_add] at e2 e3
        go_wp2_with ((with_reducible refine gate_dst (N := 25) rfl ?_); refine held ?_)
        refine unheld ?_
        refine wpList_sep_append rfl (.tmp 22) (.tmp 24) 38 9 (.string ⟨#[]⟩) 1 16 _ rfl Try.underlying38 info9 rfl (by decide) (by decide) (.slice A' m c') m ((firstsF (l.take k)).map Value.string) #[.string s] rfl rfl (by first | rfl | exact (put_size _ _ _).symm | simp [put_size]) rfl rfl (HI.out.2.2.t2'.put _).t2' (by have := HI.out.1; have := firstsF_len (l.take k); have : (l.take k).length ≤ l.length := List.length_take_le' _ _; omega) ?_
        intro A1 c1 w1 ho
        have Ho := Aside0.mk ho
        clear ho e1 e2 e3
        go_wp2
        go_roundg (l.length - (k + 1))
        case measure => have := HK.out; omega
        case rel =>
          obtain ⟨h1, h2, h3⟩ := HI.out
          have hk : l.take (k + 1) = l.take k ++ [s] := by rw [List.take_succ_eq_append_getElem (by omega), Hs.out]; simp [List.getD_eq_getElem?_getD, show k < l.length by omega]
          have hn : s ∉ l.take k := Hz.out.1 trivial
          refine ⟨k + 1, A1, m + 1, c1, updE s 1 E cl, updC s E cl, rfl, by go_num, ⟨by omega⟩, ⟨?_, ?_, ?_⟩, ⟨rfl⟩⟩
          · rw [hk, firstsF_snoc, if_neg hn, h1]; simp
          · rw [hk]; have := h2.upd s; rw [Hqq.out] at this; exact this
          · rw [hk, firstsF_snoc, if_neg hn]
            refine Ho.out.cast ?_
            simp
      · have hb5 : ((q + 1 : Int) == 1) = false := by rw [beq_eq_false_iff_ne]; omega
        go_wp2
        go_roundg (l.length - (k + 1))
        case measure => have := HK.out; omega
        case rel =>
          obtain ⟨h1, h2, h3⟩ := HI.out
          have hk : l.take (k + 1) = l.take k ++ [s] := by rw [List.take_succ_eq_append_getElem (by omega), Hs.out]; simp [List.getD_eq_getElem?_getD, show k < l.length by omega]
          have hn : s ∈ l.take k := Classical.not_not.1 (fun g => hq5 (Hz.out.2 g))
          refine ⟨k + 1, A', m, c', updE s (q + 1) E cl, updC s E cl, rfl, by go_num, ⟨by omega⟩, ⟨?_, ?_, ?_⟩, ⟨rfl⟩⟩
          · rw [hk, firstsF_snoc, if_pos hn, h1]
          · rw [hk]; have := h2.upd s; rw [Hqq.out] at this; exact this
          · rw [hk, firstsF_snoc, if_pos hn]
            exact (h3.t2'.put _).t2'
    · have hlb := decide_eq_false hlt
      go_wp2
      go_ret
      have hk : k = l.length := by have := Hk.out; omega
      subst hk
      obtain ⟨h1, h2, h3⟩ := HI.out
      rw [List.take_length] at h1 h3
      subst h1
      exact ⟨A', c', rfl, h3.drop_l⟩
open PT08
def enc27 (x : S27) : Value := .agg #[.int .i64 x.f0, .int .i64 x.f1]
theorem chk27 (e : Bool) (x : S27) (w : World) : (Instr.checkKey e 10000 27 (enc27 x)).run Try.prog w = .ok () w := by
  kernel_rfl
theorem eq27 (w : World) (x y : S27) : (Op.equal 27 (enc27 x) (enc27 y)).run Try.prog w = .ok (decide (x = y)) w := by
  have := eqA27 9998 w x.f0 y.f0 x.f1 y.f1
  have h : (x.f0 == y.f0 && (x.f1 == y.f1)) = decide (x = y) := by
    rw [Bool.eq_iff_iff]
    cases x; cases y; simp
  rw [← h]
  exact this
theorem ask27 (x : S27) (w : World) : ∀ (E : List (S27 × Int × Nat)) (i : Nat), (Instr.findAsking 27 (enc27 x) (ents enc27 E) i).run Try.prog w = .ok (lookE x E i) w
  | [], i => rfl
  | e :: r, i => by
    show (Instr.findAsking 27 (enc27 x) ({ key := enc27 e.1, val := .int .i64 e.2.1, born := e.2.2 } :: ents enc27 r) i).run Try.prog w = _
    unfold Instr.findAsking lookE
    simp only [Sem.run_bind, eq27, Result.andThen]
    by_cases h : x = e.1
    · simp [h]
    · simp only [h, decide_false, Bool.false_eq_true, if_false]
      exact ask27 x w r (i + 1)
theorem key27 : KeyOK Try.prog 27 enc27 where
  chk := chk27
  find := fun x E w => by
    exact (run_findKey_eq (P := Try.prog) (k := 27) (w := w) (by rw [Try.underlying27]) (enc27 x) (ents enc27 E)).trans (ask27 x w E 0)
  same := fun x => by unfold Instr.sameBits enc27; simp [Instr.sameBits]
  inj := fun x y h => by
    unfold enc27 at h
    cases x; cases y
    simp at h
    simp [h]
theorem key_calls (x : S27) (w : World) : Calls Try.prog 131 #[enc27 x] w fun e w' => e = .returned (.int .i64 x.f0) ∧ Below w.heap.size w w' := by
  unfold enc27
  obtain ⟨a, b⟩ := x
  go_enter Try.func131, Try.ntmps131
  go_wp2
  go_ret
  exact ⟨rfl, (Below.refl _ _).alloc (Nat.le_refl _) _⟩

theorem info27 : (Try.prog.info? 27).map (fun i => (i.zero, i.size, i.bytes)) = some (some (.agg #[(.int .i64 0), (.int .i64 0)]), 2, 16) := by kernel_rfl
theorem info22 : (Try.prog.info? 22).map (fun i => (i.zero, i.size, i.bytes)) = some (some (.slice none 0 0), 1, 24) := by kernel_rfl
def cells27 (x : S27) : List Value := [.int .i64 x.f0, .int .i64 x.f1]
theorem meth27 (a b : Int) (w : World) : (method 289 27 (.agg #[.int .i64 a, .int .i64 b]) "Key").run Try.prog w = .ok (131, Value.agg #[.int .i64 a, .int .i64 b]) w := by kernel_rfl
theorem key_calls' (a b : Int) (w : World) : Calls Try.prog 131 #[.agg #[.int .i64 a, .int .i64 b]] w fun e w' => e = .returned (.int .i64 a) ∧ Below w.heap.size w w' := key_calls ⟨a, b⟩ w
theorem nums_set (k : IntKind) (xs : List Int) (i : Nat) (x : Int) : (nums k xs).set i (.int k x) = nums k (xs.set i x) := by simp [nums, List.map_set]
theorem nums_get (k : IntKind) (xs : List Int) (i : Nat) (h : i < xs.length) : (nums k xs)[i]? = some (.int k (xs.getD i 0)) := by simp [nums, h, List.getD_eq_getElem?_getD]
theorem getD_mem (xs : List Int) (i : Nat) (h : i < xs.length) : xs.getD i 0 ∈ xs := by rw [List.getD_eq_getElem?_getD, List.getElem?_eq_getElem h]; exact List.getElem_mem h
theorem groupP_out (l : List S27) (A : Option Addr) (c : Nat) (n : Int) (w : World) (h : n < 0 ∨ 1048576 < n) :
    Calls Try.prog 12 #[.slice A l.length c, .int .i64 n] w fun e w' => e = .returned (.slice none 0 0) ∧ w = w' := by
  by_cases h0 : n < 0
  · clear h
    go_enter Try.func12, Try.ntmps12
    go_wp2
    go_ret
    exact ⟨rfl, rfl⟩
  · have h1 : 1048576 < n := by omega
    clear h
    go_enter Try.func12, Try.ntmps12
    go_wp2
    go_ret
    exact ⟨rfl, rfl⟩
theorem group_step (a : List S27) (s : S27) (n : Nat) (h0 : 0 ≤ s.f0) (h1 : s.f0 < n) : ((List.range n).map fun (q : Nat) => groupF a q).set s.f0.toNat (groupF a s.f0 ++ [s]) = (List.range n).map fun (q : Nat) => groupF (a ++ [s]) q := by
  apply List.ext_getElem
  · simp
  · intro i g1 g2
    simp only [List.length_set, List.length_map, List.length_range] at g1
    rw [List.getElem_set]
    simp only [List.getElem_map, List.getElem_range]
    unfold groupF
    rw [List.filter_append]
    split
    · rename_i h
      have : s.f0 = (i : Int) := by omega
      simp [this]
    · rename_i h
      have : ¬ s.f0 = (i : Int) := by omega
      simp [this]
theorem group_stays (a : List S27) (s : S27) (n : Nat) (h : ¬ (0 ≤ s.f0 ∧ s.f0 < n)) : ((List.range n).map fun (q : Nat) => groupF a q) = (List.range n).map fun (q : Nat) => groupF (a ++ [s]) q := by
  apply List.map_congr_left
  intro i hi
  rw [List.mem_range] at hi
  unfold groupF
  rw [List.filter_append]
  have : ¬ s.f0 = (i : Int) := by omega
  simp [this]
def GroupRes (l : List S27) (n : Nat) (w : World) (e : Ending) (w' : World) : Prop := ∃ g vs, e = .returned (.slice (some ⟨g, 0, none⟩) n n) ∧ vs.length = n ∧ Sep w w' (row 22 1 (.slice (some ⟨g, 0, none⟩) n n) n vs * rowsL 27 2 cells27 vs ((List.range n).map fun (k : Nat) => groupF l k))
set_option maxHeartbeats 1000000 in
set_option maxRecDepth 100000 in
theorem groupP_in (l : List S27) (A : Option Addr) (c : Nat) (n : Nat) (w : World) (HC : Kd.C k27 w A l.length l) (hc : l.length ≤ c) (hl : l.length ≤ 1048576) (h1 : n ≤ 1048576) :
    Calls Try.prog 12 #[.slice A l.length c, .int .i64 n] w (GroupRes l n w) := by
  have HC := Aside0.mk HC
  have hmeth := meth27
  have hmk1 := run_make_any (Pg := Try.prog) 42 3 (.int .i64 0) 1 8 Try.underlying42 info3 n n (Nat.le_refl _) (by omega) (by omega)
  have hmk2 := run_make_any (Pg := Try.prog) 24 22 (.slice none 0 0) 1 24 Try.underlying24 info22 n n (Nat.le_refl _) (by omega) (by omega)
  go_enter Try.func12, Try.ntmps12
  have hn0 : ¬ ((n : Int) < 0) := by omega
  have hn1 : ¬ (1048576 < (n : Int)) := by omega
  go_wp2
  go_loopg [25] (l.length) (fun kq v25 w' => ∃ (k : Nat) (cs : List Int), v25 = .int .i64 k ∧ Aside0 (k ≤ l.length) ∧ Aside0 (cs.length = n ∧ (∀ x ∈ cs, 0 ≤ x ∧ x ≤ (k : Int)) ∧ Sep w w' (emp * row 3 1 (.slice (some ⟨w.heap.size, 0, none⟩) n n) n (nums .i64 cs))) ∧ Aside0 (kq = l.length - k))
  case atStart => exact ⟨0, List.replicate n 0, rfl, ⟨by omega⟩, ⟨by simp, fun x hx => by simp [List.eq_of_mem_replicate hx], by simpa [nums] using (Sep.start w).made_one 3 (.int .i64 0) n (by simp only [maxLen]; omega)⟩, ⟨by omega⟩⟩
  case round =>
    obtain ⟨k, cs, rfl, Hk, HI, HK⟩ := hrel
    by_cases hlt : (k : Int) < l.length
    · have hlb := decide_eq_true hlt
      have hkk : k < l.length := by omega
      obtain ⟨ad, rfl, hx0, hx1⟩ := at_T27 HC.out (k : Int) (by omega) (by omega)
      rw [rd27 l k hkk, Int.toNat_natCast] at hx0 hx1
      have hx0 := pw_cell_below HI.out.2.2.below hx0
      have hx1 := pw_cell_below HI.out.2.2.below hx1
      obtain ⟨s, hs⟩ : ∃ s, s = l[k] := ⟨_, rfl⟩
      rw [← hs] at hx0 hx1
      have Hs := Aside0.mk hs
      clear hs
      go_wp2_with fail
      refine (key_calls' _ _ _).mono ?_
      rintro e w1 ⟨rfl, hb⟩
      have HS1 := (HI.out.2.2.alloc' (Obj.cells #[Value.int IntKind.i64 s.f0, Value.int IntKind.i64 s.f1] 27)).move hb
      replace HS1 := Aside0.mk HS1
      clear hb
      by_cases hin : 0 ≤ s.f0 ∧ s.f0 < n
      · obtain ⟨hin0, hin1⟩ := hin
        have hd0 := decide_eq_true hin0
        have hd1 := decide_eq_true hin1
        have hlen := HI.out.1
        have hx := HS1.out.row_cell s.f0.toNat _ (nums_get .i64 cs s.f0.toNat (by omega))
        have hfx := HS1.out.row_free s.f0.toNat
        have hv := HI.out.2.1 (cs.getD s.f0.toNat 0) (getD_mem _ _ (by omega))
        generalize cs.getD s.f0.toNat 0 = x at hx hv
        obtain ⟨hv0, hv1⟩ := hv
        have Hlen := Aside0.mk hlen
        clear hlen
        go_wp2
        go_roundg (l.length - (k + 1))
        case measure => have := HK.out; omega
        case rel =>
          refine ⟨k + 1, cs.set s.f0.toNat (x + 1), by go_num, ⟨by omega⟩, ⟨by rw [List.length_set]; exact Hlen.out, fun y hy => ?_, ?_⟩, ⟨rfl⟩⟩
          · rcases List.mem_or_eq_of_mem_set hy with hy | rfl
            · have := HI.out.2.1 y hy; omega
            · omega
          · rw [← nums_set]
            exact HS1.out.row_set _ _
      · have hd : (decide (0 ≤ s.f0) && decide (s.f0 < n)) = false := by
          rw [Bool.and_eq_false_iff, decide_eq_false_iff_not, decide_eq_false_iff_not]; omega
        by_cases hd0 : 0 ≤ s.f0
        · have hdb := decide_eq_true hd0
          have hdc : decide (s.f0 < n) = false := decide_eq_false (by omega)
          clear hin hd hd0
          go_wp2
          go_roundg (l.length - (k + 1))
          case measure => have := HK.out; omega
          case rel => exact ⟨k + 1, cs, by go_num, ⟨by omega⟩, ⟨HI.out.1, fun y hy => by have := HI.out.2.1 y hy; omega, HS1.out⟩, ⟨rfl⟩⟩
        · have hdb := decide_eq_false hd0
          clear hin hd hd0
          go_wp2
          go_roundg (l.length - (k + 1))
          case measure => have := HK.out; omega
          case rel => exact ⟨k + 1, cs, by go_num, ⟨by omega⟩, ⟨HI.out.1, fun y hy => by have := HI.out.2.1 y hy; omega, HS1.out⟩, ⟨rfl⟩⟩
    · have hlb := decide_eq_false hlt
      go_wp2
      have HS0 := HI.out.2.2.made_one 22 (.slice none 0 0) n (by simp only [maxLen]; omega)
      have hcl := HI.out.1
      have hcb : ∀ x ∈ cs, 0 ≤ x ∧ x ≤ 1048576 := fun x hx => by have := HI.out.2.1 x hx; have := Hk.out; omega
      generalize wr.alloc (Obj.cells (madeCells #[Value.slice none 0 0] n) 22) = W1 at *
      generalize wr.heap.size = g1 at *
      generalize hg0 : w.heap.size = g0 at *
      have HS0 : Aside0 (Sep w W1 (emp * row 3 1 (.slice (some ⟨g0, 0, none⟩) n n) n (nums .i64 cs) * row 22 1 (.slice (some ⟨g1, 0, none⟩) n n) n (List.replicate n (.slice none 0 0)) * rowsL 27 2 cells27 (List.replicate n (.slice none 0 0)) (List.replicate n []))) := ⟨by rw [rowsL_nil, star_emp]; exact HS0⟩
      have Hcl := Aside0.mk hcl
      have Hcb := Aside0.mk hcb
      clear hcl hcb HI Hk HK hlb hlt hg0
      go_loopg [50] n (fun kq v50 w' => ∃ (j : Nat) (vs : List Value), v50 = .int .i64 j ∧ Aside0 (j ≤ n) ∧ Aside0 (vs.length = n ∧ Sep w w' (emp * row 3 1 (.slice (some ⟨g0, 0, none⟩) n n) n (nums .i64 cs) * row 22 1 (.slice (some ⟨g1, 0, none⟩) n n) n vs * rowsL 27 2 cells27 vs (List.replicate n []))) ∧ Aside0 (kq = n - j))
      case atStart => exact ⟨0, List.replicate n (.slice none 0 0), rfl, ⟨by omega⟩, ⟨by simp, HS0.out⟩, ⟨by omega⟩⟩
      case round =>
        clear HS0
        obtain ⟨j, vs, rfl, Hj, HI, HK⟩ := hrel
        by_cases hlt : (j : Int) < n
        · have hlb := decide_eq_true hlt
          have hx := HI.out.2.t3.row_cell j _ (nums_get .i64 cs j (by have := Hcl.out; omega))
          have hq := Hcb.out (cs.getD j 0) (getD_mem _ _ (by have := Hcl.out; omega))
          generalize cs.getD j 0 = q at hx hq
          obtain ⟨hq0, hq1⟩ := hq
          have hfo := HI.out.2.t2.row_free j
          have hco := HI.out.2.t2.row_cell j (vs.getD j (.slice none 0 0)) (by simp [List.getD_eq_getElem?_getD, show j < vs.length by have := HI.out.1; omega])
          by_cases hq : 0 < q
          · have hqb := decide_eq_true hq
            obtain ⟨m, rfl⟩ := Int.eq_ofNat_of_zero_le hq0
            have hg1 : g1 < wr.heap.size := World.block_lt_of_cell? _ _ hco
            have hmk3 : ∀ W : World, (Instr.makeSlice 22 (.int .i64 0) (.int .i64 (m : Int))).run Try.prog W = .ok (.slice (some ⟨W.heap.size, 0, none⟩) 0 m) (W.alloc (.cells (madeCells #[.int .i64 0, .int .i64 0] (m * 2)) 27)) := run_make_any (Pg := Try.prog) 22 27 (.agg #[(.int .i64 0), (.int .i64 0)]) 2 16 Try.underlying22 info27 0 m (by omega) (by omega) (by omega)
            go_wp2
            go_roundg (n - (j + 1))
            case measure => have := HK.out; omega
            case rel =>
              obtain ⟨h1, h2⟩ := HI.out
              obtain ⟨R, hR1, hR2⟩ := rowsL_at 27 2 cells27 vs (List.replicate n []) j (by omega) (by simp [h1])
              refine ⟨j + 1, vs.set j (.slice (some ⟨wr.heap.size, 0, none⟩) 0 m), by go_num, ⟨by omega⟩, ⟨by simp [h1], ?_⟩, ⟨rfl⟩⟩
              have h3 : rowsL 27 2 cells27 (vs.set j (.slice (some ⟨wr.heap.size, 0, none⟩) 0 m)) ((List.replicate n ([] : List S27)).set j []) = R * row 27 2 (.slice (some ⟨wr.heap.size, 0, none⟩) 0 m) 0 [] := hR2 (.slice (some ⟨wr.heap.size, 0, none⟩) 0 m) []
              rw [show (List.replicate n ([] : List S27)).set j [] = List.replicate n [] by simp] at h3
              rw [h3]
              rw [hR1] at h2
              have h4 := (h2.cast (star_assoc _ _ _).symm).drop.t2.row_set j (.slice (some ⟨wr.heap.size, 0, none⟩) 0 m)
              have h5 := h4.made_cap 27 (madeCells #[.int .i64 0, .int .i64 0] (m * 2)) 2 m (by simp only [maxLen]; omega) (by simp [size_madeCells])
              simp only [World.size_setCell] at h5
              refine Sep.cast h5 ?_
              ac_rfl
          · have hqb := decide_eq_false hq
            go_wp2
            go_roundg (n - (j + 1))
            case measure => have := HK.out; omega
            case rel => exact ⟨j + 1, vs, by go_num, ⟨by omega⟩, HI, ⟨rfl⟩⟩
        · have hlb := decide_eq_false hlt
          go_wp2
          have HI2 := Aside0.mk (And.intro HI.out.1 (HI.out.2.drop_l.imp (fun _ h => h) |> fun _ => HI.out.2.cast (show _ = emp * row 22 1 (.slice (some ⟨g1, 0, none⟩) n n) n vs * rowsL 27 2 cells27 vs (List.replicate n []) * row 3 1 (.slice (some ⟨g0, 0, none⟩) n n) n (nums .i64 cs) by ac_rfl) |>.drop))
          clear HI Hcl Hcb Hj HK hlb hlt
          generalize wr = W2 at *
          go_loopg [65] l.length (fun kq v65 w' => ∃ (k : Nat) (vs : List Value), v65 = .int .i64 k ∧ Aside0 (k ≤ l.length) ∧ Aside0 (vs.length = n ∧ Sep w w' (emp * row 22 1 (.slice (some ⟨g1, 0, none⟩) n n) n vs * rowsL 27 2 cells27 vs ((List.range n).map fun (q : Nat) => groupF (l.take k) q))) ∧ Aside0 (kq = l.length - k))
          case atStart => exact ⟨0, vs, rfl, ⟨by omega⟩, ⟨HI2.out.1, by have h := HI2.out.2; rw [show ((List.range n).map fun (q : Nat) => groupF (l.take 0) q) = List.replicate n [] by simp [groupF, List.map_const']]; exact h⟩, ⟨by omega⟩⟩
          case round =>
            clear HI2
            obtain ⟨k, vs, rfl, Hk, HI, HK⟩ := hrel
            by_cases hlt : (k : Int) < l.length
            · have hlb := decide_eq_true hlt
              have hkk : k < l.length := by omega
              obtain ⟨ad, rfl, hx0, hx1⟩ := at_T27 HC.out (k : Int) (by omega) (by omega)
              rw [rd27 l k hkk, Int.toNat_natCast] at hx0 hx1
              replace hx0 := pw_cell_below HI.out.2.below hx0
              replace hx1 := pw_cell_below HI.out.2.below hx1
              obtain ⟨s, hs⟩ : ∃ s, s = l[k] := ⟨_, rfl⟩
              rw [← hs] at hx0 hx1
              have hk : l.take (k + 1) = l.take k ++ [s] := by rw [List.take_succ_eq_append_getElem (by omega), hs]
              have Hs := Aside0.mk hk
              clear hs hk
              go_wp2_with fail
              refine (key_calls' _ _ _).mono ?_
              rintro e w1 ⟨rfl, hb⟩
              have HS1 := (HI.out.2.alloc_blk #[Value.int IntKind.i64 s.f0, Value.int IntKind.i64 s.f1] 27).move hb
              have hc0 := HS1.cell 0
              have hc1 := HS1.cell 1
              simp at hc0 hc1
              replace HS1 := Aside0.mk HS1
              clear hb
              by_cases hin0 : 0 ≤ s.f0
              · have hd0 := decide_eq_true hin0
                by_cases hin1 : s.f0 < n
                · have hd1 := decide_eq_true hin1
                  have hi : s.f0.toNat < vs.length := by have := HI.out.1; omega
                  obtain ⟨R, hR1, hR2⟩ := rowsL_at 27 2 cells27 vs ((List.range n).map fun (q : Nat) => groupF (l.take k) q) s.f0.toNat hi (by simp [HI.out.1])
                  have hxi : ((List.range n).map fun (q : Nat) => groupF (l.take k) q)[s.f0.toNat]'(by simp; omega) = groupF (l.take k) s.f0 := by
                    simp only [List.getElem_map, List.getElem_range]
                    rw [Int.toNat_of_nonneg hin0]
                  rw [hxi] at hR1
                  obtain ⟨v, hv⟩ : ∃ v, v = vs[s.f0.toNat] := ⟨_, rfl⟩
                  rw [← hv] at hR1
                  have HS2 := HS1.out
                  rw [hR1] at HS2
                  have HS3 := HS2.cast (show _ = emp * row 22 1 (.slice (some ⟨g1, 0, none⟩) n n) n vs * blk wr.heap.size #[.int .i64 s.f0, .int .i64 s.f1] 27 * R * row 27 2 v (groupF (l.take k) s.f0).length ((groupF (l.take k) s.f0).flatMap cells27) by ac_rfl)
                  have hco := HS3.t4.row_cell s.f0.toNat v (by simp [hi, hv])
                  have hfo := HS3.t4.row_free s.f0.toNat
                  have hg1 : g1 < w1.heap.size := World.block_lt_of_cell? _ _ hco
                  have hg2 : wr.heap.size < w1.heap.size := World.block_lt_of_cell? _ _ hc0
                  obtain ⟨Av, cv, hvv, -⟩ := HS3.row_slice
                  obtain ⟨m, hm⟩ : ∃ m, m = (groupF (l.take k) s.f0).length := ⟨_, rfl⟩
                  obtain ⟨cs', hcs'⟩ : ∃ cs', cs' = (groupF (l.take k) s.f0).flatMap cells27 := ⟨_, rfl⟩
                  have hml : m ≤ 1048576 := by
                    rw [hm]
                    have h1 := List.length_filter_le (fun x : S27 => decide (x.f0 = s.f0)) (l.take k)
                    have h2 := List.length_take_le' k l
                    unfold groupF
                    omega
                  rw [← hm, ← hcs'] at HS3
                  rw [← hm] at hvv
                  subst hvv
                  have Hvi : Aside0 (vs[s.f0.toNat]? = some (.slice Av m cv)) := ⟨by rw [hv]; simp [hi]⟩
                  have HH := Aside0.mk (And.intro hm (And.intro hcs' (And.intro hv hR2)))
                  replace HS3 := Aside0.mk HS3
                  clear hR1 hR2 hxi hv HS2 hm hcs'
                  go_wp2_with fail
                  go_region_law ((refine step_sep_append (w0 := w) (P := emp * row 22 1 (.slice (some ⟨g1, 0, none⟩) n n) n vs * blk wr.heap.size #[.int .i64 s.f0, .int .i64 s.f1] 27 * R) rfl (.tmp 84) (.tmp 86) 22 27 (.agg #[(.int .i64 0), (.int .i64 0)]) 2 16 _ rfl Try.underlying22 info27 rfl (by decide) (by decide) (.slice Av m cv) m cs' [.int .i64 s.f0, .int .i64 s.f1] rfl rfl rfl rfl ?cN ?cS (by omega) ?_; (case cS => first | exact (HS3.out.alloc' _).drew | exact HS3.out.drew.alloc' _ | exact HS3.out.alloc' _); (case cN => intro j u hu; refine (World.cell?_alloc_new _ _ _ j).trans ?_; simpa using hu); intro g' c' w2 ho; have hco2 := ho.t4.row_cell s.f0.toNat (.slice Av m cv) Hvi.out; have hfo2 := ho.t4.row_free s.f0.toNat; replace ho := Aside0.mk ho))
                  all_goals
                    go_wp2
                    go_roundg (l.length - (k + 1))
                    case measure => have := HK.out; omega
                    case rel =>
                      refine ⟨k + 1, vs.set s.f0.toNat (.slice (some ⟨g', 0, none⟩) (m + 1) c'), by go_num, ⟨by omega⟩, ⟨by rw [List.length_set]; exact HI.out.1, ?_⟩, ⟨rfl⟩⟩
                      obtain ⟨e1, e2, -, e4⟩ := HH.out
                      have e5 : rowsL 27 2 cells27 (vs.set s.f0.toNat (.slice (some ⟨g', 0, none⟩) (m + 1) c')) ((List.range n).map fun (q : Nat) => groupF (l.take (k + 1)) q) = R * row 27 2 (.slice (some ⟨g', 0, none⟩) (m + 1) c') (m + 1) (cs' ++ [.int .i64 s.f0, .int .i64 s.f1]) := by
                        have := e4 (.slice (some ⟨g', 0, none⟩) (m + 1) c') (groupF (l.take k) s.f0 ++ [s])
                        rw [group_step _ _ _ hin0 hin1, ← Hs.out] at this
                        rw [this, List.length_append, List.flatMap_append, ← e1, ← e2]
                        rfl
                      rw [e5]
                      have e6 := ho.out.t4.row_set s.f0.toNat (.slice (some ⟨g', 0, none⟩) (m + 1) c')
                      refine Sep.drop (Q := blk wr.heap.size #[.int .i64 s.f0, .int .i64 s.f1] 27) (Sep.cast e6 ?_)
                      ac_rfl
                · have hd1 := decide_eq_false hin1
                  go_wp2
                  go_roundg (l.length - (k + 1))
                  case measure => have := HK.out; omega
                  case rel =>
                    refine ⟨k + 1, vs, by go_num, ⟨by omega⟩, ⟨HI.out.1, HS1.out.drop.cast ?_⟩, ⟨rfl⟩⟩
                    rw [Hs.out, group_stays _ s _ (by omega)]
              · have hd0 := decide_eq_false hin0
                go_wp2
                go_roundg (l.length - (k + 1))
                case measure => have := HK.out; omega
                case rel =>
                  refine ⟨k + 1, vs, by go_num, ⟨by omega⟩, ⟨HI.out.1, HS1.out.drop.cast ?_⟩, ⟨rfl⟩⟩
                  rw [Hs.out, group_stays _ s _ (by omega)]
            · have hlb := decide_eq_false hlt
              go_wp2
              go_ret
              have hk : k = l.length := by have := Hk.out; omega
              subst hk
              refine ⟨g1, vs, rfl, HI.out.1, ?_⟩
              have h := HI.out.2
              rw [List.take_length, emp_star] at h
              exact h
theorem getE_out {α : Type} [DecidableEq α] (x : α) : ∀ E : List (α × Int × Nat), memE x E = false → getE x E = 0
  | [], _ => rfl
  | e :: r, h => by
    unfold memE at h
    unfold getE
    split at h
    · cases h
    · rename_i h2
      rw [if_neg h2]
      exact getE_out x r h
theorem setE_app {α : Type} [DecidableEq α] (x : α) (v u : Int) (b : Nat) : ∀ E : List (α × Int × Nat), memE x E = false → setE x v (E ++ [(x, u, b)]) = E ++ [(x, v, b)]
  | [], _ => by simp [setE]
  | e :: r, h => by
    unfold memE at h
    split at h
    · cases h
    · rename_i h2
      show setE x v (e :: (r ++ _)) = _
      unfold setE
      rw [if_neg h2, setE_app x v u b r h]
      rfl
theorem bornE_app {α : Type} [DecidableEq α] (x : α) (u : Int) (b : Nat) : ∀ E : List (α × Int × Nat), memE x E = false → bornE x (E ++ [(x, u, b)]) = b
  | [], _ => by simp [bornE]
  | e :: r, h => by
    unfold memE at h
    split at h
    · cases h
    · rename_i h2
      show bornE x (e :: (r ++ _)) = _
      unfold bornE
      rw [if_neg h2, bornE_app x u b r h]
/-- 'm[k] op= ..' by the entry: what each of its three steps comes to. -/
theorem entry_steps {α : Type} [DecidableEq α] {P : Program} {kt mt et : TypeId} {enc : α → Value} (K : KeyOK P kt enc) (hm : P.underlying mt = some (.map kt et)) (hz : ∀ w, (zeroValue et).run P w = .ok (.int .i64 0) w) {W : World} {r : Nat} {E : List (α × Int × Nat)} {c : Nat} {l : List α} (hb : W.heap[r]? = some (mapO enc E c)) (hc : Counts E c l) (x : α) (v : Int) :
    ∃ E2 c2 b, (Instr.mapEntry mt (.map (some r)) (enc x)).run P W = .ok (.tuple #[.int .i64 (getE x E), .int .i64 b]) (World.put W r (mapO enc E2 c2)) ∧
      (Instr.lookup mt (.map (some r)) (enc x) false).run P (World.put W r (mapO enc E2 c2)) = .ok (.int .i64 (getE x E)) (World.put W r (mapO enc E2 c2)) ∧
      (Instr.entryStore mt (.map (some r)) (.int .i64 b) (.int .i64 v)).run P (World.put W r (mapO enc E2 c2)) = .ok () (World.put W r (mapO enc (updE x v E c) (updC x E c))) := by
  by_cases hx : memE x E = true
  · refine ⟨E, c, bornE x E, run_mapEntry_in K hm hb x hx, run_lookup_E K hm hz (put_same _ _ _ _ hb) x, ?_⟩
    have := run_entryStore_E (P := P) (mt := mt) x (put_same W r (mapO enc E c) _ hb) v hx hc.nod
    rw [put_put] at this
    unfold updE updC
    rw [if_pos hx, if_pos hx]
    exact this
  · simp only [Bool.not_eq_true] at hx
    have h1 := run_mapEntry_out K hm hz hb x hx
    have h2 := put_same W r (mapO enc (E ++ [(x, 0, c)]) (c + 1)) _ hb
    refine ⟨E ++ [(x, 0, c)], c + 1, c, by rw [getE_out x E hx]; exact h1, ?_, ?_⟩
    · have := run_lookup_E K hm hz h2 x
      rw [getE_app _ _ _ _ _ hx, if_pos rfl] at this
      rw [getE_out x E hx]
      exact this
    · have h3 : memE x (E ++ [(x, 0, c)]) = true := by rw [memE_app]; simp
      have h4 : ((E ++ [(x, (0 : Int), c)]).map fun e => e.2.2).Nodup := by
        rw [List.map_append, List.nodup_append]
        refine ⟨hc.nod, by simp, fun a ha b hb => ?_⟩
        obtain ⟨e, g1, rfl⟩ := List.mem_map.1 ha
        simp at hb
        subst hb
        have := hc.lt e g1
        omega
      have := run_entryStore_E (P := P) (mt := mt) x h2 v h3 h4
      rw [put_put, bornE_app _ _ _ _ hx, setE_app _ _ _ _ _ hx] at this
      unfold updE updC
      rw [if_neg (by simp [hx]), if_neg (by simp [hx])]
      exact this
set_option maxHeartbeats 1000000 in
set_option maxRecDepth 100000 in
theorem firstsP_any (l : List S27) (A : Option Addr) (c : Nat) (w : World) (HC : Kd.C k27 w A l.length l) (hc : l.length ≤ c) (hl : l.length ≤ 1048576) :
    Calls Try.prog 14 #[.slice A l.length c] w fun e w' => ∃ A' c', e = .returned (.slice A' (firstsF l).length c') ∧ Sep w w' (row 27 2 (.slice A' (firstsF l).length c') (firstsF l).length (((firstsF l).flatMap cells27))) := by
  have hmm := @run_makeMap Try.prog
  have HC := Aside0.mk HC
  go_enter Try.func14, Try.ntmps14
  go_wp2
  go_loopg [3, 10] (l.length) (fun kq v3 v10 w' => ∃ (k : Nat) (A' : Option Addr) (m c' : Nat) (E : List (S27 × Int × Nat)) (cl : Nat), v3 = .slice A' m c' ∧ v10 = .int .i64 k ∧ Aside0 (k ≤ l.length) ∧ Aside0 (m = (firstsF (l.take k)).length ∧ Counts E cl (l.take k) ∧ Sep w w' (one w.heap.size (mapO enc27 E cl) * row 27 2 (.slice A' m c') m (((firstsF (l.take k)).flatMap cells27)))) ∧ Aside0 (kq = l.length - k))
  case atStart => exact ⟨0, none, 0, 0, [], 0, rfl, rfl, ⟨by omega⟩, ⟨rfl, Counts.nil, ((Sep.start w).alloc _).cast (emp_star _) |>.nil_row 27 2⟩, ⟨by omega⟩⟩
  case round =>
    obtain ⟨k, A', m, c', E, cl, rfl, rfl, Hk, HI, HK⟩ := hrel
    by_cases hlt : (k : Int) < l.length
    · have hlb := decide_eq_true hlt
      have hkk : k < l.length := by omega
      obtain ⟨ad, rfl, hx0, hx1⟩ := at_T27 HC.out (k : Int) (by omega) (by omega)
      rw [rd27 l k hkk, Int.toNat_natCast] at hx0 hx1
      have hx0 := pw_cell_below HI.out.2.2.below hx0
      have hx1 := pw_cell_below HI.out.2.2.below hx1
      obtain ⟨s, hs⟩ : ∃ s, s = l[k] := ⟨_, rfl⟩
      rw [← hs] at hx0 hx1
      have Hs := Aside0.mk hs
      clear hs
      go_wp2_with fail
      have HS1 := HI.out.2.2.alloc_blk #[.int .i64 s.f0, .int .i64 s.f1] 27
      generalize hW1 : wr.alloc (Obj.cells #[Value.int IntKind.i64 s.f0, Value.int IntKind.i64 s.f1] 27) = W1 at *
      clear hW1
      have hb := HS1.t3'.one_at.1
      have hne : w.heap.size ≠ wr.heap.size := HS1.t3'.t2.ne_one
      have hc0 := HS1.cell 0
      have hc1 := HS1.cell 1
      simp at hc0 hc1
      have hq := HI.out.2.1.bound s
      have hq3 : (l.take k).length ≤ l.length := by simp; omega
      have Hz := Aside0.mk (HI.out.2.1.zero s)
      have hbd : W1.drew.heap[w.heap.size]? = some (mapO enc27 E cl) := hb
      have e1 := run_lookup_E key27 Try.underlying90 zero3 hbd s
      have hq0 : 0 ≤ getE s E := by omega
      have hq1 : getE s E ≤ 1048576 := by omega
      have Hst : Aside0 (∃ E2 c2 b, (Instr.mapEntry 90 (.map (some w.heap.size)) (enc27 s)).run Try.prog W1.drew = .ok (.tuple #[.int .i64 (getE s E), .int .i64 b]) (World.put W1.drew w.heap.size (mapO enc27 E2 c2)) ∧
          (Instr.lookup 90 (.map (some w.heap.size)) (enc27 s) false).run Try.prog (World.put W1.drew w.heap.size (mapO enc27 E2 c2)) = .ok (.int .i64 (getE s E)) (World.put W1.drew w.heap.size (mapO enc27 E2 c2)) ∧
          (Instr.entryStore 90 (.map (some w.heap.size)) (.int .i64 b) (.int .i64 (getE s E + 1))).run Try.prog (World.put W1.drew w.heap.size (mapO enc27 E2 c2)) = .ok () (World.put W1.drew w.heap.size (mapO enc27 (updE s (getE s E + 1) E cl) (updC s E cl)))) := ⟨entry_steps key27 Try.underlying90 zero3 hbd HI.out.2.1 s (getE s E + 1)⟩
      have hbd2 := put_same W1.drew _ (mapO enc27 (updE s (getE s E + 1) E cl) (updC s E cl)) _ hbd
      have e5 := run_lookup_E key27 Try.underlying90 zero3 hbd2 s
      rw [getE_upd] at e5
      have hd0 := (put_cell W1.drew w.heap.size (mapO enc27 (updE s (getE s E + 1) E cl) (updC s E cl)) ⟨wr.heap.size, 0, none⟩ (Ne.symm hne)).trans hc0
      have hd1 := (put_cell W1.drew w.heap.size (mapO enc27 (updE s (getE s E + 1) E cl) (updC s E cl)) ⟨wr.heap.size, 1, none⟩ (Ne.symm hne)).trans hc1
      obtain ⟨E2, c2, b, e2, e3, e4⟩ := Hst.out
      generalize hqq : getE s E = q at *
      have Hqq := Aside0.mk hqq
      clear hqq hq hq3 hb hbd hbd2 Hst
      have hkv : enc27 s = .agg #[.int .i64 s.f0, .int .i64 s.f1] := rfl
      rw [hkv] at e1 e2 e3 e5
      have hw : IntKind.i64.wrap (q + 1) = q + 1 := IntWalk.i64_in _ (by omega)
      clear hkv
      have HS2 := HS1.t3'.drew.put (mapO enc27 (updE s (q + 1) E cl) (updC s E cl))
      generalize hW2 : World.put W1.drew w.heap.size (mapO enc27 (updE s (q + 1) E cl) (updC s E cl)) = W2 at *
      clear hW2
      have HS2 := Aside0.mk HS2
      go_region
      clear e1 e2 e3 e4 hw
      by_cases hq5 : q = 0
      · subst hq5
        simp only [Int.zero_add] at e5
        simp only [Int.zero_add]
        go_wp2_with ((with_reducible refine gate_dst (N := 27) rfl ?_); refine held ?_)
        refine unheld ?_
        refine wpList_sep_append rfl (.tmp 24) (.tmp 26) 22 27 (.agg #[(.int .i64 0), (.int .i64 0)]) 2 16 _ rfl Try.underlying22 info27 rfl (by decide) (by decide) (.slice A' m c') m (((firstsF (l.take k)).flatMap cells27)) #[.int .i64 s.f0, .int .i64 s.f1] rfl rfl rfl rfl rfl HS2.out.t3' (by have := HI.out.1; have := firstsF_len (l.take k); have : (l.take k).length ≤ l.length := List.length_take_le' _ _; omega) ?_
        intro A1 c1 w1 ho
        have Ho := Aside0.mk ho
        clear ho e5
        go_wp2
        go_roundg (l.length - (k + 1))
        case measure => have := HK.out; omega
        case rel =>
          obtain ⟨h1, h2, h3⟩ := HI.out
          have hk : l.take (k + 1) = l.take k ++ [s] := by rw [List.take_succ_eq_append_getElem (by omega), Hs.out]
          have hn : s ∉ l.take k := Hz.out.1 trivial
          refine ⟨k + 1, A1, m + 1, c1, updE s 1 E cl, updC s E cl, rfl, by go_num, ⟨by omega⟩, ⟨?_, ?_, ?_⟩, ⟨rfl⟩⟩
          · rw [hk, firstsF_snoc, if_neg hn, h1]; simp
          · rw [hk]; have := h2.upd s; rw [Hqq.out] at this; exact this
          · rw [hk, firstsF_snoc, if_neg hn]
            exact Ho.out.t3'.drop.cast (by simp [cells27])
      · have hb5 : ((q + 1 : Int) == 1) = false := by rw [beq_eq_false_iff_ne]; omega
        go_wp2
        go_roundg (l.length - (k + 1))
        case measure => have := HK.out; omega
        case rel =>
          obtain ⟨h1, h2, h3⟩ := HI.out
          have hk : l.take (k + 1) = l.take k ++ [s] := by rw [List.take_succ_eq_append_getElem (by omega), Hs.out]
          have hn : s ∈ l.take k := Classical.not_not.1 (fun g => hq5 (Hz.out.2 g))
          refine ⟨k + 1, A', m, c', updE s (q + 1) E cl, updC s E cl, rfl, by go_num, ⟨by omega⟩, ⟨?_, ?_, ?_⟩, ⟨rfl⟩⟩
          · rw [hk, firstsF_snoc, if_pos hn, h1]
          · rw [hk]; have := h2.upd s; rw [Hqq.out] at this; exact this
          · rw [hk, firstsF_snoc, if_pos hn]
            exact (HS2.out.t2.drop).t2'
    · have hlb := decide_eq_false hlt
      go_wp2
      go_ret
      have hk : k = l.length := by have := Hk.out; omega
      subst hk
      obtain ⟨h1, h2, h3⟩ := HI.out
      rw [List.take_length] at h1 h3
      subst h1
      exact ⟨A', c', rfl, h3.drop_l⟩
end Go.Proofs.Ytoaneipjcfeinaa
