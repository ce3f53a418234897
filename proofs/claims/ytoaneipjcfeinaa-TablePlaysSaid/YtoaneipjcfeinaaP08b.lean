/- Tables as lists of pairs: plain lemmas. -/
import Derived.Test.YtoaneipjcfeinaaProg
import Derived.Below
import Derived.Deep.Draws
import Derived.OwnWalk
import Derived.Tactics
import Derived.WalkKit
import Derived.KernelRfl
import Derived.RowKit3
import Derived.Deep.LoopGhost
import Derived.Deep.QuietTactic
import Derived.BigQuiet
import Derived.WideLaws
import Derived.Deep.DeepCutAuto
import Derived.RegionTactic
import Derived.ChangeAlike
import Derived.BigRegion
import Derived.Deep.RegionLaw
import Derived.Test.YtoaneipjcfeinaaWWords
import Derived.Test.YtoaneipjcfeinaaWMore
import Derived.Test.YtoaneipjcfeinaaSep
import Derived.Test.YtoaneipjcfeinaaMap
import Derived.Test.YtoaneipjcfeinaaRd
import Derived.Test.YtoaneipjcfeinaaT2
namespace Go.Proofs.Ytoaneipjcfeinaa
open Go.Sp Go.RowKit Go.Proofs.YtoaneipjcfeinaaW.PrintWords Go.Proofs.YtoaneipjcfeinaaW.PrintLast Go.Proofs.YtoaneipjcfeinaaW.PrintMore
set_option linter.unusedVariables false
set_option linter.unusedSimpArgs false
open PT08
/-- What a table has, as pairs, by rising numbers. -/
def tabN (N : Nat) (L : List Int) (H : List Bool) : List S27 := ((List.range N).filter fun k => H.getD k false).map fun (k : Nat) => ⟨(k : Int), L.getD k 0⟩
def tabList (L : List Int) (H : List Bool) : List S27 := tabN H.length L H
theorem tabN_ext (L : List Int) (H : List Bool) (N : Nat) (h : H.length ≤ N) : tabN N L H = tabList L H := by
  unfold tabList tabN
  congr 1
  obtain ⟨d, rfl⟩ := Nat.exists_eq_add_of_le h
  rw [List.range_add, List.filter_append]
  have : (List.map (fun x => H.length + x) (List.range d)).filter (fun k => H.getD k false) = [] := by
    rw [List.filter_eq_nil_iff]
    intro a ha
    obtain ⟨b, _, rfl⟩ := List.mem_map.1 ha
    simp [List.getD_eq_getElem?_getD]
  rw [this, List.append_nil]
/-- One round of the reference's Set. -/
def stepF (i v : Int) (s : List S27 × Bool) (x : S27) : List S27 × Bool :=
  let s1 := if s.2 = false ∧ i ≤ x.f0 then (s.1 ++ [⟨i, v⟩], true) else s
  if x.f0 = i then s1 else (s1.1 ++ [x], s1.2)
def endF (i v : Int) (s : List S27 × Bool) : List S27 := if s.2 then s.1 else s.1 ++ [⟨i, v⟩]
def setF (l : List S27) (i v : Int) : List S27 := endF i v (l.foldl (stepF i v) ([], false))
theorem foldl_put (i v : Int) : ∀ (l : List S27) (o : List S27), l.foldl (stepF i v) (o, true) = (o ++ l.filter fun x => decide (x.f0 ≠ i), true)
  | [], o => by simp
  | x :: t, o => by
    rw [List.foldl_cons]
    unfold stepF
    by_cases h : x.f0 = i
    · simp only [h, if_true, Bool.true_eq_false, false_and, if_false]
      have := foldl_put i v t o
      unfold stepF at this
      rw [this]
      simp [h]
    · simp only [h, if_false, Bool.true_eq_false, false_and]
      have := foldl_put i v t (o ++ [x])
      unfold stepF at this
      rw [this]
      simp [h]
theorem setF_sorted (i v : Int) : ∀ (l : List S27) (o : List S27), l.Pairwise (fun a b => a.f0 < b.f0) → endF i v (l.foldl (stepF i v) (o, false)) = o ++ l.filter (fun x => decide (x.f0 < i)) ++ [⟨i, v⟩] ++ l.filter (fun x => decide (i < x.f0))
  | [], o, _ => by simp [endF]
  | x :: t, o, hs => by
    rw [List.pairwise_cons] at hs
    rw [List.foldl_cons]
    by_cases h : i ≤ x.f0
    · have e1 : (x :: t).filter (fun x => decide (x.f0 < i)) = [] := by
        rw [List.filter_eq_nil_iff]
        intro y hy
        rcases List.mem_cons.1 hy with rfl | hy
        · simp; omega
        · have := hs.1 y hy; simp; omega
      have e2 : t.filter (fun x => decide (x.f0 ≠ i)) = t.filter (fun x => decide (i < x.f0)) := by
        apply List.filter_congr
        intro y hy
        have := hs.1 y hy
        rw [decide_eq_decide]
        omega
      rw [e1]
      by_cases h2 : x.f0 = i
      · have : stepF i v (o, false) x = (o ++ [⟨i, v⟩], true) := by simp [stepF, h, h2]
        rw [this, foldl_put, e2]
        simp [endF, h2]
      · have : stepF i v (o, false) x = (o ++ [⟨i, v⟩] ++ [x], true) := by simp [stepF, h, h2]
        rw [this, foldl_put, e2]
        simp [endF, show i < x.f0 by omega]
    · have h2 : x.f0 ≠ i := by omega
      have : stepF i v (o, false) x = (o ++ [x], false) := by simp [stepF, h, h2]
      rw [this, setF_sorted i v t _ hs.2]
      simp [show x.f0 < i by omega, show ¬ i < x.f0 by omega]
theorem tabN_sorted (N : Nat) (L : List Int) (H : List Bool) : (tabN N L H).Pairwise (fun a b => a.f0 < b.f0) := by
  unfold tabN
  rw [List.pairwise_map]
  refine List.Pairwise.imp ?_ (List.pairwise_lt_range.filter _)
  intro a b h
  exact Int.ofNat_lt.2 h
theorem setH_getD (H : List Bool) (i k : Nat) : (setH H i).getD k false = if k = i then true else H.getD k false := by
  unfold setH
  simp only [List.getD_eq_getElem?_getD, List.getElem?_set]
  by_cases h : k = i
  · subst h
    rw [if_pos rfl, if_pos rfl, if_pos (by simp; omega)]
    rfl
  · rw [if_neg (Ne.symm h), if_neg h, List.getElem?_append]
    split
    · rfl
    · rename_i h2
      rw [List.getElem?_eq_none (by omega : H.length ≤ k), List.getElem?_replicate]
      split <;> rfl
theorem setL_getD (L : List Int) (i k : Nat) (v : Int) : (setL L 0 i v).getD k 0 = if k = i then v else L.getD k 0 := by
  unfold setL
  simp only [List.getD_eq_getElem?_getD, List.getElem?_set]
  by_cases h : k = i
  · subst h
    rw [if_pos rfl, if_pos rfl, if_pos (by simp; omega)]
    rfl
  · rw [if_neg (Ne.symm h), if_neg h, List.getElem?_append]
    split
    · rfl
    · rename_i h2
      rw [List.getElem?_eq_none (by omega : L.length ≤ k), List.getElem?_replicate]
      split <;> rfl
theorem setH_length (H : List Bool) (i : Nat) : (setH H i).length = max H.length (i + 1) := by
  unfold setH; simp; omega
theorem setL_length {α : Type} (L : List α) (z : α) (i : Nat) (v : α) : (setL L z i v).length = max L.length (i + 1) := by
  unfold setL; simp; omega
theorem range_split (N i : Nat) (h : i < N) : List.range N = List.range i ++ i :: (List.range (N - i - 1)).map (fun x => i + 1 + x) := by
  have : N = (i + 1) + (N - i - 1) := by omega
  conv => lhs; rw [this, List.range_add, List.range_succ]
  simp
theorem tab_set (L : List Int) (H : List Bool) (i : Nat) (v : Int) : setF (tabList L H) (i : Int) v = tabList (setL L 0 i v) (setH H i) := by
  have hN1 : H.length ≤ max H.length (i + 1) := by omega
  have hi : i < max H.length (i + 1) := by omega
  rw [← tabN_ext L H _ hN1, ← tabN_ext (setL L 0 i v) (setH H i) (max H.length (i + 1)) (by rw [setH_length]; omega)]
  generalize max H.length (i + 1) = N at *
  unfold setF
  rw [setF_sorted _ _ _ _ (tabN_sorted N L H), List.nil_append]
  unfold tabN
  rw [range_split N i hi]
  have hR : ∀ k ∈ (List.range (N - i - 1)).map (fun x => i + 1 + x), i < k := by
    intro k hk
    obtain ⟨x, _, rfl⟩ := List.mem_map.1 hk
    omega
  generalize (List.range (N - i - 1)).map (fun x => i + 1 + x) = R at *
  have hA : ∀ k ∈ List.range i, k < i := fun k hk => List.mem_range.1 hk
  generalize List.range i = A at *
  have a1 : (A.filter fun k => H.getD k false).filter ((fun x : S27 => decide (x.f0 < (i : Int))) ∘ fun (k : Nat) => (⟨(k : Int), L.getD k 0⟩ : S27)) = A.filter fun k => H.getD k false := by
    rw [List.filter_eq_self]
    intro k hk
    have := hA k (List.mem_filter.1 hk).1
    simp; omega
  have a2 : (R.filter fun k => H.getD k false).filter ((fun x : S27 => decide (x.f0 < (i : Int))) ∘ fun (k : Nat) => (⟨(k : Int), L.getD k 0⟩ : S27)) = [] := by
    rw [List.filter_eq_nil_iff]
    intro k hk
    have := hR k (List.mem_filter.1 hk).1
    simp; omega
  have b1 : (R.filter fun k => H.getD k false).filter ((fun x : S27 => decide ((i : Int) < x.f0)) ∘ fun (k : Nat) => (⟨(k : Int), L.getD k 0⟩ : S27)) = R.filter fun k => H.getD k false := by
    rw [List.filter_eq_self]
    intro k hk
    have := hR k (List.mem_filter.1 hk).1
    simp; omega
  have b2 : (A.filter fun k => H.getD k false).filter ((fun x : S27 => decide ((i : Int) < x.f0)) ∘ fun (k : Nat) => (⟨(k : Int), L.getD k 0⟩ : S27)) = [] := by
    rw [List.filter_eq_nil_iff]
    intro k hk
    have := hA k (List.mem_filter.1 hk).1
    simp; omega
  have c1 : ∀ l : List Nat, (∀ k ∈ l, k ≠ i) → (l.filter fun k => (setH H i).getD k false).map (fun (k : Nat) => (⟨(k : Int), (setL L 0 i v).getD k 0⟩ : S27)) = (l.filter fun k => H.getD k false).map (fun (k : Nat) => (⟨(k : Int), L.getD k 0⟩ : S27)) := by
    intro l hl
    have : (l.filter fun k => (setH H i).getD k false) = l.filter fun k => H.getD k false := by
      apply List.filter_congr
      intro k hk
      rw [setH_getD, if_neg (hl k hk)]
    rw [this]
    apply List.map_congr_left
    intro k hk
    rw [setL_getD, if_neg (hl k (List.mem_filter.1 hk).1)]
  have hs1 := c1 A (fun k hk => Nat.ne_of_lt (hA k hk))
  have hs2 := c1 R (fun k hk => Nat.ne_of_gt (hR k hk))
  have hsi : (setL L 0 i v).getD i 0 = v := by rw [setL_getD, if_pos rfl]
  have hhi : (setH H i).getD i false = true := by rw [setH_getD, if_pos rfl]
  simp only [List.filter_append, List.filter_cons, List.map_append, List.filter_map, a1, b2, hs1, hhi, if_true, List.map_cons, hs2, hsi, List.map_nil, List.append_nil, List.nil_append]
  by_cases hb : H.getD i false = true
  · simp only [hb, if_true, List.filter_cons, a2, b1, Function.comp, Int.lt_irrefl, decide_false, Bool.false_eq_true, if_false, List.map_nil, List.append_nil, List.append_assoc, List.singleton_append]
  · simp only [Bool.not_eq_true] at hb
    simp only [hb, Bool.false_eq_true, if_false, a2, b1, List.map_nil, List.append_nil, List.append_assoc, List.singleton_append]
/-- How many there are, as a number counted on. -/
theorem tab_len (L : List Int) (H : List Bool) (i : Nat) (v : Int) : ((tabList (setL L 0 i v) (setH H i)).length : Int) = setN H i (tabList L H).length := by
  rw [← tab_set, ← tabN_ext L H (max H.length (i + 1)) (by omega)]
  have hi : i < max H.length (i + 1) := by omega
  generalize max H.length (i + 1) = N at *
  unfold setF
  rw [setF_sorted _ _ _ _ (tabN_sorted N L H), List.nil_append]
  have key : ∀ l : List S27, ((l.filter fun x => decide (x.f0 < (i : Int))) ++ [(⟨(i : Int), v⟩ : S27)] ++ (l.filter fun x => decide ((i : Int) < x.f0))).length + (l.filter fun x => decide (x.f0 = (i : Int))).length = l.length + 1 := by
    intro l
    induction l with
    | nil => simp
    | cons a t ih =>
      simp only [List.filter_cons]
      by_cases h1 : a.f0 < (i : Int)
      · have h2 : ¬ (i : Int) < a.f0 := by omega
        have h3 : ¬ a.f0 = (i : Int) := by omega
        simp only [h1, h2, h3, decide_true, decide_false, if_true, Bool.false_eq_true, if_false]
        simp at ih ⊢
        omega
      · by_cases h2 : (i : Int) < a.f0
        · have h3 : ¬ a.f0 = (i : Int) := by omega
          simp only [h1, h2, h3, decide_true, decide_false, if_true, Bool.false_eq_true, if_false]
          simp at ih ⊢
          omega
        · have h3 : a.f0 = (i : Int) := by omega
          simp only [h1, h2, h3, decide_true, decide_false, if_true, Bool.false_eq_true, if_false]
          simp at ih ⊢
          omega
  have hk := key (tabN N L H)
  have he : ((tabN N L H).filter fun x => decide (x.f0 = (i : Int))).length = if H.getD i false then 1 else 0 := by
    unfold tabN
    rw [range_split N i hi, List.filter_map, List.length_map, List.filter_filter, List.filter_append, List.filter_cons]
    have e1 : (List.range i).filter (fun a => ((fun x : S27 => decide (x.f0 = (i : Int))) ∘ fun (k : Nat) => (⟨(k : Int), L.getD k 0⟩ : S27)) a && H.getD a false) = [] := by
      rw [List.filter_eq_nil_iff]
      intro k hk
      have := List.mem_range.1 hk
      simp; omega
    have e2 : ((List.range (N - i - 1)).map (fun x => i + 1 + x)).filter (fun a => ((fun x : S27 => decide (x.f0 = (i : Int))) ∘ fun (k : Nat) => (⟨(k : Int), L.getD k 0⟩ : S27)) a && H.getD a false) = [] := by
      rw [List.filter_eq_nil_iff]
      intro k hk
      obtain ⟨x, _, rfl⟩ := List.mem_map.1 hk
      simp; omega
    rw [e1, e2]
    by_cases hb : H.getD i false = true
    · simp [-List.getD_eq_getElem?_getD, hb]
    · simp [-List.getD_eq_getElem?_getD, hb]
  rw [he] at hk
  unfold setN
  split at hk <;> rename_i hb
  · rw [if_pos hb]; omega
  · rw [if_neg hb]; omega
theorem tab_get (L : List Int) (H : List Bool) (i : Int) (hl : L.length = H.length) (hz : ∀ k, H.getD k false = false → L.getD k 0 = 0) : getF (tabList L H) i = (valI L i, hasB H i) := by
  unfold getF
  by_cases h : ∃ k : Nat, k < H.length ∧ H.getD k false = true ∧ (k : Int) = i
  · obtain ⟨k, h1, h2, rfl⟩ := h
    have hv : valI L (k : Int) = L.getD k 0 := by unfold valI; rw [if_pos (by omega), Int.toNat_natCast]
    have hb : hasB H (k : Int) = true := by unfold hasB; rw [if_pos (by omega), Int.toNat_natCast, h2]
    have hf : (tabList L H).find? (fun x => decide (x.f0 = (k : Int))) = some ⟨(k : Int), L.getD k 0⟩ := by
      unfold tabList tabN
      rw [range_split _ k h1, List.filter_append, List.map_append, List.find?_append]
      have e1 : (List.map (fun (k : Nat) => (⟨(k : Int), L.getD k 0⟩ : S27)) (List.filter (fun k => H.getD k false) (List.range k))).find? (fun x => decide (x.f0 = (k : Int))) = none := by
        rw [List.find?_eq_none]
        intro x hx
        obtain ⟨j, hj, rfl⟩ := List.mem_map.1 hx
        have := List.mem_range.1 (List.mem_filter.1 hj).1
        simp; omega
      rw [e1, List.filter_cons, if_pos h2]
      simp
    rw [hf, hv, hb]
  · have hf : (tabList L H).find? (fun x => decide (x.f0 = i)) = none := by
      rw [List.find?_eq_none]
      intro x hx
      unfold tabList tabN at hx
      obtain ⟨j, hj, rfl⟩ := List.mem_map.1 hx
      have h1 := List.mem_filter.1 hj
      have h2 := List.mem_range.1 h1.1
      simp only [decide_eq_true_eq]
      intro he
      exact h ⟨j, h2, h1.2, he⟩
    rw [hf]
    have hb : hasB H i = false := by
      unfold hasB
      split
      · rename_i h1
        rcases hq : H.getD i.toNat false with _ | _
        · rfl
        · exact absurd ⟨i.toNat, by omega, hq, by omega⟩ h
      · rfl
    have hv : valI L i = 0 := by
      unfold valI
      split
      · rename_i h1
        refine hz _ ?_
        rcases hq : H.getD i.toNat false with _ | _
        · rfl
        · exact absurd ⟨i.toNat, by omega, hq, by omega⟩ h
      · rfl
    rw [hb, hv]
theorem tab_zero (L : List Int) (H : List Bool) (i : Nat) (v : Int) (hz : ∀ k, H.getD k false = false → L.getD k 0 = 0) : ∀ k, (setH H i).getD k false = false → (setL L 0 i v).getD k 0 = 0 := by
  intro k hk
  rw [setH_getD] at hk
  rw [setL_getD]
  split at hk
  · cases hk
  · rename_i h
    rw [if_neg h]
    exact hz k hk
end Go.Proofs.Ytoaneipjcfeinaa
