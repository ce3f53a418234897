/- What the printed functions of the reference of layer 8 tell, in plain lists. -/
import Derived.Test.YtoaneipjcfeinaaPT08x2
import Derived.Test.YtoaneipjcfeinaaMap
namespace Go.Proofs.Ytoaneipjcfeinaa.PT08
open Go.Sp Go.RowKit Go.Proofs.YtoaneipjcfeinaaW.PrintWords Go.Proofs.YtoaneipjcfeinaaW.PrintLast Go.Proofs.YtoaneipjcfeinaaW.PrintMore
instance : DecidableEq S27 := fun a b => decidable_of_iff (a.f0 = b.f0 ∧ a.f1 = b.f1) (by cases a; cases b; simp)
theorem rd27 (l : List S27) (i : Nat) (h : i < l.length) : rd_T27 l (i : Int) = l[i] := by
  simp [rd_T27, List.getD_eq_getElem?_getD, h]
theorem wrap_nat (i n : Nat) (h : i < n) (hn : n ≤ 1000000000000) : wrap64 ((i : Int) + 1) = ((i + 1 : Nat) : Int) := by
  unfold wrap64; omega
theorem Same_l0 (a b : List S27) (hab : a.length = b.length) (hn : a.length ≤ 1000000000000) (d : Nat) : ∀ (i k : Nat), a.length - i = d → i ≤ a.length → d < k → easementref08_Same.l0 k a b (i : Int) = some (decide (a.drop i = b.drop i)) := by
  induction d with
  | zero =>
    intro i k hd hi hk
    obtain ⟨k, rfl⟩ : ∃ m, k = m + 1 := ⟨k - 1, by omega⟩
    simp only [easementref08_Same.l0]
    rw [if_neg (by omega), List.drop_eq_nil_of_le (by omega), List.drop_eq_nil_of_le (by omega)]
    simp
  | succ d ih =>
    intro i k hd hi hk
    obtain ⟨k, rfl⟩ : ∃ m, k = m + 1 := ⟨k - 1, by omega⟩
    have h1 : i < a.length := by omega
    have h2 : i < b.length := by omega
    simp only [easementref08_Same.l0]
    rw [if_pos (by omega), if_pos (by omega), if_pos (by omega), rd27 a i h1, rd27 b i h2, wrap_nat i _ h1 hn, ih (i + 1) k (by omega) (by omega) (by omega)]
    rw [List.drop_eq_getElem_cons h1, List.drop_eq_getElem_cons h2]
    by_cases e : a[i] = b[i]
    · rw [if_neg (by simp [e])]
      simp [-List.getElem_cons_drop, e]
    · rw [if_pos]
      · simp [-List.getElem_cons_drop, e]
      · have : ¬ (a[i].f0 = b[i].f0 ∧ a[i].f1 = b[i].f1) := fun h => e (by
          generalize a[i] = x at *; generalize b[i] = y at *; cases x; cases y; simp at h; simp [h])
        simp
        by_cases h0 : a[i].f0 = b[i].f0
        · exact .inr (fun h1 => this ⟨h0, h1⟩)
        · exact .inl h0
theorem Same_f (a b : List S27) (hn : a.length ≤ 1000000000000) : easementref08_Same.f (a.length + 1) a b = some (decide (a = b)) := by
  unfold easementref08_Same.f
  by_cases h : (a.length : Int) = b.length
  · rw [if_pos h]
    have := Same_l0 a b (by omega) hn a.length 0 (a.length + 1) rfl (by omega) (by omega)
    simpa using this
  · rw [if_neg h]
    have : a ≠ b := fun e => h (by rw [e])
    simp [this]
theorem eta27 (x : S27) : (⟨x.f0, x.f1⟩ : S27) = x := by cases x; rfl
def groupF (l : List S27) (n : Int) : List S27 := l.filter fun x => decide (x.f0 = n)
theorem Group_l0 (a : List S27) (n : Int) (hn : a.length ≤ 1000000000) (d : Nat) : ∀ (i k : Nat) (o : List S27), a.length - i = d → i ≤ a.length → d < k → o.length ≤ i → easementref08_Group.l0 k a n o (i : Int) = some (o ++ groupF (a.drop i) n) := by
  induction d with
  | zero =>
    intro i k o hd hi hk ho
    obtain ⟨k, rfl⟩ : ∃ m, k = m + 1 := ⟨k - 1, by omega⟩
    simp only [easementref08_Group.l0]
    rw [if_neg (by omega), List.drop_eq_nil_of_le (by omega)]
    simp [groupF]
  | succ d ih =>
    intro i k o hd hi hk ho
    obtain ⟨k, rfl⟩ : ∃ m, k = m + 1 := ⟨k - 1, by omega⟩
    have h1 : i < a.length := by omega
    simp only [easementref08_Group.l0]
    rw [if_pos (by omega), if_pos (by omega), rd27 a i h1, wrap_nat i _ h1 (by omega), eta27, List.drop_eq_getElem_cons h1]
    by_cases e : a[i].f0 = n
    · rw [if_pos e, if_pos (by omega), ih (i + 1) k _ (by omega) (by omega) (by omega) (by simp; omega)]
      simp [-List.getElem_cons_drop, groupF, e]
    · rw [if_neg e, ih (i + 1) k _ (by omega) (by omega) (by omega) (by omega)]
      simp [-List.getElem_cons_drop, groupF, e]
theorem Group_f (a : List S27) (n : Int) (hn : a.length ≤ 1000000000) : easementref08_Group.f (a.length + 1) a n = some (groupF a n) := by
  have := Group_l0 a n hn a.length 0 (a.length + 1) [] rfl (by omega) (by omega) (by simp)
  simpa [easementref08_Group.f] using this
def getF (l : List S27) (n : Int) : Int × Bool := match l.find? fun x => decide (x.f0 = n) with | some x => (x.f1, true) | none => (0, false)
theorem Get_l0 (a : List S27) (n : Int) (hn : a.length ≤ 1000000000) (d : Nat) : ∀ (i k : Nat), a.length - i = d → i ≤ a.length → d < k → easementref08_Get.l0 k a n (i : Int) = some (getF (a.drop i) n) := by
  induction d with
  | zero =>
    intro i k hd hi hk
    obtain ⟨k, rfl⟩ : ∃ m, k = m + 1 := ⟨k - 1, by omega⟩
    simp only [easementref08_Get.l0]
    rw [if_neg (by omega), List.drop_eq_nil_of_le (by omega)]
    simp [getF]
  | succ d ih =>
    intro i k hd hi hk
    obtain ⟨k, rfl⟩ : ∃ m, k = m + 1 := ⟨k - 1, by omega⟩
    have h1 : i < a.length := by omega
    simp only [easementref08_Get.l0]
    rw [if_pos (by omega), if_pos (by omega), rd27 a i h1, wrap_nat i _ h1 (by omega), List.drop_eq_getElem_cons h1]
    by_cases e : a[i].f0 = n
    · rw [if_pos e]
      simp [-List.getElem_cons_drop, getF, e]
    · rw [if_neg e, ih (i + 1) k (by omega) (by omega) (by omega)]
      simp [-List.getElem_cons_drop, getF, e]
theorem Get_f (a : List S27) (n : Int) (hn : a.length ≤ 1000000000) : easementref08_Get.f (a.length + 1) a n = some (getF a n) := by
  have := Get_l0 a n hn a.length 0 (a.length + 1) rfl (by omega) (by omega)
  simpa [easementref08_Get.f] using this
/-- Is it there among the first ones? -/
theorem Firsts_l1 (a o : List S27) (i : Nat) (h1 : i < a.length) (hn : a.length ≤ 1000000000) (ho : o.length ≤ i) (d : Nat) : ∀ (j k : Nat) (t : Bool), i - j = d → j ≤ i → t = decide (a[i] ∈ a.take j) →
    easementref08_Firsts.l1 (d + 1 + k) a o (i : Int) t (j : Int) = easementref08_Firsts.l0 k a (if a[i] ∈ a.take i then o else o ++ [a[i]]) ((i + 1 : Nat) : Int) := by
  induction d with
  | zero =>
    intro j k t hd hj ht
    obtain rfl : j = i := by omega
    rw [show 0 + 1 + k = k + 1 by omega]
    simp only [easementref08_Firsts.l1]
    rw [if_neg (by omega), wrap_nat j _ h1 (by omega), rd27 a j h1, eta27]
    subst ht
    by_cases e : a[j] ∈ a.take j
    · rw [if_pos (by simp [e]), if_pos e]
    · rw [if_neg (by simp [e]), if_pos (by omega), if_pos (by omega), if_pos (by omega), if_neg e]
  | succ d ih =>
    intro j k t hd hj ht
    rw [show d + 1 + 1 + k = (d + 1 + k) + 1 by omega]
    have h2 : j < a.length := by omega
    simp only [easementref08_Firsts.l1]
    rw [if_pos (by omega), wrap_nat j a.length h2 (by omega), rd27 a i h1, rd27 a j h2]
    have hk : a.take (j + 1) = a.take j ++ [a[j]] := List.take_succ_eq_append_getElem h2
    by_cases e : t = true
    · rw [if_pos e]
      refine ih (j + 1) k true (by omega) (by omega) ?_
      subst ht
      rw [hk]
      have := of_decide_eq_true e
      simp [-List.take_append_getElem, this]
    · rw [if_neg e, if_pos (by omega), if_pos (by omega), if_pos (by omega), if_pos (by omega)]
      refine ih (j + 1) k _ (by omega) (by omega) ?_
      subst ht
      have e' : ¬ a[i] ∈ a.take j := by simpa using e
      rw [hk, Bool.eq_iff_iff]
      simp only [Bool.and_eq_true, beq_iff_eq, decide_eq_true_eq, List.mem_append, List.mem_singleton, e', false_or]
      constructor
      · intro h
        generalize a[i] = x at *; generalize a[j] = y at *; cases x; cases y; simp at h; simp [h]
      · intro h; rw [h]; exact ⟨rfl, rfl⟩
theorem Firsts_l0 (a : List S27) (hn : a.length ≤ 100000) (d : Nat) : ∀ (i k : Nat) (o : List S27), a.length - i = d → i ≤ a.length → (d + 1) * (a.length + 2) ≤ k → o = firstsF (a.take i) → easementref08_Firsts.l0 k a o (i : Int) = some (firstsF a) := by
  induction d with
  | zero =>
    intro i k o hd hi hk ho
    obtain ⟨k, rfl⟩ : ∃ m, k = m + 1 := ⟨k - 1, by omega⟩
    simp only [easementref08_Firsts.l0]
    rw [if_neg (by omega), ho, List.take_of_length_le (by omega)]
  | succ d ih =>
    intro i k o hd hi hk ho
    have h3 : (d + 1 + 1) * (a.length + 2) = (d + 1) * (a.length + 2) + (a.length + 2) := Nat.succ_mul _ _
    obtain ⟨k', rfl⟩ : ∃ m, k = (i - 0 + 1 + m) + 1 := ⟨k - i - 2, by omega⟩
    have h1 : i < a.length := by omega
    simp only [easementref08_Firsts.l0]
    rw [if_pos (by omega)]
    have hol : o.length ≤ i := by
      rw [ho]
      have := firstsF_len (a.take i)
      have := List.length_take_le i a
      omega
    have := Firsts_l1 a o i h1 (by omega) hol (i - 0) 0 k' false rfl (by omega) (by simp)
    rw [show ((0 : Nat) : Int) = 0 from rfl] at this
    rw [this]
    refine ih (i + 1) k' _ (by omega) (by omega) (by omega) ?_
    rw [List.take_succ_eq_append_getElem h1, firstsF_snoc, ho]
theorem Firsts_f (a : List S27) (hn : a.length ≤ 100000) : easementref08_Firsts.f ((a.length + 1) * (a.length + 2)) a = some (firstsF a) := by
  have := Firsts_l0 a hn a.length 0 ((a.length + 1) * (a.length + 2)) [] rfl (by omega) (Nat.le_refl _) (by simp [firstsF])
  simpa [easementref08_Firsts.f] using this
end Go.Proofs.Ytoaneipjcfeinaa.PT08
