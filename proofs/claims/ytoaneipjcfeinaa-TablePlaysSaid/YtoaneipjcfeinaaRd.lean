/- Rows that are held, as rows that are read, and the other way: words of this session. -/
import Derived.Test.YtoaneipjcfeinaaSep
import Derived.Test.YtoaneipjcfeinaaWWords
set_option linter.unusedVariables false
set_option linter.unusedSimpArgs false
namespace Go.Sp
open Go.RowKit Go.Proofs.YtoaneipjcfeinaaW.PrintWords
section
variable {w0 w w' : World} {P : HP} {e : TypeId} {sz n : Nat} {v : Value} {xs : List Value}
/-- A new row comes beside what is held. -/
theorem Sep.add_row (h : Sep w0 w P) (hb : Below w.heap.size w w') (ho : w'.ownsRow w.heap.size e sz v n xs) : Sep w0 w' (P * row e sz v n xs) := by
  have h' := h.move hb
  rcases ho.2 with ⟨rfl, rfl⟩ | ⟨g, cap, cur, rfl, hg, hh, h1, h2, h3, h4⟩
  · have hx : xs = [] := List.eq_nil_of_length_eq_zero (by rw [ho.1, Nat.zero_mul])
    subst hx
    exact h'.nil_row e sz
  · subst h4
    have key : Sep w0 w' (P * blk g cur e) := by
      obtain ⟨h0, a, hp, hw⟩ := h
      refine ⟨h'.1, a.join (Hp.one g (.cells cur e (0, 0))), ⟨a, _, fun k => ?_, rfl, hp, rfl⟩, fun k m o hk => ?_⟩
      · rcases hak : a k with _ | ⟨m, o⟩
        · exact .inl rfl
        · refine .inr (.inl ?_)
          have := (Array.getElem?_eq_some_iff.1 (hw k m o hak).2).1
          simp [Hp.one]
          omega
      · simp only [Hp.join] at hk
        rcases hak : a k with _ | ⟨m', o'⟩
        · rw [hak] at hk
          simp only [Hp.one] at hk
          split at hk
          · rename_i e'
            subst e'
            injection hk with hk
            injection hk with _ hk
            subst hk
            exact ⟨Nat.le_trans h0.size hg, hh⟩
          · cases hk
        · rw [hak] at hk
          injection hk with hk
          injection hk with g1 g2
          subst g1 g2
          obtain ⟨q1, q2⟩ := hw k m' o' hak
          exact ⟨q1, by rw [hb.block k (Array.getElem?_eq_some_iff.1 q2).1]; exact q2⟩
    exact key.row_of_blk h1 h2 h3
/-- A kind whose elements are plain cells. -/
structure Flat {α : Type} (d : Kd α) (enc : α → List Value) : Prop where
  len : ∀ x, (enc x).length = d.sz
  K : ∀ w x, d.K w x (enc x)
  M : ∀ w base ok x cs, d.M w base ok x cs → cs = enc x
theorem reps_flat {α : Type} {d : Kd α} {enc : α → List Value} (F : Flat d enc) (w : World) (l : List α) : Reps (d.K w) d.sz l (l.flatMap enc) := by
  have hl : ∀ l : List α, (l.flatMap enc).length = l.length * d.sz := by
    intro l
    induction l with
    | nil => simp
    | cons a t ih => rw [List.flatMap_cons, List.length_append, ih, F.len, List.length_cons, Nat.succ_mul, Nat.add_comm]
  refine ⟨hl l, ?_⟩
  induction l with
  | nil => intro j p hj; simp at hj
  | cons a t ih =>
    intro j p hj
    cases j with
    | zero =>
      simp at hj
      subst hj
      rw [List.flatMap_cons, Nat.zero_mul, List.drop_zero, ← F.len a, List.take_left]
      exact F.K w a
    | succ j =>
      simp at hj
      have := ih j p hj
      rw [List.flatMap_cons, Nat.succ_mul, Nat.add_comm, ← List.drop_drop]
      have e1 : (enc a ++ t.flatMap enc).drop d.sz = t.flatMap enc := by rw [← F.len a, List.drop_left]
      rw [e1]
      exact this
theorem Sep.reads {α : Type} {d : Kd α} {enc : α → List Value} (F : Flat d enc) {l : List α} (h : Sep w0 w (P * row e d.sz v l.length (l.flatMap enc))) : ∃ A c, v = .slice A l.length c ∧ l.length ≤ c ∧ d.C w A l.length l := by
  obtain ⟨A, c, rfl, hc⟩ := h.row_slice
  obtain ⟨A', c', h1, h2⟩ := own_reads_row h.ownsRow (reps_flat F w l) rfl
  injection h1 with h1 _ h3
  subst h1
  exact ⟨A, c, rfl, hc, h2⟩
theorem Sep.reads' {α : Type} {d : Kd α} {enc : α → List Value} (F : Flat d enc) {l : List α} {A : Option Addr} {c : Nat} (h : Sep w0 w (P * row e d.sz (.slice A l.length c) l.length (l.flatMap enc))) : l.length ≤ c ∧ d.C w A l.length l := by
  obtain ⟨A', c', h1, h2, h3⟩ := h.reads F
  injection h1 with h4 _ h5
  subst h4 h5
  exact ⟨h2, h3⟩
theorem flat_of_reps {α : Type} {d : Kd α} {enc : α → List Value} (F : Flat d enc) {w : World} {base : Nat} {ok : Nat → Prop} : ∀ {l : List α} {cs : List Value}, Reps (d.M w base ok) d.sz l cs → cs = l.flatMap enc := by
  intro l
  induction l with
  | nil => intro cs h; have := h.1; simp at this; subst this; rfl
  | cons a t ih =>
    intro cs h
    have h0 := h.2 0 a rfl
    rw [Nat.zero_mul, List.drop_zero] at h0
    have e0 := F.M _ _ _ _ _ h0
    have e1 : cs = cs.take d.sz ++ cs.drop d.sz := (List.take_append_drop _ _).symm
    rw [e1, e0, List.flatMap_cons]
    congr 1
    refine ih ⟨?_, fun j p hj => ?_⟩
    · rw [List.length_drop, h.1, List.length_cons, Nat.succ_mul]; omega
    · have := h.2 (j + 1) p (by simpa using hj)
      rw [Nat.succ_mul, Nat.add_comm, ← List.drop_drop] at this
      exact this
theorem Sep.take_R {α : Type} {d : Kd α} {enc : α → List Value} (F : Flat d enc) {ok : Nat → Prop} {l : List α} (h : Sep w0 w P) (hb : Below w.heap.size w w') (hr : Kd.R d e w' w.heap.size ok v l) : Sep w0 w' (P * row e d.sz v l.length (l.flatMap enc)) := by
  obtain ⟨_, inner, ho, hreps⟩ := hr
  have := flat_of_reps F hreps
  subst this
  exact h.add_row hb ho
theorem flat_scalar {α : Type} (enc : α → Value) (h1 : ∀ x, (enc x).oneCell' = true) : Flat (Kd.scalar enc h1) (fun x => [enc x]) := ⟨fun _ => rfl, fun _ _ => rfl, fun _ _ _ _ _ h => h⟩
theorem flat_int (k : IntKind) : Flat (Kd.int k) (fun x => [Value.int k x]) := flat_scalar _ _
theorem flat_string : Flat Kd.string (fun x => [Value.string x]) := flat_scalar _ _
theorem flat_bool : Flat Kd.bool (fun x => [Value.bool x]) := flat_scalar _ _
end
end Go.Sp
