/- Pieces of memory that are held apart, and laws on worlds of which one piece is changed: words of this session, proved for any program. -/
import Derived.Below
import Derived.Deep.Draws
import Derived.Deep.AppendLies
import Derived.Deep.RegionLaw
import Derived.Maps.AppendAt
import Derived.OwnWalk
import Derived.Laws.MakeOwn
import Derived.Laws.OwnMore
import Derived.Laws.Rows
import Derived.Tactics
import Derived.WalkKit
import Derived.RowKit3
set_option linter.unusedVariables false
set_option linter.unusedSimpArgs false
namespace Go.Sp
open Go.RowKit

/-- A piece of memory: some blocks, each with its content; true: it may be written by whoever holds it; false: it may not, and may be held by many. -/
def Hp : Type := Nat → Option (Bool × Obj)
def Hp.ok (a b : Hp) : Prop := ∀ k, a k = none ∨ b k = none ∨ (a k = b k ∧ ∃ o, a k = some (false, o))
def Hp.join (a b : Hp) : Hp := fun k => match a k with | some x => some x | none => b k
def Hp.none_ : Hp := fun _ => none
def Hp.one (k : Nat) (o : Obj) : Hp := fun j => if j = k then some (true, o) else none
theorem Hp.ok_symm {a b : Hp} (h : a.ok b) : b.ok a := fun k => by
  rcases h k with h | h | ⟨h, o, ho⟩
  · exact .inr (.inl h)
  · exact .inl h
  · exact .inr (.inr ⟨h.symm, o, h ▸ ho⟩)
theorem Hp.join_comm {a b : Hp} (h : a.ok b) : a.join b = b.join a := by
  funext k
  simp only [Hp.join]
  rcases h k with h | h | ⟨h, o, ho⟩
  · rw [h]; cases b k <;> rfl
  · rw [h]; cases a k <;> rfl
  · rw [← h]
theorem Hp.join_assoc (a b c : Hp) : (a.join b).join c = a.join (b.join c) := by
  funext k
  simp only [Hp.join]
  cases a k <;> rfl
theorem Hp.ok_assoc {a b c : Hp} (h1 : a.ok b) (h2 : (a.join b).ok c) : b.ok c ∧ a.ok (b.join c) := by
  constructor
  · intro k
    have g1 := h1 k
    have g2 := h2 k
    simp only [Hp.join] at g2
    rcases g1 with g1 | g1 | ⟨g1, o, ho⟩
    · rw [g1] at g2; exact g2
    · exact .inl g1
    · rw [ho] at g2
      rcases g2 with g2 | g2 | ⟨g2, _⟩
      · cases g2
      · exact .inr (.inl g2)
      · exact .inr (.inr ⟨by rw [← g1, ho]; exact g2, o, by rw [← g1]; exact ho⟩)
  · intro k
    have g1 := h1 k
    have g2 := h2 k
    simp only [Hp.join] at g2 ⊢
    rcases g1 with g1 | g1 | ⟨g1, o, ho⟩
    · exact .inl g1
    · rw [g1]
      rcases ha : a k with _ | x
      · exact .inl rfl
      · rw [ha] at g2; exact g2
    · exact .inr (.inr ⟨by rw [← g1, ho], o, ho⟩)

def HP : Type := Hp → Prop
def HP.star (P Q : HP) : HP := fun h => ∃ a b : Hp, a.ok b ∧ h = a.join b ∧ P a ∧ Q b
def emp : HP := fun h => h = Hp.none_
instance : Mul HP := ⟨HP.star⟩
theorem star_def (P Q : HP) : P * Q = HP.star P Q := rfl
theorem star_comm (P Q : HP) : P * Q = Q * P := by
  have key : ∀ P Q : HP, ∀ h, (P * Q) h → (Q * P) h := by
    rintro P Q h ⟨a, b, hok, rfl, hp, hq⟩
    exact ⟨b, a, Hp.ok_symm hok, Hp.join_comm hok, hq, hp⟩
  funext h
  exact propext ⟨key P Q h, key Q P h⟩
theorem star_assoc (P Q R : HP) : P * Q * R = P * (Q * R) := by
  funext h
  refine propext ⟨?_, ?_⟩
  · rintro ⟨_, c, h2, rfl, ⟨a, b, h1, rfl, hp, hq⟩, hr⟩
    have := Hp.ok_assoc h1 h2
    exact ⟨a, b.join c, this.2, Hp.join_assoc a b c, hp, b, c, this.1, rfl, hq, hr⟩
  · rintro ⟨a, _, h2, rfl, hp, b, c, h1, rfl, hq, hr⟩
    have h1' := Hp.ok_symm h1
    have h2' : (c.join b).ok a := by rw [← Hp.join_comm h1]; exact Hp.ok_symm h2
    have := Hp.ok_assoc h1' h2'
    have h3 : (a.join b).ok c := by rw [Hp.join_comm (Hp.ok_symm this.1)]; exact Hp.ok_symm this.2
    exact ⟨a.join b, c, h3, (Hp.join_assoc a b c).symm, ⟨a, b, Hp.ok_symm this.1, rfl, hp, hq⟩, hr⟩
theorem star_emp (P : HP) : P * emp = P := by
  funext h
  refine propext ⟨?_, fun hp => ⟨h, Hp.none_, fun k => .inr (.inl rfl), ?_, hp, rfl⟩⟩
  · rintro ⟨a, b, _, rfl, hp, rfl⟩
    have : a.join Hp.none_ = a := by funext k; simp only [Hp.join, Hp.none_]; cases a k <;> rfl
    rw [this]; exact hp
  · funext k; simp only [Hp.join, Hp.none_]; cases h k <;> rfl
theorem emp_star (P : HP) : emp * P = P := by rw [star_comm, star_emp]
instance : Std.Associative (α := HP) (· * ·) := ⟨star_assoc⟩
instance : Std.Commutative (α := HP) (· * ·) := ⟨star_comm⟩
def one (k : Nat) (o : Obj) : HP := fun h => h = Hp.one k o
/-- A block of cells. -/
def blk (k : Nat) (cs : Array Value) (T : TypeId) : HP := one k (.cells cs T (0, 0))
/-- A slice's value with its row: n elements of type e, sz cells each. -/
def row (e : TypeId) (sz : Nat) (v : Value) (n : Nat) (xs : List Value) : HP := fun h =>
  xs.length = n * sz ∧ ((v = .slice none 0 0 ∧ n = 0 ∧ h = Hp.none_) ∨
    ∃ g cap cur, v = .slice (some ⟨g, 0, none⟩) n cap ∧ h = Hp.one g (.cells cur e (0, 0)) ∧ n ≤ cap ∧ cap ≤ maxLen ∧ cur.size = cap * sz ∧ cur.toList.take (n * sz) = xs)
/-- What holds of a number, or whatever, and of no memory. -/
def pure_ (p : Prop) : HP := fun h => h = Hp.none_ ∧ p
def ex {α : Type} (f : α → HP) : HP := fun h => ∃ x, f x h

/-- From w0 on: what was there in w0 is as it was; beyond that P holds of w. -/
def Sep (w0 w : World) (P : HP) : Prop := Below w0.heap.size w0 w ∧ ∃ h : Hp, P h ∧ ∀ k m o, h k = some (m, o) → w0.heap.size ≤ k ∧ w.heap[k]? = some o

section
variable {w0 w w1 : World} {P Q R : HP}
theorem Sep.start (w : World) : Sep w w emp := ⟨Below.refl _ _, Hp.none_, rfl, fun k m o h => by cases h⟩
theorem Sep.below (h : Sep w0 w P) : Below w0.heap.size w0 w := h.1
theorem Sep.size (h : Sep w0 w P) : w0.heap.size ≤ w.heap.size := h.1.size
theorem Sep.imp (h : Sep w0 w P) (k : ∀ a, P a → Q a) : Sep w0 w Q := ⟨h.1, h.2.choose, k _ h.2.choose_spec.1, h.2.choose_spec.2⟩
theorem Sep.cast (h : Sep w0 w P) (e : P = Q) : Sep w0 w Q := e ▸ h
theorem Sep.drop (h : Sep w0 w (P * Q)) : Sep w0 w P := by
  obtain ⟨hb, _, ⟨a, b, hok, rfl, hp, hq⟩, hw⟩ := h
  refine ⟨hb, a, hp, fun k m o hk => hw k m o ?_⟩
  simp [Hp.join, hk]
theorem Sep.drop_l (h : Sep w0 w (P * Q)) : Sep w0 w Q := by rw [star_comm] at h; exact h.drop
theorem Sep.move (h : Sep w0 w P) (hb : Below w.heap.size w w1) : Sep w0 w1 P := by
  obtain ⟨h0, a, hp, hw⟩ := h
  refine ⟨h0.trans ⟨hb.os, hb.tape, hb.output, hb.size, fun i hi => hb.block i (Nat.lt_of_lt_of_le hi h0.size)⟩, a, hp, fun k m o hk => ?_⟩
  obtain ⟨g1, g2⟩ := hw k m o hk
  refine ⟨g1, ?_⟩
  rw [hb.block k (Array.getElem?_eq_some_iff.1 g2).1]
  exact g2
theorem Sep.drew (h : Sep w0 w P) : Sep w0 w.drew P := h.move (Below.refl _ _).drew
theorem Sep.drewN (h : Sep w0 w P) (n : Nat) : Sep w0 (w.drewN n) P := h.move ⟨rfl, rfl, rfl, Nat.le_refl _, fun _ _ => rfl⟩
theorem Sep.alloc' (h : Sep w0 w P) (o : Obj) : Sep w0 (w.alloc o) P := h.move ((Below.refl _ _).alloc (Nat.le_refl _) o)
theorem Sep.alloc (h : Sep w0 w P) (o : Obj) : Sep w0 (w.alloc o) (P * one w.heap.size o) := by
  have h' := h.alloc' o
  obtain ⟨h0, a, hp, hw⟩ := h
  refine ⟨h'.1, a.join (Hp.one w.heap.size o), ⟨a, _, fun k => ?_, rfl, hp, rfl⟩, fun k m o' hk => ?_⟩
  · by_cases e : k = w.heap.size
    · rcases hk : a k with _ | ⟨m, o'⟩
      · exact .inl rfl
      · have := (Array.getElem?_eq_some_iff.1 (hw k m o' hk).2).1
        omega
    · exact .inr (.inl (by simp [Hp.one, e]))
  · simp only [Hp.join] at hk
    rcases ha : a k with _ | ⟨m', o''⟩
    · rw [ha] at hk
      simp only [Hp.one] at hk
      split at hk
      · rename_i e
        subst e
        injection hk with hk
        injection hk with _ hk
        subst hk
        exact ⟨h0.size, heap_alloc_new w _⟩
      · cases hk
    · rw [ha] at hk
      injection hk with hk
      injection hk with h1 h2
      subst h1 h2
      obtain ⟨g1, g2⟩ := hw k m' o'' ha
      exact ⟨g1, by rw [Below.heap_alloc _ _ _ (Array.getElem?_eq_some_iff.1 g2).1]; exact g2⟩
theorem Sep.alloc_blk (h : Sep w0 w P) (cs : Array Value) (T : TypeId) : Sep w0 (w.alloc (.cells cs T)) (P * blk w.heap.size cs T) := h.alloc _

/-- One of the pieces, a block that may be written, is changed: the others stay. -/
theorem Sep.change {g : Nat} {o o' : Obj} (h : Sep w0 w (P * one g o)) (hb : Below w0.heap.size w0 w1) (hs : w.heap.size ≤ w1.heap.size) (hg : w1.heap[g]? = some o') (hk : ∀ k, k < w.heap.size → k ≠ g → w1.heap[k]? = w.heap[k]?) : Sep w0 w1 (P * one g o') := by
  obtain ⟨h0, _, ⟨a, b, hok, rfl, hp, hq⟩, hw⟩ := h
  subst hq
  have hg0 : w0.heap.size ≤ g := (hw g true o (by
    simp only [Hp.join]
    rcases hok g with h | h | ⟨_, o', h⟩
    · rw [h]; simp [Hp.one]
    · simp [Hp.one] at h
    · rename_i h2
      rw [h] at h2
      simp [Hp.one] at h2)).1
  have ha : ∀ k m o, a k = some (m, o) → k ≠ g := by
    rintro k m o1 hk' rfl
    rcases hok k with h | h | ⟨h, _, h2⟩
    · rw [h] at hk'; cases hk'
    · simp [Hp.one] at h
    · rw [h2] at h; simp [Hp.one] at h
  refine ⟨hb, a.join (Hp.one g o'), ⟨a, _, fun k => ?_, rfl, hp, rfl⟩, fun k m o1 hk1 => ?_⟩
  · rcases hak : a k with _ | ⟨m, o1⟩
    · exact .inl rfl
    · exact .inr (.inl (by simp [Hp.one, ha k m o1 hak]))
  · simp only [Hp.join] at hk1
    rcases hak : a k with _ | ⟨m', o2⟩
    · rw [hak] at hk1
      simp only [Hp.one] at hk1
      split at hk1
      · rename_i e
        subst e
        injection hk1 with hk1
        injection hk1 with _ hk1
        subst hk1
        exact ⟨hg0, hg⟩
      · cases hk1
    · rw [hak] at hk1
      injection hk1 with hk1
      injection hk1 with h1 h2
      subst h1 h2
      obtain ⟨g1, g2⟩ := hw k m' o2 (by simp [Hp.join, hak])
      exact ⟨g1, by rw [hk k (Array.getElem?_eq_some_iff.1 g2).1 (ha k m' o2 hak)]; exact g2⟩
theorem Sep.one_at {g : Nat} {o : Obj} (h : Sep w0 w (P * one g o)) : w.heap[g]? = some o ∧ w0.heap.size ≤ g := by
  have h := h.drop_l
  obtain ⟨_, a, rfl, hw⟩ := h
  have := hw g true o (by simp [Hp.one])
  exact ⟨this.2, this.1⟩
theorem Sep.blk_heap {g : Nat} {cs : Array Value} {T : TypeId} (h : Sep w0 w (P * blk g cs T)) : w.heap[g]? = some (.cells cs T (0, 0)) := h.one_at.1
theorem Sep.blk_ge {g : Nat} {cs : Array Value} {T : TypeId} (h : Sep w0 w (P * blk g cs T)) : w0.heap.size ≤ g := h.one_at.2
theorem heap_cell {g : Nat} {cs : Array Value} {T : TypeId} (h : w.heap[g]? = some (.cells cs T (0, 0))) (j : Nat) : w.cell? ⟨g, j, none⟩ = cs[j]? := by simp [World.cell?, h]
theorem heap_free {g : Nat} {cs : Array Value} {T : TypeId} (h : w.heap[g]? = some (.cells cs T (0, 0))) (j : Nat) : w.frozen? ⟨g, j, none⟩ = false := by simp [World.frozen?, h]
theorem Sep.cell {g : Nat} {cs : Array Value} {T : TypeId} (h : Sep w0 w (P * blk g cs T)) (j : Nat) : w.cell? ⟨g, j, none⟩ = cs[j]? := heap_cell h.blk_heap j
theorem Sep.free {g : Nat} {cs : Array Value} {T : TypeId} (h : Sep w0 w (P * blk g cs T)) (j : Nat) : w.frozen? ⟨g, j, none⟩ = false := heap_free h.blk_heap j
theorem Sep.set {g : Nat} {cs : Array Value} {T : TypeId} (h : Sep w0 w (P * blk g cs T)) (j : Nat) (v : Value) : Sep w0 (w.setCell ⟨g, j, none⟩ v) (P * blk g (cs.setIfInBounds j v) T) :=
  Sep.change h (h.1.setCell (by have := h.blk_ge; exact this) v) (by simp) (heap_setCell_same w g j cs T v h.blk_heap) (fun k _ hk => Below.heap_setCell _ _ _ _ hk)
/-- A store anywhere in a block that nobody of P holds. -/
theorem Sep.ownsRow {e : TypeId} {sz n : Nat} {v : Value} {xs : List Value} (h : Sep w0 w (P * row e sz v n xs)) : w.ownsRow w0.heap.size e sz v n xs := by
  have h := h.drop_l
  obtain ⟨_, a, ⟨hl, hr⟩, hw⟩ := h
  refine ⟨hl, ?_⟩
  rcases hr with ⟨h1, h2, _⟩ | ⟨g, cap, cur, rfl, rfl, h1, h2, h3, h4⟩
  · exact .inl ⟨h1, h2⟩
  · have := hw g true _ (by simp [Hp.one]; rfl)
    exact .inr ⟨g, cap, cur, rfl, this.1, this.2, h1, h2, h3, h4⟩
/-- A row has been changed by a law of the kit. -/
theorem Sep.row_change {e : TypeId} {sz n n' : Nat} {v v' : Value} {xs xs' : List Value} (h : Sep w0 w (P * row e sz v n xs)) (ho : w1.ownsRow w0.heap.size e sz v' n' xs') (hg : w.grownBy w1 v.ownBlock)
    (hat : v'.ownBlock = v.ownBlock ∨ ∃ b, v'.ownBlock = some b ∧ w.heap.size ≤ b) : Sep w0 w1 (P * row e sz v' n' xs') := by
  have hlow : Below w0.heap.size w0 w1 := h.1.grown hg h.size (fun k hk => (Sep.ownsRow h).lt k hk |>.1)
  obtain ⟨h0, _, ⟨a, b, hok, rfl, hp, hq⟩, hw⟩ := h
  -- the others' blocks are not the row's
  have hne : ∀ k m o, a k = some (m, o) → k < w.heap.size ∧ some k ≠ v.ownBlock := by
    intro k m o hk
    have h1 := hw k m o (by simp [Hp.join, hk])
    refine ⟨(Array.getElem?_eq_some_iff.1 h1.2).1, fun e' => ?_⟩
    rcases hq.2 with ⟨rfl, _, _⟩ | ⟨g, cap, cur, rfl, rfl, _⟩
    · cases e'
    · have e2 : k = g := by simpa [Value.ownBlock] using e'
      subst e2
      rcases hok k with h | h | ⟨h, _, h2⟩
      · rw [h] at hk; cases hk
      · simp [Hp.one] at h
      · rw [h2] at h; simp [Hp.one] at h
  have keepA : ∀ k m o, a k = some (m, o) → w0.heap.size ≤ k ∧ w1.heap[k]? = some o := by
    intro k m o hk
    have h1 := hw k m o (by simp [Hp.join, hk])
    have h2 := hne k m o hk
    exact ⟨h1.1, by rw [hg.block k h2.1 h2.2]; exact h1.2⟩
  refine ⟨hlow, ?_⟩
  rcases ho.2 with ⟨rfl, rfl⟩ | ⟨g, cap, cur, rfl, hgb, hgg, h1, h2, h3, h4⟩
  · refine ⟨a, ⟨a, Hp.none_, fun k => .inr (.inl rfl), ?_, hp, ho.1, .inl ⟨rfl, rfl, rfl⟩⟩, keepA⟩
    funext k; simp only [Hp.join, Hp.none_]; cases a k <;> rfl
  · have hga : ∀ k m o, a k = some (m, o) → k ≠ g := by
      rintro k m o hk rfl
      have h2 := hne k m o hk
      rcases hat with hat | ⟨b', hb', hge⟩
      · exact h2.2 (by rw [← hat]; simp [Value.ownBlock])
      · have : b' = k := by simpa [Value.ownBlock] using hb'.symm
        omega
    refine ⟨a.join (Hp.one g (.cells cur e (0, 0))), ⟨a, _, fun k => ?_, rfl, hp, ho.1, .inr ⟨g, cap, cur, rfl, rfl, h1, h2, h3, h4⟩⟩, fun k m o hk => ?_⟩
    · rcases hak : a k with _ | ⟨m, o1⟩
      · exact .inl rfl
      · exact .inr (.inl (by simp [Hp.one, hga k m o1 hak]))
    · simp only [Hp.join] at hk
      rcases hak : a k with _ | ⟨m', o2⟩
      · rw [hak] at hk
        simp only [Hp.one] at hk
        split at hk
        · rename_i e
          subst e
          injection hk with hk
          injection hk with _ hk
          subst hk
          exact ⟨hgb, hgg⟩
        · cases hk
      · rw [hak] at hk
        injection hk with hk
        injection hk with h1 h2
        subst h1 h2
        exact keepA k m' o2 hak
theorem row_nil (e : TypeId) (sz : Nat) : row e sz (.slice none 0 0) 0 [] = emp := by
  funext h
  refine propext ⟨?_, fun hh => ⟨by simp, .inl ⟨rfl, rfl, hh⟩⟩⟩
  rintro ⟨_, ⟨_, _, h⟩ | ⟨g, cap, cur, h, _⟩⟩
  · exact h
  · cases h
theorem Sep.nil_row (h : Sep w0 w P) (e : TypeId) (sz : Nat) : Sep w0 w (P * row e sz (.slice none 0 0) 0 []) := by rw [row_nil, star_emp]; exact h
theorem Sep.row_of_blk {e : TypeId} {sz n cap g : Nat} {cur : Array Value} (h : Sep w0 w (P * blk g cur e)) (h1 : n ≤ cap) (h2 : cap ≤ maxLen) (h3 : cur.size = cap * sz) : Sep w0 w (P * row e sz (.slice (some ⟨g, 0, none⟩) n cap) n (cur.toList.take (n * sz))) := by
  refine h.imp ?_
  rintro _ ⟨a, b, hok, rfl, hp, rfl⟩
  refine ⟨a, _, hok, rfl, hp, ?_, .inr ⟨g, cap, cur, rfl, rfl, h1, h2, h3, rfl⟩⟩
  rw [List.length_take, Array.length_toList, h3]
  have : n * sz ≤ cap * sz := Nat.mul_le_mul_right _ h1
  omega
end
end Go.Sp
namespace Go.Sp
open Go.RowKit
section
variable {w0 w w1 W : World} {P Q R : HP}
/-- append(v, x), x one element (its box is the newest block). -/
theorem wpList_sep_append {Pg : Program} {ops : Array Oper} {rest : List Oper} {o : Oper} {a : Act} {Qx : Exit → Act → World → Prop} (hgd : o.guard = none) (s x : Operand) (t e : TypeId) (z : Value) (sz bytes g : Nat)
    (ho : o.op = .call { callee := .builtin .append, args := #[s, x], argTypes := #[t, t] })
    (ht : Pg.underlying t = some (.slice e)) (hinfo : (Pg.info? e).map (fun i => (i.zero, i.size, i.bytes)) = some (some z, sz, bytes)) (hz : z.cells.size = sz) (hs0 : 0 < sz) (hb0 : 0 < bytes)
    (v : Value) (n : Nat) (xs : List Value) (ys : Array Value) (hs : a.eval s = v) (hx : a.eval x = .slice (some ⟨g, 0, none⟩) 1 1) (hg : g = W.heap.size) (hy : ys.size = sz) (h1' : (ys.toList.all fun u => u.oneCell') = true)
    (HS : Sep w0 W (P * row e sz v n xs)) (hl : (n + 1) * bytes ≤ 140737488355328)
    (h : ∀ A c w1, Sep w0 w1 (P * row e sz (.slice A (n + 1) c) (n + 1) (xs ++ ys.toList)) → wpList Pg ops Qx rest (a.put o.dst (.slice A (n + 1) c)) w1) :
    wpList Pg ops Qx (o :: rest) a (W.alloc (.cells ys e)) := by
  subst hg
  have h1 : ∀ u ∈ ys.toList, u.oneCell' = true := List.all_eq_true.1 h1'
  obtain ⟨i0, hi, hzz⟩ := Option.map_eq_some_iff.1 hinfo
  simp only [Prod.mk.injEq] at hzz
  obtain ⟨hz0, hz1, hz2⟩ := hzz
  have hlen : n + 1 ≤ 140737488355328 := Nat.le_trans (Nat.le_mul_of_pos_right _ hb0) hl
  have HS1 := HS.alloc' (.cells ys e)
  refine wpList_append_own_at (W.alloc (.cells ys e)) hgd s x t ho w0.heap.size e i0 z sz bytes ht hi hz0 hz1 hz2 hz hs0 v n xs hs HS1.ownsRow ⟨W.heap.size, 0, none⟩ 1 1 ys.toList hx (by simp [hy])
    (World.news_of_block (cs := ys) (t := e) (fr := (0, 0)) (heap_alloc_new W _)) h1 (by simp only [maxLen]; omega) hl HS1.size ?_
  intro v1 w1 hown hg _ hat
  have key := HS1.row_change hown hg (by
    rcases hat with hat | hat
    · exact .inl hat
    · exact .inr ⟨_, hat, Nat.le_refl _⟩)
  have hv : ∃ A c, v1 = .slice A (n + 1) c := by
    rcases hown.2 with ⟨_, h⟩ | ⟨g, cap, cur, rfl, _⟩
    · omega
    · exact ⟨_, _, rfl⟩
  obtain ⟨A, c, rfl⟩ := hv
  exact h A c w1 key
theorem Sep.row_slice {e : TypeId} {sz n : Nat} {v : Value} {xs : List Value} (h : Sep w0 w (P * row e sz v n xs)) : ∃ A c, v = .slice A n c ∧ n ≤ c := by
  rcases h.ownsRow.2 with ⟨rfl, rfl⟩ | ⟨g, cap, cur, rfl, _, _, h1, _⟩
  · exact ⟨none, 0, rfl, Nat.le_refl _⟩
  · exact ⟨_, cap, rfl, h1⟩
theorem Sep.row_form {e : TypeId} {sz n c : Nat} {A : Option Addr} {xs : List Value} (h : Sep w0 w (P * row e sz (.slice A n c) n xs)) (hn : 0 < n) : ∃ g, A = some ⟨g, 0, none⟩ ∧ w0.heap.size ≤ g ∧ (∀ j u, xs[j]? = some u → w.cell? ⟨g, j, none⟩ = some u) ∧ (∀ j, w.frozen? ⟨g, j, none⟩ = false) := by
  have ho := h.ownsRow
  rcases ho.2 with ⟨h1, h2⟩ | ⟨g, cap, cur, h1, hb, hh, _⟩
  · omega
  · injection h1 with h1 h2 h3
    subst h1
    refine ⟨g, rfl, hb, fun j u hu => ?_, fun j => heap_free hh j⟩
    have := ho.cells (g := g) rfl j u hu
    have hadd : (⟨g, 0, none⟩ : Addr).add j = ⟨g, j, none⟩ := by unfold Addr.add; split <;> simp_all
    rwa [hadd] at this
/-- A store into one of a row's cells. -/
theorem Sep.row_set {e : TypeId} {sz n c g : Nat} {xs : List Value} (h : Sep w0 w (P * row e sz (.slice (some ⟨g, 0, none⟩) n c) n xs)) (j : Nat) (u : Value) : Sep w0 (w.setCell ⟨g, j, none⟩ u) (P * row e sz (.slice (some ⟨g, 0, none⟩) n c) n (xs.set j u)) := by
  have ho := h.ownsRow
  obtain ⟨h1, h2⟩ := ho.stored (g := g) j u
  exact h.row_change h1 h2 (.inl rfl)
end
end Go.Sp
namespace Go.Sp
section
variable {w0 w : World} {P A B C D E F G : HP}
/-- The piece that stands second, third .. from behind comes to the end. -/
theorem Sep.t2' (h : Sep w0 w (A * B)) : Sep w0 w (B * A) := h.cast (by ac_rfl)
theorem Sep.t3' (h : Sep w0 w (A * B * C)) : Sep w0 w (B * C * A) := h.cast (by ac_rfl)
theorem Sep.t4' (h : Sep w0 w (A * B * C * D)) : Sep w0 w (B * C * D * A) := h.cast (by ac_rfl)
theorem Sep.t2 (h : Sep w0 w (P * A * B)) : Sep w0 w (P * B * A) := h.cast (by ac_rfl)
theorem Sep.t3 (h : Sep w0 w (P * A * B * C)) : Sep w0 w (P * B * C * A) := h.cast (by ac_rfl)
theorem Sep.t4 (h : Sep w0 w (P * A * B * C * D)) : Sep w0 w (P * B * C * D * A) := h.cast (by ac_rfl)
theorem Sep.t5 (h : Sep w0 w (P * A * B * C * D * E)) : Sep w0 w (P * B * C * D * E * A) := h.cast (by ac_rfl)
theorem Sep.t6 (h : Sep w0 w (P * A * B * C * D * E * F)) : Sep w0 w (P * B * C * D * E * F * A) := h.cast (by ac_rfl)
theorem Sep.t7 (h : Sep w0 w (P * A * B * C * D * E * F * G)) : Sep w0 w (P * B * C * D * E * F * G * A) := h.cast (by ac_rfl)
end
end Go.Sp
namespace Go.Sp
/-- The walk stops before an operation: 'go_wp2_with ((with_reducible refine gate_dst (N := 32) rfl ?_); refine held ?_)', then 'refine unheld ?_'. -/
def Held (p : Prop) : Prop := p
theorem held {p : Prop} (h : Held p) : p := h
theorem unheld {p : Prop} (h : p) : Held p := h
end Go.Sp
namespace Go.Sp
section
variable {w0 w : World} {P Q : HP}
theorem Sep.ne_one {g k : Nat} {o o' : Obj} (h : Sep w0 w (P * one g o * one k o')) : g ≠ k := by
  obtain ⟨_, _, ⟨_, b, hok, rfl, ⟨a, c, hok2, rfl, hp, hq⟩, hr⟩, hw⟩ := h
  rintro rfl
  subst hq hr
  have h1 : (a.join (Hp.one g o)) g ≠ none := by
    simp only [Hp.join]
    cases a g <;> simp [Hp.one]
  rcases hok g with h | h | ⟨h, o2, h2⟩
  · exact h1 h
  · simp [Hp.one] at h
  · rw [h2] at h; simp [Hp.one] at h
theorem Sep.row_one {e : TypeId} {sz n c g : Nat} {xs : List Value} (h : Sep w0 w (P * row e sz (.slice (some ⟨g, 0, none⟩) n c) n xs)) : ∃ o, Sep w0 w (P * one g o) := by
  obtain ⟨hb, a, ⟨a1, b1, hok, rfl, hp, hq⟩, hw⟩ := h
  rcases hq.2 with ⟨h, _⟩ | ⟨g', cap, cur, h, rfl, _⟩
  · cases h
  · injection h with h _ _
    injection h with h
    injection h with h
    subst h
    exact ⟨_, hb, _, ⟨a1, _, hok, rfl, hp, rfl⟩, hw⟩
theorem Sep.row_blk_ne {e : TypeId} {sz n c g k : Nat} {xs : List Value} {cs : Array Value} {T : TypeId} (h : Sep w0 w (P * row e sz (.slice (some ⟨g, 0, none⟩) n c) n xs * blk k cs T)) : g ≠ k := by
  obtain ⟨o, h1⟩ := h.t2.row_one
  exact h1.t2.ne_one
theorem Sep.row_row_ne {e e' : TypeId} {sz sz' n c n' c' g k : Nat} {xs xs' : List Value} (h : Sep w0 w (P * row e sz (.slice (some ⟨g, 0, none⟩) n c) n xs * row e' sz' (.slice (some ⟨k, 0, none⟩) n' c') n' xs')) : g ≠ k := by
  obtain ⟨o, h1⟩ := h.row_one
  obtain ⟨o2, h2⟩ := h1.t2.row_one
  exact h2.t2.ne_one
end
end Go.Sp
namespace Go.Sp
open Go.RowKit
/-- Rows of their own: a value, and its list, each. -/
def fls : HP := fun _ => False
def rowsL {α : Type} (e : TypeId) (sz : Nat) (cells : α → List Value) : List Value → List (List α) → HP
  | v :: vs, x :: xs => row e sz v x.length (x.flatMap cells) * rowsL e sz cells vs xs
  | [], [] => emp
  | _, _ => fls
theorem rowsL_cons {α : Type} (e : TypeId) (sz : Nat) (cells : α → List Value) (v : Value) (vs : List Value) (x : List α) (xs : List (List α)) : rowsL e sz cells (v :: vs) (x :: xs) = row e sz v x.length (x.flatMap cells) * rowsL e sz cells vs xs := rfl
theorem rowsL_nn {α : Type} (e : TypeId) (sz : Nat) (cells : α → List Value) : rowsL e sz cells [] [] = emp := rfl
theorem rowsL_split {α : Type} (e : TypeId) (sz : Nat) (cells : α → List Value) : ∀ (vs : List Value) (xs : List (List α)) (i : Nat), i < vs.length → vs.length = xs.length →
    ∃ R : HP, ∀ v' x', rowsL e sz cells (vs.set i v') (xs.set i x') = R * row e sz v' x'.length (x'.flatMap cells)
  | [], _, i, h, _ => by simp at h
  | v :: vs, [], i, _, h => by simp at h
  | v :: vs, x :: xs, 0, _, _ => ⟨rowsL e sz cells vs xs, fun v' x' => star_comm _ _⟩
  | v :: vs, x :: xs, i + 1, h, hl => by
    obtain ⟨R, hR⟩ := rowsL_split e sz cells vs xs i (by simpa using h) (by simpa using hl)
    refine ⟨row e sz v x.length (x.flatMap cells) * R, fun v' x' => ?_⟩
    rw [List.set_cons_succ, List.set_cons_succ, rowsL_cons, hR]
    exact (star_assoc _ _ _).symm
theorem rowsL_at {α : Type} (e : TypeId) (sz : Nat) (cells : α → List Value) (vs : List Value) (xs : List (List α)) (i : Nat) (h : i < vs.length) (hl : vs.length = xs.length) :
    ∃ R : HP, rowsL e sz cells vs xs = R * row e sz vs[i] (xs[i]'(hl ▸ h)).length ((xs[i]'(hl ▸ h)).flatMap cells) ∧ ∀ v' x', rowsL e sz cells (vs.set i v') (xs.set i x') = R * row e sz v' x'.length (x'.flatMap cells) := by
  obtain ⟨R, hR⟩ := rowsL_split e sz cells vs xs i h hl
  have := hR vs[i] (xs[i]'(hl ▸ h))
  rw [List.set_getElem_self, List.set_getElem_self] at this
  exact ⟨R, this, hR⟩
/-- Rows that are all nil. -/
theorem rowsL_nil {α : Type} (e : TypeId) (sz : Nat) (cells : α → List Value) : ∀ n : Nat, rowsL e sz cells (List.replicate n (.slice none 0 0)) (List.replicate n []) = emp
  | 0 => rfl
  | n + 1 => by
    rw [List.replicate_succ, List.replicate_succ, rowsL_cons, rowsL_nil e sz cells n, star_emp]
    exact row_nil e sz
section
variable {w0 w : World} {P : HP} {e : TypeId} {sz n c g : Nat} {xs : List Value}
theorem Sep.row_cell (h : Sep w0 w (P * row e sz (.slice (some ⟨g, 0, none⟩) n c) n xs)) (j : Nat) (u : Value) (hu : xs[j]? = some u) : w.cell? ⟨g, j, none⟩ = some u := by
  have := h.ownsRow.cells (g := g) rfl j u hu
  have hadd : (⟨g, 0, none⟩ : Addr).add j = ⟨g, j, none⟩ := by unfold Addr.add; split <;> simp_all
  rwa [hadd] at this
theorem Sep.row_free (h : Sep w0 w (P * row e sz (.slice (some ⟨g, 0, none⟩) n c) n xs)) (j : Nat) : w.frozen? ⟨g, j, none⟩ = false := by
  rcases h.ownsRow.2 with ⟨h1, _⟩ | ⟨g', cap, cur, h1, _, hh, _⟩
  · cases h1
  · injection h1 with h1 _ _
    injection h1 with h1
    injection h1 with h1
    subst h1
    exact heap_free hh j
end
section
variable {w0 W : World} {P : HP}
theorem madeCells_one (z : Value) (n : Nat) : (madeCells #[z] n).toList = List.replicate n z := by
  apply List.ext_getElem
  · simp [madeCells]
  · intro i h1 h2
    simp [madeCells, Nat.mod_one]
/-- make([]T, l, c): the run. -/
theorem run_make_any {Pg : Program} (t e : TypeId) (z : Value) (sz bytes : Nat) (ht : Pg.underlying t = some (.slice e)) (hinfo : (Pg.info? e).map (fun i => (i.zero, i.size, i.bytes)) = some (some z, sz, bytes))
    (l c : Nat) (hlc : l ≤ c) (hb : c * bytes ≤ 281474976710656) (h63 : c ≤ 9223372036854775807) (W : World) :
    (Instr.makeSlice t (.int .i64 (l : Int)) (.int .i64 (c : Int))).run Pg W = .ok (.slice (some ⟨W.heap.size, 0, none⟩) l c) (W.alloc (.cells (madeCells z.cells (c * sz)) e)) := by
  obtain ⟨i, hi, hzz⟩ := Option.map_eq_some_iff.1 hinfo
  simp only [Prod.mk.injEq] at hzz
  obtain ⟨hz, hs, hb'⟩ := hzz
  have hm : (i.bytes : Int) * (c : Int) ≤ 281474976710656 := by
    rw [hb']
    have h : ((bytes * c : Nat) : Int) ≤ 281474976710656 := by rw [Nat.mul_comm]; omega
    rwa [Int.natCast_mul] at h
  have hr := run_make (P := Pg) W t e i z ht hi hz .i64 .i64 l c (by omega) (by omega) hm (by omega)
  simp only [Int.toNat_natCast, hs] at hr
  exact hr
theorem Sep.made_one (h : Sep w0 W P) (e : TypeId) (z : Value) (n : Nat) (hn : n ≤ maxLen) : Sep w0 (W.alloc (.cells (madeCells #[z] n) e)) (P * row e 1 (.slice (some ⟨W.heap.size, 0, none⟩) n n) n (List.replicate n z)) := by
  have := (h.alloc_blk (madeCells #[z] n) e).row_of_blk (e := e) (sz := 1) (n := n) (cap := n) (Nat.le_refl _) hn (by simp [size_madeCells])
  rw [madeCells_one, Nat.mul_one, List.take_of_length_le (by simp)] at this
  exact this
theorem Sep.made_cap (h : Sep w0 W P) (e : TypeId) (cs : Array Value) (sz c : Nat) (hn : c ≤ maxLen) (hs : cs.size = c * sz) : Sep w0 (W.alloc (.cells cs e)) (P * row e sz (.slice (some ⟨W.heap.size, 0, none⟩) 0 c) 0 []) := by
  have := (h.alloc_blk cs e).row_of_blk (e := e) (sz := sz) (n := 0) (cap := c) (Nat.zero_le _) hn hs
  simpa using this
end
/-- append(v, x) as one step of a region that draws its order: x's cells are read where they lie. -/
theorem step_sep_append {Pg : Program} {w0 W : World} {P : HP} {ops : Array Oper} {o : Oper} {a : Act} {K : Act → World → Prop} {Qx : Exit → Act → World → Prop} {E : Prop} (hgd : o.guard = none) (s x : Operand) (t e : TypeId) (z : Value) (sz bytes g : Nat)
    (ho : o.op = .call { callee := .builtin .append, args := #[s, x], argTypes := #[t, t] })
    (ht : Pg.underlying t = some (.slice e)) (hinfo : (Pg.info? e).map (fun i => (i.zero, i.size, i.bytes)) = some (some z, sz, bytes)) (hz : z.cells.size = sz) (hs0 : 0 < sz) (hb0 : 0 < bytes)
    (v : Value) (n : Nat) (xs ys : List Value) (hs : a.eval s = v) (hx : a.eval x = .slice (some ⟨g, 0, none⟩) 1 1) (hy : ys.length = sz) (h1' : (ys.all fun u => u.oneCell') = true)
    (hnews : ∀ j u, ys[j]? = some u → W.cell? ⟨g, j, none⟩ = some u)
    (HS : Sep w0 W (P * row e sz v n xs)) (hl : (n + 1) * bytes ≤ 140737488355328)
    (h : ∀ g' c w1, Sep w0 w1 (P * row e sz (.slice (some ⟨g', 0, none⟩) (n + 1) c) (n + 1) (xs ++ ys)) → K (a.put o.dst (.slice (some ⟨g', 0, none⟩) (n + 1) c)) w1) :
    if Region.wanted o (yielded ops a.tmps) = true then Oper.wp Pg o a W K Qx else E := by
  obtain ⟨i0, hi, hzz⟩ := Option.map_eq_some_iff.1 hinfo
  simp only [Prod.mk.injEq] at hzz
  obtain ⟨hz0, hz1, hz2⟩ := hzz
  have hlen : n + 1 ≤ 140737488355328 := Nat.le_trans (Nat.le_mul_of_pos_right _ hb0) hl
  have h1 : ∀ u ∈ ys, u.oneCell' = true := List.all_eq_true.1 h1'
  refine step_append_lies (w := W) hgd s x t ho w0.heap.size e i0 z sz bytes ht hi hz0 hz1 hz2 hz hs0 v n xs hs HS.ownsRow ⟨g, 0, none⟩ 1 1 ys hx (by simp [hy])
    (fun j u hu => by
      have hadd : (⟨g, 0, none⟩ : Addr).add j = ⟨g, j, none⟩ := by unfold Addr.add; split <;> simp_all
      rw [hadd]; exact hnews j u hu) h1 (by decide) (by simp only [maxLen]; omega) hl HS.size W.heap.size rfl ?_
  intro g' cap w1 hown hg hat hlt
  refine h g' cap w1 (HS.row_change hown hg ?_)
  rcases hat with hat | hat
  · exact .inl (by rw [hat]; rfl)
  · exact .inr ⟨g', rfl, by omega⟩
attribute [irreducible] row rowsL
end Go.Sp
