/- Whatever came in as data of a type reads as a kind of the print: words of this session. -/
import Derived.Deep.Slices
import Derived.ChangeArms
import Derived.ChangeOld
import Derived.DataReads
import Derived.Test.YtoaneipjcfeinaaRd
set_option linter.unusedVariables false
set_option linter.unusedSimpArgs false
namespace Go.Sp
open Go.RowKit Go.ChangeShapes Go.WideShapes Go.Deep Go.Proofs.YtoaneipjcfeinaaW.PrintWords
/-- Whatever reads as data of a type reads as a kind; Q is known of it. -/
def Opens {α : Type} (P : Program) (t : TypeId) (d : Kd α) (Q : α → Prop) : Prop :=
  ∀ (H : Type) (enc : TypeId × Value → H) (w : World) (base : Nat) (spare : Nat → Bool) (held : Bool) (fuel : Nat) (cs : List Value) (x : DataW H × List MemPlace), DataW.trod enc P w base spare held fuel t cs = some x → ∃ y, d.K w y cs ∧ Q y
theorem opens_int {P : Program} {t : TypeId} {k : IntKind} (ht : P.underlying t = some (.int k)) : Opens P t (Kd.int k) (fun n => (Lit.int k n).wf = true) := by
  intro H enc w base spare held fuel cs x h
  obtain ⟨n, rfl, _, hw⟩ := DataW.trod_int ht h
  exact ⟨n, rfl, hw⟩
theorem opens_bool {P : Program} {t : TypeId} (ht : P.underlying t = some .bool) : Opens P t Kd.bool (fun _ => True) := by
  intro H enc w base spare held fuel cs x h
  obtain ⟨n, rfl, _⟩ := DataW.trod_bool ht h
  exact ⟨n, rfl, trivial⟩
theorem opens_string {P : Program} {t : TypeId} (ht : P.underlying t = some .string) : Opens P t Kd.string (fun s => s.size ≤ maxLen) := by
  intro H enc w base spare held fuel cs x h
  obtain ⟨s, rfl, _, hs⟩ := DataW.trod_string ht h
  exact ⟨s, rfl, hs⟩
theorem opens_iso {α β : Type} {P : Program} {t : TypeId} {d : Kd α} {Q : α → Prop} (h : Opens P t d Q) (f : β → α) (g : α → β) (hfg : ∀ x, f (g x) = x) : Opens P t (Kd.iso d f) (fun y => Q (f y)) := by
  intro H enc w base spare held fuel cs x hx
  obtain ⟨y, h1, h2⟩ := h H enc w base spare held fuel cs x hx
  exact ⟨g y, by show d.K w (f (g y)) cs; rw [hfg]; exact h1, by show Q (f (g y)); rw [hfg]; exact h2⟩
theorem opens_slice {α : Type} {P : Program} {t e : TypeId} {d : Kd α} {Q : α → Prop} (ht : P.underlying t = some (.slice e)) (hs : P.cellsOf e = d.sz) (h : Opens P e d Q) :
    Opens P t (Kd.slice e d) (fun l => (∀ y ∈ l, Q y) ∧ l.length ≤ maxLen) := by
  intro H enc w base spare held fuel cs x hx
  rcases open_slice ht hx with ⟨rfl, _⟩ | ⟨a, len, cap, m, n, D, Pl, rfl, _, hlc, hcm, hm, _, hi⟩
  · exact ⟨[], ⟨none, 0, rfl, Nat.le_refl _, rfl, by simp, fun h => absurd h (by simp)⟩, by simp, by simp [maxLen]⟩
  · have hml : len ≤ m := by rw [hm]; split <;> omega
    have key : ∀ k, k ≤ len → ∃ l : List α, l.length = k ∧ (∀ y ∈ l, Q y) ∧ ∀ j p, l[j]? = some p → ∃ c, c.length = d.sz ∧ d.K w p c ∧ ∀ i u, c[i]? = some u → w.cell? (a.add (j * d.sz + i)) = some u := by
      intro k
      induction k with
      | zero => intro _; exact ⟨[], rfl, by simp, by simp⟩
      | succ k ih =>
        intro hk
        obtain ⟨l, h1, h2, h3⟩ := ih (by omega)
        obtain ⟨cs', hc, ht'⟩ := hi k (by omega)
        obtain ⟨y, hy, hq⟩ := h H enc w base spare held n cs' _ ht'
        obtain ⟨_, hcl, hat⟩ := World.cells?_some hc
        refine ⟨l ++ [y], by simp [h1], fun z hz => ?_, fun j p hj => ?_⟩
        · rcases List.mem_append.1 hz with hz | hz
          · exact h2 z hz
          · rw [List.mem_singleton.1 hz]; exact hq
        · rcases Nat.lt_or_ge j l.length with hjl | hjl
          · rw [List.getElem?_append_left hjl] at hj
            exact h3 j p hj
          · have hj' : j = l.length := by
              have := (List.getElem?_eq_some_iff.1 hj).1
              simp at this
              omega
            subst hj'
            simp at hj
            subst hj
            refine ⟨cs', by rw [hcl, hs], hy, fun i u hu => ?_⟩
            have hil : i < cs'.length := (List.getElem?_eq_some_iff.1 hu).1
            have := hat i (by omega)
            rw [h1, ← hs, ← hu, ← this]
            congr 1
            unfold Addr.add
            by_cases g1 : k * P.cellsOf e = 0 <;> by_cases g2 : i = 0 <;> simp [g1, g2, Nat.add_assoc]
    obtain ⟨l, h1, h2, h3⟩ := key len (Nat.le_refl _)
    refine ⟨l, ⟨some a, cap, by rw [h1], by omega, rfl, by simp only [maxLen] at hcm; omega, fun _ => ⟨a, rfl, h3⟩⟩, h2, by omega⟩
/-- Fields, one behind the other. -/
def OpensL {α : Type} (P : Program) (ts : List TypeId) (d : Kd α) (Q : α → Prop) : Prop :=
  ∀ (H : Type) (enc : TypeId × Value → H) (w : World) (base : Nat) (spare : Nat → Bool) (held : Bool) (css : List (List Value)), css.length = ts.length →
    (∀ (i : Nat) (t : TypeId) (c : List Value), ts[i]? = some t → css[i]? = some c → ∃ fuel x, DataW.trod enc P w base spare held fuel t c = some x) → ∃ y, d.K w y css.flatten ∧ Q y
theorem opensL_one {α : Type} {P : Program} {t : TypeId} {d : Kd α} {Q : α → Prop} (h : Opens P t d Q) : OpensL P [t] d Q := by
  intro H enc w base spare held css hl hx
  match css, hl with
  | [c], _ =>
    obtain ⟨fuel, x, hx⟩ := hx 0 t c rfl rfl
    simpa using h H enc w base spare held fuel c x hx
theorem opensL_cons {α β : Type} {P : Program} {t : TypeId} {ts : List TypeId} {a : Kd α} {b : Kd β} {Qa : α → Prop} {Qb : β → Prop} (h : Opens P t a Qa) (h' : OpensL P ts b Qb) : OpensL P (t :: ts) (Kd.pair a b) (fun y => Qa y.1 ∧ Qb y.2) := by
  intro H enc w base spare held css hl hx
  match css, hl with
  | c :: r, hl =>
    obtain ⟨fuel, x, hx0⟩ := hx 0 t c rfl rfl
    obtain ⟨y, h1, h2⟩ := h H enc w base spare held fuel c x hx0
    obtain ⟨z, h3, h4⟩ := h' H enc w base spare held r (by simpa using hl) (fun i t c g1 g2 => hx (i + 1) t c (by simpa using g1) (by simpa using g2))
    exact ⟨(y, z), ⟨c, r.flatten, rfl, h1, h3⟩, h2, h4⟩
/-- A struct's fields lie one behind the other, without gaps. -/
def offsOk (P : Program) : List Field → Nat → Nat → Bool
  | [], o, n => o == n
  | f :: r, o, n => f.offset == o && offsOk P r (o + P.cellsOf f.type) n
theorem opens_struct {α : Type} {P : Program} {t : TypeId} {fs : Array Field} {d : Kd α} {Q : α → Prop} (ht : P.underlying t = some (.struct fs)) (hok : offsOk P fs.toList 0 (P.cellsOf t) = true) (h : OpensL P (fs.toList.map (·.type)) d Q) : Opens P t d Q := by
  intro H enc w base spare held fuel cs x hx
  obtain ⟨xs, n, _, _, hlen, hxl, hf⟩ := DataW.trod_struct ht hx
  have key : ∀ (l : List Field) (o : Nat), offsOk P l o (P.cellsOf t) = true → (l.map fun f => (cs.drop f.offset).take (P.cellsOf f.type)).flatten = cs.drop o := by
    intro l
    induction l with
    | nil =>
      intro o ho
      have : o = P.cellsOf t := by simpa [offsOk] using ho
      rw [this, ← hlen]
      simp
    | cons f r ih =>
      intro o ho
      simp only [offsOk, Bool.and_eq_true, beq_iff_eq] at ho
      rw [List.map_cons, List.flatten_cons, ih _ ho.2, ho.1, ← List.drop_drop, List.take_append_drop]
  have hk := key fs.toList 0 hok
  rw [List.drop_zero] at hk
  rw [← hk]
  refine h H enc w base spare held _ (by simp) (fun i t' c g1 g2 => ?_)
  rw [List.getElem?_map] at g1 g2
  obtain ⟨f, hf1, rfl⟩ := Option.map_eq_some_iff.1 g1
  rw [hf1] at g2
  simp only [Option.map_some, Option.some.injEq] at g2
  have hfa : fs[i]? = some f := by simpa using hf1
  have := hf i f hfa
  have hil : i < xs.length := by rw [hxl]; exact (Array.getElem?_eq_some_iff.1 hfa).1
  rw [List.getElem?_eq_getElem hil, g2] at this
  exact ⟨n, _, this⟩
end Go.Sp
