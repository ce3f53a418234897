/- Maps that a call makes, as lists of entries, and what look-ups and stores do to them: words of this session, proved for any program. -/
import Derived.MapKept
import Derived.Test.YtoaneipjcfeinaaSep
import Derived.Below
import Derived.Deep.Draws
import Derived.WideKeyRuns
import Derived.WideLaws
set_option linter.unusedVariables false
set_option linter.unusedSimpArgs false
set_option linter.unusedSectionVars false
namespace Go.Sp
open Go.RowKit
/-- One object of memory is another. -/
def World.put (w : World) (r : Nat) (o : Obj) : World := { w with heap := w.heap.setIfInBounds r o }
section
variable (w : World) (r : Nat) (o o' : Obj)
theorem put_drew : World.put w.drew r o = (World.put w r o).drew := rfl
theorem put_drewN (n : Nat) : World.put (w.drewN n) r o = (World.put w r o).drewN n := rfl
theorem put_size : (World.put w r o).heap.size = w.heap.size := by simp [World.put]
theorem put_same (h : w.heap[r]? = some o') : (World.put w r o).heap[r]? = some o := by
  have hlt : r < w.heap.size := (Array.getElem?_eq_some_iff.1 h).1
  simp [World.put, hlt]
theorem put_other (k : Nat) (h : k ≠ r) : (World.put w r o).heap[k]? = w.heap[k]? := by
  simp [World.put, Ne.symm h]
theorem put_put : World.put (World.put w r o) r o' = World.put w r o' := by
  simp [World.put]
theorem put_cell (a : Addr) (h : a.block ≠ r) : (World.put w r o).cell? a = w.cell? a := World.cell?_of_block (w := w) (put_other w r o a.block h)
theorem put_frozen (a : Addr) (h : a.block ≠ r) : (World.put w r o).frozen? a = w.frozen? a := World.frozen?_of_block (w := w) (put_other w r o a.block h)
end

/-- A map's entries: the key, the number by it, when it came. -/
def ents {α : Type} (enc : α → Value) (E : List (α × Int × Nat)) : List MapEntry := E.map fun x => { key := enc x.1, val := .int .i64 x.2.1, born := x.2.2 }
def mapO {α : Type} (enc : α → Value) (E : List (α × Int × Nat)) (clock : Nat) : Obj := .map (ents enc E).toArray clock
def lookE {α : Type} [DecidableEq α] (x : α) : List (α × Int × Nat) → Nat → Option (Nat × Value)
  | [], _ => none
  | e :: r, i => if x = e.1 then some (i, .int .i64 e.2.1) else lookE x r (i + 1)
def getE {α : Type} [DecidableEq α] (x : α) : List (α × Int × Nat) → Int
  | [] => 0
  | e :: r => if x = e.1 then e.2.1 else getE x r
def memE {α : Type} [DecidableEq α] (x : α) : List (α × Int × Nat) → Bool
  | [] => false
  | e :: r => if x = e.1 then true else memE x r
def bornE {α : Type} [DecidableEq α] (x : α) : List (α × Int × Nat) → Nat
  | [] => 0
  | e :: r => if x = e.1 then e.2.2 else bornE x r
/-- A number laid by a key that is there. -/
def setE {α : Type} [DecidableEq α] (x : α) (v : Int) : List (α × Int × Nat) → List (α × Int × Nat)
  | [] => []
  | e :: r => if x = e.1 then (e.1, v, e.2.2) :: r else e :: setE x v r
structure KeyOK {α : Type} [DecidableEq α] (P : Program) (kt : TypeId) (enc : α → Value) : Prop where
  chk : ∀ (e : Bool) (x : α) (w : World), (Instr.checkKey e 10000 kt (enc x)).run P w = .ok () w
  find : ∀ (x : α) (E : List (α × Int × Nat)) (w : World), (Instr.findKey kt (enc x) (ents enc E)).run P w = .ok (lookE x E 0) w
  same : ∀ x : α, Instr.sameBits 10000 (enc x) (enc x) = true
  inj : ∀ x y : α, enc x = enc y → x = y
section
variable {α : Type} [DecidableEq α] {P : Program} {kt mt et : TypeId} {enc : α → Value}
theorem lookE_mem (x : α) : ∀ (E : List (α × Int × Nat)) (i : Nat), lookE x E i = if memE x E then some (i + (E.findIdx fun e => x = e.1), .int .i64 (getE x E)) else none
  | [], i => by simp [lookE, memE]
  | e :: r, i => by
    unfold lookE memE getE
    by_cases h : x = e.1
    · simp [h, List.findIdx_cons]
    · simp only [h, if_false, lookE_mem x r (i + 1), List.findIdx_cons, decide_false, cond_false]
      split
      · simp; omega
      · rfl
theorem run_lookup_E (K : KeyOK P kt enc) (hm : P.underlying mt = some (.map kt et)) (hz : ∀ w, (zeroValue et).run P w = .ok (.int .i64 0) w) {w : World} {r : Nat} {E : List (α × Int × Nat)} {c : Nat} (hb : w.heap[r]? = some (mapO enc E c)) (x : α) :
    (Instr.lookup mt (.map (some r)) (enc x) false).run P w = .ok (.int .i64 (getE x E)) w := by
  have hg : (getObj r).run P w = .ok (mapO enc E c) w := by simp [getObj, Sem.run, hb, mapO]
  have hx : getE x E = if memE x E then getE x E else 0 := by
    split
    · rfl
    · rename_i h
      clear hb hg
      induction E with
      | nil => rfl
      | cons e t ih =>
        unfold getE
        unfold memE at h
        split at h
        · simp at h
        · rename_i h2
          rw [if_neg h2]
          exact ih h
  unfold Instr.lookup
  simp only [Sem.run_bind, run_underlying hm, Result.andThen, hg, mapO, Sem.run_pure, K.chk, List.toList_toArray, K.find, lookE_mem]
  by_cases h : memE x E = true
  · simp [h]
  · simp only [Bool.not_eq_true] at h
    rw [hx]
    simp [h, Sem.run_bind, hz, Result.andThen]
theorem ents_get (E : List (α × Int × Nat)) (i : Nat) : (ents enc E)[i]? = (E[i]?).map fun x => { key := enc x.1, val := .int .i64 x.2.1, born := x.2.2 } := by simp [ents]
theorem findIdx_lt (x : α) : ∀ (E : List (α × Int × Nat)), memE x E = true → ∃ e, E[E.findIdx fun e => x = e.1]? = some e ∧ x = e.1 ∧ e.2.1 = getE x E ∧ e.2.2 = bornE x E
  | [], h => by simp [memE] at h
  | e :: r, h => by
    unfold memE at h
    unfold getE bornE
    by_cases hx : x = e.1
    · exact ⟨e, by simp [List.findIdx_cons, hx], hx, by rw [if_pos hx], by rw [if_pos hx]⟩
    · rw [if_neg hx] at h
      obtain ⟨e', h1, h2, h3, h4⟩ := findIdx_lt x r h
      exact ⟨e', by simp [List.findIdx_cons, hx, h1], h2, by rw [if_neg hx]; exact h3, by rw [if_neg hx]; exact h4⟩
/-- The entry of a key that is there. -/
theorem run_mapEntry_in (K : KeyOK P kt enc) (hm : P.underlying mt = some (.map kt et)) {w : World} {r : Nat} {E : List (α × Int × Nat)} {c : Nat} (hb : w.heap[r]? = some (mapO enc E c)) (x : α) (hx : memE x E = true) :
    (Instr.mapEntry mt (.map (some r)) (enc x)).run P w = .ok (.tuple #[.int .i64 (getE x E), .int .i64 (bornE x E)]) (World.put w r (mapO enc E c)) := by
  have hg : (getObj r).run P w = .ok (mapO enc E c) w := by simp [getObj, Sem.run, hb, mapO]
  have hs : ∀ o, (setObj r o).run P w = .ok () (World.put w r o) := fun o => by simp [setObj, Sem.run, hb, World.put, mapO]
  obtain ⟨e, h1, h2, h3, h4⟩ := findIdx_lt x E hx
  have hk : (Instr.keyThatStays (enc e.1) (enc x)).run P w = .ok (enc x) w := by rw [← h2]; simp [Instr.keyThatStays, K.same]
  have hmod : (ents enc E).toArray.modify (E.findIdx fun e => x = e.1) (fun m => { m with key := enc x }) = (ents enc E).toArray := by
    apply Array.ext_getElem?
    intro i
    rw [Array.getElem?_modify]
    split
    · rename_i hi
      subst hi
      simp only [List.getElem?_toArray, ents_get, h1, Option.map_some, ← h2]
    · rfl
  unfold Instr.mapEntry
  simp only [Sem.run_bind, run_underlying hm, Result.andThen, hg, mapO, Sem.run_pure, K.chk, List.toList_toArray, K.find, lookE_mem, hx, if_true, Nat.zero_add, List.getElem?_toArray, ents_get, h1, Option.map_some, Option.getD_some, hk]
  rw [← h2] at hk
  simp only [hk, Result.andThen, hmod]
  rw [h4]
  simp only [hs, Sem.run_bind, Result.andThen, Sem.run_pure, goInt]
/-- The entry of a key that is not there: it comes, with nothing by it. -/
theorem run_mapEntry_out (K : KeyOK P kt enc) (hm : P.underlying mt = some (.map kt et)) (hz : ∀ w, (zeroValue et).run P w = .ok (.int .i64 0) w) {w : World} {r : Nat} {E : List (α × Int × Nat)} {c : Nat} (hb : w.heap[r]? = some (mapO enc E c)) (x : α) (hx : memE x E = false) :
    (Instr.mapEntry mt (.map (some r)) (enc x)).run P w = .ok (.tuple #[.int .i64 0, .int .i64 c]) (World.put w r (mapO enc (E ++ [(x, 0, c)]) (c + 1))) := by
  have hg : (getObj r).run P w = .ok (mapO enc E c) w := by simp [getObj, Sem.run, hb, mapO]
  have hs : ∀ o, (setObj r o).run P w = .ok () (World.put w r o) := fun o => by simp [setObj, Sem.run, hb, World.put, mapO]
  have hp : (ents enc E).toArray.push { key := enc x, val := .int .i64 0, born := c } = (ents enc (E ++ [(x, 0, c)])).toArray := by simp [ents]
  unfold Instr.mapEntry
  simp only [Sem.run_bind, run_underlying hm, Result.andThen, hg, mapO, Sem.run_pure, K.chk, List.toList_toArray, K.find, lookE_mem, hx, Bool.false_eq_true, if_false, hz, hp, hs, goInt]
/-- What a store by a key makes of the entries, and of the count of those that ever came. -/
def updE {α : Type} [DecidableEq α] (x : α) (v : Int) (E : List (α × Int × Nat)) (c : Nat) : List (α × Int × Nat) := if memE x E then setE x v E else E ++ [(x, v, c)]
def updC {α : Type} [DecidableEq α] (x : α) (E : List (α × Int × Nat)) (c : Nat) : Nat := if memE x E then c else c + 1
theorem modify_setE (x : α) (v : Int) : ∀ E : List (α × Int × Nat), memE x E = true → (ents enc E).modify (E.findIdx fun e => x = e.1) (fun e => { e with key := enc x, val := .int .i64 v }) = ents enc (setE x v E)
  | [], h => by simp [memE] at h
  | e :: r, h => by
    unfold memE at h
    by_cases hx : x = e.1
    · simp [ents, setE, hx, List.findIdx_cons]
    · rw [if_neg hx] at h
      have := modify_setE x v r h
      have h1 : setE x v (e :: r) = e :: setE x v r := by simp [setE, hx]
      have h2 : (e :: r).findIdx (fun e => decide (x = e.1)) = r.findIdx (fun e => decide (x = e.1)) + 1 := by simp [List.findIdx_cons, hx]
      rw [h1, h2]
      show List.modify ({ key := enc e.1, val := .int .i64 e.2.1, born := e.2.2 } :: ents enc r) _ _ = _
      rw [List.modify_succ_cons, this]
      rfl
theorem run_mapUpdate_E (K : KeyOK P kt enc) (hm : P.underlying mt = some (.map kt et)) {w : World} {r : Nat} {E : List (α × Int × Nat)} {c : Nat} (hb : w.heap[r]? = some (mapO enc E c)) (x : α) (v : Int) :
    (Instr.mapUpdate mt (.map (some r)) (enc x) (.int .i64 v)).run P w = .ok () (World.put w r (mapO enc (updE x v E c) (updC x E c))) := by
  have hg : (getObj r).run P w = .ok (mapO enc E c) w := by simp [getObj, Sem.run, hb, mapO]
  have hs : ∀ o, (setObj r o).run P w = .ok () (World.put w r o) := fun o => by simp [setObj, Sem.run, hb, World.put, mapO]
  unfold Instr.mapUpdate updE updC
  by_cases hx : memE x E = true
  · obtain ⟨e, h1, h2, h3, h4⟩ := findIdx_lt x E hx
    have hk : (Instr.keyThatStays (enc x) (enc x)).run P w = .ok (enc x) w := by simp [Instr.keyThatStays, K.same]
    simp only [Sem.run_bind, run_underlying hm, Result.andThen, hg, mapO, Sem.run_pure, K.chk, List.toList_toArray, K.find, lookE_mem, hx, if_true, Nat.zero_add, List.getElem?_toArray, ents_get, h1, Option.map_some, Option.getD_some, ← h2, hk, List.modify_toArray, modify_setE x v E hx, hs]
  · simp only [Bool.not_eq_true] at hx
    have hp : (ents enc E).toArray.push { key := enc x, val := .int .i64 v, born := c } = (ents enc (E ++ [(x, v, c)])).toArray := by simp [ents]
    simp only [Sem.run_bind, run_underlying hm, Result.andThen, hg, mapO, Sem.run_pure, K.chk, List.toList_toArray, K.find, lookE_mem, hx, Bool.false_eq_true, if_false, hp, hs]
theorem run_entryStore_E (x : α) {w : World} {r : Nat} {E : List (α × Int × Nat)} {c : Nat} (hb : w.heap[r]? = some (mapO enc E c)) (v : Int) (hx : memE x E = true) (hu : (E.map fun e => e.2.2).Nodup) :
    (Instr.entryStore mt (.map (some r)) (.int .i64 (bornE x E)) (.int .i64 v)).run P w = .ok () (World.put w r (mapO enc (setE x v E) c)) := by
  have hg : (getObj r).run P w = .ok (mapO enc E c) w := by simp [getObj, Sem.run, hb, mapO]
  have hs : ∀ o, (setObj r o).run P w = .ok () (World.put w r o) := fun o => by simp [setObj, Sem.run, hb, World.put, mapO]
  have key : ∀ E : List (α × Int × Nat), memE x E = true → (E.map fun e => e.2.2).Nodup → ∃ i, (ents enc E).findIdx? (fun e => (e.born : Int) == (bornE x E : Int)) = some i ∧ (ents enc E).modify i (fun e => { e with val := .int .i64 v }) = ents enc (setE x v E) := by
    intro E
    induction E with
    | nil => intro h; simp [memE] at h
    | cons e t ih =>
      intro h hn
      unfold memE at h
      by_cases hxe : x = e.1
      · refine ⟨0, ?_, ?_⟩
        · simp [ents, bornE, hxe, List.findIdx?_cons]
        · simp [ents, setE, hxe]
      · rw [if_neg hxe] at h
        simp only [List.map_cons, List.nodup_cons] at hn
        obtain ⟨i, h1, h2⟩ := ih h hn.2
        have hne : e.2.2 ≠ bornE x t := by
          obtain ⟨e', g1, _, _, g4⟩ := findIdx_lt x t h
          intro hh
          refine hn.1 ?_
          rw [hh, ← g4]
          exact List.mem_map.2 ⟨e', List.mem_of_getElem? g1, rfl⟩
        refine ⟨i + 1, ?_, ?_⟩
        · have hb : bornE x (e :: t) = bornE x t := by simp [bornE, hxe]
          rw [hb]
          have hd : (((e.2.2 : Nat) : Int) == (bornE x t : Int)) = false := by rw [beq_eq_false_iff_ne]; omega
          show List.findIdx? _ ({ key := enc e.1, val := .int .i64 e.2.1, born := e.2.2 } :: ents enc t) = _
          rw [List.findIdx?_cons, hd, h1]
          rfl
        · have : setE x v (e :: t) = e :: setE x v t := by simp [setE, hxe]
          rw [this]
          show List.modify ({ key := enc e.1, val := .int .i64 e.2.1, born := e.2.2 } :: ents enc t) (i + 1) _ = _
          rw [List.modify_succ_cons, h2]
          rfl
  obtain ⟨i, h1, h2⟩ := key E hx hu
  have ha : ∀ b : Int, (asInt (.int .i64 b)).run P w = .ok b w := fun _ => rfl
  unfold Instr.entryStore
  simp only [Sem.run_bind, Result.andThen, hg, mapO, Sem.run_pure, ha, List.findIdx?_toArray, h1, List.modify_toArray, h2, hs]
end
end Go.Sp
namespace Go.Sp
open Go.RowKit
theorem findNow_E {α : Type} [DecidableEq α] {enc : α → Value} {d : TypeDesc} (h : ∀ x y : α, Instr.sameNow d (enc x) (enc y) = some (decide (x = y))) (x : α) : ∀ (E : List (α × Int × Nat)) (i : Nat), Instr.findNow d (enc x) (ents enc E) i = some (lookE x E i)
  | [], i => rfl
  | e :: r, i => by
    show Instr.findNow d (enc x) ({ key := enc e.1, val := .int .i64 e.2.1, born := e.2.2 } :: ents enc r) i = _
    unfold Instr.findNow lookE
    rw [h]
    by_cases hx : x = e.1
    · simp [hx]
    · simp only [hx, decide_false, if_false]
      exact findNow_E h x r (i + 1)
theorem keyOK_string {P : Program} {kt : TypeId} (hk : P.underlying kt = some .string) : KeyOK P kt Value.string where
  chk := fun e x w => by
    unfold Instr.checkKey
    simp [Sem.run_bind, run_underlying hk, Result.andThen]
  find := fun x E w => by
    simp only [Instr.findKey, Sem.run_bind, run_underlying hk, Result.andThen]
    rw [findNow_E (d := .string) (fun x y => by simp only [Instr.sameNow]; congr 1; rw [Bool.eq_iff_iff, decide_eq_true_iff]; exact ⟨fun h => by cases x; cases y; rename_i a b; have : (a == b) = true := h; rw [beq_iff_eq] at this; rw [this], fun h => by subst h; cases x; rename_i a; show (a == a) = true; simp⟩)]
    rfl
  same := fun x => by
    unfold Instr.sameBits
    cases x; rename_i a; show (a == a) = true; simp
  inj := fun x y h => by injection h
theorem keyOK_int {P : Program} {kt : TypeId} (hk : P.underlying kt = some (.int .i64)) : KeyOK P kt (Value.int .i64) where
  chk := fun e x w => by
    unfold Instr.checkKey
    simp [Sem.run_bind, run_underlying hk, Result.andThen]
  find := fun x E w => by
    simp only [Instr.findKey, Sem.run_bind, run_underlying hk, Result.andThen]
    rw [findNow_E (d := .int .i64) (fun x y => by simp only [Instr.sameNow, if_true]; congr 1)]
    rfl
  same := fun x => by unfold Instr.sameBits; simp
  inj := fun x y h => by injection h
end Go.Sp
namespace Go.Sp
def firstsF {α : Type} [DecidableEq α] (l : List α) : List α := l.foldl (fun o v => if v ∈ o then o else o ++ [v]) []
theorem firstsF_mem {α : Type} [DecidableEq α] (l : List α) (x : α) : x ∈ firstsF l ↔ x ∈ l := by
  have key : ∀ (l : List α) (o : List α), x ∈ l.foldl (fun o v => if v ∈ o then o else o ++ [v]) o ↔ x ∈ o ∨ x ∈ l := by
    intro l
    induction l with
    | nil => intro o; simp
    | cons a t ih =>
      intro o
      rw [List.foldl_cons, ih]
      split
      · rename_i h
        constructor
        · rintro (h1 | h1)
          · exact .inl h1
          · exact .inr (List.mem_cons_of_mem _ h1)
        · rintro (h1 | h1)
          · exact .inl h1
          · rcases List.mem_cons.1 h1 with rfl | h1
            · exact .inl h
            · exact .inr h1
      · simp [or_assoc]
  simpa [firstsF] using key l []
theorem firstsF_snoc {α : Type} [DecidableEq α] (l : List α) (v : α) : firstsF (l ++ [v]) = if v ∈ l then firstsF l else firstsF l ++ [v] := by
  have h := firstsF_mem l v
  unfold firstsF at *
  rw [List.foldl_append]
  simp only [List.foldl_cons, List.foldl_nil]
  by_cases hv : v ∈ l
  · rw [if_pos hv, if_pos (h.2 hv)]
  · rw [if_neg hv, if_neg (fun g => hv (h.1 g))]
theorem firstsF_len {α : Type} [DecidableEq α] (l : List α) : (firstsF l).length ≤ l.length := by
  have key : ∀ (l : List α) (o : List α), (l.foldl (fun o v => if v ∈ o then o else o ++ [v]) o).length ≤ o.length + l.length := by
    intro l
    induction l with
    | nil => intro o; simp
    | cons a t ih =>
      intro o
      rw [List.foldl_cons]
      have h1 := ih (if a ∈ o then o else o ++ [a])
      have h2 : (if a ∈ o then o else o ++ [a]).length ≤ o.length + 1 := by split <;> simp
      rw [List.length_cons]
      omega
  simpa [firstsF] using key l []
/-- The entries count what was met. -/
structure Counts {α : Type} [DecidableEq α] (E : List (α × Int × Nat)) (c : Nat) (l : List α) : Prop where
  get : ∀ x, getE x E = (l.count x : Int)
  mem : ∀ x, memE x E = true ↔ x ∈ l
  nod : (E.map fun e => e.2.2).Nodup
  lt : ∀ e ∈ E, e.2.2 < c
theorem getE_setE {α : Type} [DecidableEq α] (x y : α) (v : Int) : ∀ E : List (α × Int × Nat), memE x E = true → getE y (setE x v E) = if x = y then v else getE y E
  | [], h => by simp [memE] at h
  | e :: r, h => by
    unfold memE at h
    unfold setE
    by_cases hx : x = e.1
    · rw [if_pos hx]
      unfold getE
      by_cases hy : y = e.1
      · rw [if_pos hy, if_pos (hx.trans hy.symm)]
      · rw [if_neg hy, if_neg hy, if_neg (fun (g : x = y) => hy (g ▸ hx))]
    · rw [if_neg hx] at h ⊢
      unfold getE
      by_cases hy : y = e.1
      · rw [if_pos hy, if_pos hy, if_neg (fun (g : x = y) => hx (g ▸ hy))]
      · rw [if_neg hy, if_neg hy]
        exact getE_setE x y v r h
theorem memE_setE {α : Type} [DecidableEq α] (x y : α) (v : Int) : ∀ E : List (α × Int × Nat), memE y (setE x v E) = memE y E
  | [] => rfl
  | e :: r => by
    unfold setE
    split
    · rfl
    · unfold memE
      rw [memE_setE x y v r]
theorem born_setE {α : Type} [DecidableEq α] (x : α) (v : Int) : ∀ E : List (α × Int × Nat), (setE x v E).map (fun e => e.2.2) = E.map fun e => e.2.2
  | [] => rfl
  | e :: r => by
    unfold setE
    split
    · rfl
    · rw [List.map_cons, List.map_cons, born_setE x v r]
theorem getE_app {α : Type} [DecidableEq α] (x y : α) (v : Int) (b : Nat) : ∀ E : List (α × Int × Nat), memE x E = false → getE y (E ++ [(x, v, b)]) = if x = y then v else getE y E
  | [], _ => by simp [getE, eq_comm]
  | e :: r, h => by
    unfold memE at h
    by_cases hx : x = e.1
    · rw [if_pos hx] at h; cases h
    · rw [if_neg hx] at h
      show getE y (e :: (r ++ _)) = _
      unfold getE
      by_cases hy : y = e.1
      · rw [if_pos hy, if_pos hy, if_neg (fun (g : x = y) => hx (g ▸ hy))]
      · rw [if_neg hy, if_neg hy]
        exact getE_app x y v b r h
theorem memE_app {α : Type} [DecidableEq α] (x y : α) (v : Int) (b : Nat) : ∀ E : List (α × Int × Nat), memE y (E ++ [(x, v, b)]) = (memE y E || decide (y = x))
  | [] => by simp [memE]
  | e :: r => by
    show memE y (e :: (r ++ _)) = _
    unfold memE
    split
    · rfl
    · exact memE_app x y v b r
theorem Counts.nil {α : Type} [DecidableEq α] : Counts ([] : List (α × Int × Nat)) 0 [] := ⟨fun x => rfl, fun x => by simp [memE], by simp, fun e h => by simp at h⟩
theorem Counts.upd {α : Type} [DecidableEq α] {E : List (α × Int × Nat)} {c : Nat} {l : List α} (h : Counts E c l) (x : α) : Counts (updE x (getE x E + 1) E c) (updC x E c) (l ++ [x]) := by
  unfold updE updC
  by_cases hx : memE x E = true
  · rw [if_pos hx, if_pos hx]
    refine ⟨fun y => ?_, fun y => ?_, by rw [born_setE]; exact h.nod, fun e he => ?_⟩
    · rw [getE_setE _ _ _ _ hx, h.get, h.get, List.count_append, List.count_singleton]
      by_cases hy : x = y
      · subst hy; simp
      · simp [hy]
    · rw [memE_setE, h.mem, List.mem_append, List.mem_singleton]
      exact ⟨.inl, fun g => g.elim id (fun e => e ▸ (h.mem x).1 hx)⟩
    · have : e.2.2 ∈ (setE x (getE x E + 1) E).map fun e => e.2.2 := List.mem_map.2 ⟨e, he, rfl⟩
      rw [born_setE] at this
      obtain ⟨e', h1, h2⟩ := List.mem_map.1 this
      exact h2 ▸ h.lt e' h1
  · simp only [Bool.not_eq_true] at hx
    have hx' : x ∉ l := fun g => by rw [(h.mem x).2 g] at hx; cases hx
    rw [if_neg (by simp [hx]), if_neg (by simp [hx])]
    refine ⟨fun y => ?_, fun y => ?_, ?_, fun e he => ?_⟩
    · rw [getE_app _ _ _ _ _ hx, h.get, h.get, List.count_append, List.count_singleton]
      by_cases hy : x = y
      · subst hy; simp
      · simp [hy]
    · rw [memE_app, Bool.or_eq_true, h.mem, List.mem_append, List.mem_singleton, decide_eq_true_iff]
    · rw [List.map_append, List.nodup_append]
      refine ⟨h.nod, by simp, fun a ha b hb => ?_⟩
      obtain ⟨e, h1, rfl⟩ := List.mem_map.1 ha
      simp at hb
      subst hb
      have := h.lt e h1
      omega
    · rcases List.mem_append.1 he with he | he
      · have := h.lt e he; omega
      · simp at he; subst he; simp
theorem getE_upd {α : Type} [DecidableEq α] (x : α) (v : Int) (E : List (α × Int × Nat)) (c : Nat) : getE x (updE x v E c) = v := by
  unfold updE
  by_cases hx : memE x E = true
  · rw [if_pos hx, getE_setE _ _ _ _ hx, if_pos rfl]
  · simp only [Bool.not_eq_true] at hx
    rw [if_neg (by simp [hx]), getE_app _ _ _ _ _ hx, if_pos rfl]
theorem Counts.bound {α : Type} [DecidableEq α] {E : List (α × Int × Nat)} {c : Nat} {l : List α} (h : Counts E c l) (x : α) : 0 ≤ getE x E ∧ getE x E ≤ l.length := by
  rw [h.get]
  have := List.count_le_length (a := x) (l := l)
  omega
theorem Counts.zero {α : Type} [DecidableEq α] {E : List (α × Int × Nat)} {c : Nat} {l : List α} (h : Counts E c l) (x : α) : getE x E = 0 ↔ x ∉ l := by
  rw [h.get]
  have := List.count_pos_iff (a := x) (l := l)
  constructor
  · intro g hx
    have := this.2 hx
    omega
  · intro g
    rcases Nat.eq_zero_or_pos (List.count x l) with g1 | g1
    · omega
    · exact absurd (this.1 g1) g
theorem Sep.put {w0 w : World} {P : HP} {r : Nat} {o : Obj} (h : Sep w0 w (P * one r o)) (o' : Obj) : Sep w0 (World.put w r o') (P * one r o') :=
  Sep.change h (h.1.trans ⟨rfl, rfl, rfl, by rw [put_size]; exact Nat.le_refl _, fun k hk => put_other _ _ _ _ (by have := h.one_at.2; omega)⟩) (by rw [put_size]; exact Nat.le_refl _) (put_same _ _ _ _ h.one_at.1) (fun k _ hk => put_other _ _ _ _ hk)
end Go.Sp
