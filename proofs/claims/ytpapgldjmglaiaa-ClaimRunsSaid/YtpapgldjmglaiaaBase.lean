/-
  Words for blocks of memory, frames and maps: no program in sight.
-/
import Derived.WalkKit
import Derived.WalkSpells
import Derived.WalkLawsBesides
import Derived.Lib.Hide
namespace Go.Proofs.Ytpapgldjmglaiaa
open Go.RowKit

/-- Outside S, and among the blocks that were there, nothing has turned. -/
structure Fr (S : Nat → Prop) (w w' : World) : Prop where
  os : w'.os = w.os
  tape : w'.tape = w.tape
  output : w'.output = w.output
  size : w.heap.size ≤ w'.heap.size
  block : ∀ i, i < w.heap.size → ¬ S i → w'.heap[i]? = w.heap[i]?

section
variable {S S' : Nat → Prop} {w w' w'' : World}
theorem Fr.refl (S : Nat → Prop) (w : World) : Fr S w w := ⟨rfl, rfl, rfl, Nat.le_refl _, fun _ _ _ => rfl⟩
theorem Fr.trans (h : Fr S w w') (k : Fr S w' w'') : Fr S w w'' :=
  ⟨k.os.trans h.os, k.tape.trans h.tape, k.output.trans h.output, Nat.le_trans h.size k.size, fun i hi hs => (k.block i (Nat.lt_of_lt_of_le hi h.size) hs).trans (h.block i hi hs)⟩
theorem Fr.mono (h : Fr S w w') (hs : ∀ i, i < w.heap.size → S i → S' i) : Fr S' w w' :=
  ⟨h.os, h.tape, h.output, h.size, fun i hi hn => h.block i hi (fun x => hn (hs i hi x))⟩
theorem Fr.alloc (h : Fr S w w') (o : Obj) : Fr S w (w'.alloc o) :=
  ⟨h.os, h.tape, h.output, Nat.le_trans h.size (by simp), fun i hi hn => (Below.heap_alloc w' o i (Nat.lt_of_lt_of_le hi h.size)).trans (h.block i hi hn)⟩
theorem Fr.drew (h : Fr S w w') : Fr S w w'.drew := ⟨h.os, h.tape, h.output, h.size, h.block⟩
theorem Fr.drewN (h : Fr S w w') (n : Nat) : Fr S w (w'.drewN n) := ⟨h.os, h.tape, h.output, h.size, h.block⟩
theorem Fr.setCell (h : Fr S w w') (p : Addr) (u : Value) (hp : S p.block ∨ w.heap.size ≤ p.block) : Fr S w (w'.setCell p u) :=
  ⟨h.os, h.tape, h.output, by simpa [World.setCell] using h.size, fun i hi hn => (Below.heap_setCell w' p u i (by
    rintro rfl
    rcases hp with hp | hp
    · exact hn hp
    · omega)).trans (h.block i hi hn)⟩
theorem Fr.of_below {B : Nat} (h : Below B w w') : Fr (fun i => B ≤ i) w w' := ⟨h.os, h.tape, h.output, h.size, fun i _ hn => h.block i (by omega)⟩
theorem Fr.of_new (h : Below w.heap.size w w') (S : Nat → Prop) : Fr S w w' := ⟨h.os, h.tape, h.output, h.size, fun i hi _ => h.block i hi⟩
theorem Fr.of_grown {g : Nat} (h : w.grownBy w' (some g)) : Fr (fun i => i = g) w w' := ⟨h.os, h.tape, h.output, h.size, fun i hi hn => h.block i hi (by simpa using hn)⟩
theorem Fr.below {B : Nat} (h : Fr S w w') (hB : B ≤ w.heap.size) (hs : ∀ i, i < w.heap.size → S i → B ≤ i) : Below B w w' :=
  ⟨h.os, h.tape, h.output, h.size, fun i hi => h.block i (by omega) (fun x => by have := hs i (by omega) x; omega)⟩
end

/-- Block g is just the cells cs of element type t, none frozen. -/
def Blk (w : World) (g : Nat) (t : TypeId) (cs : Array Value) : Prop := w.heap[g]? = some (.cells cs t (0, 0))

section
variable {S : Nat → Prop} {w w' : World} {g : Nat} {t : TypeId} {cs : Array Value}
theorem Blk.lt (h : Blk w g t cs) : g < w.heap.size := by
  rcases Nat.lt_or_ge g w.heap.size with hlt | hge
  · exact hlt
  · unfold Blk at h; rw [Array.getElem?_eq_none hge] at h; cases h
theorem Blk.cell (h : Blk w g t cs) (i : Nat) : w.cell? ⟨g, i, none⟩ = cs[i]? := cell_of_row w g i cs t (0, 0) h
theorem Blk.frozen (h : Blk w g t cs) (i : Nat) : w.frozen? ⟨g, i, none⟩ = false := by
  unfold Blk at h
  simp [World.frozen?, h]
theorem Blk.new (w : World) (t : TypeId) (cs : Array Value) : Blk (w.alloc (.cells cs t)) w.heap.size t cs := heap_alloc_new w _
theorem Blk.alloc (h : Blk w g t cs) (o : Obj) : Blk (w.alloc o) g t cs := (Below.heap_alloc w o g h.lt).trans h
theorem Blk.drew (h : Blk w g t cs) : Blk w.drew g t cs := h
theorem Blk.drewN (h : Blk w g t cs) (n : Nat) : Blk (w.drewN n) g t cs := h
theorem Blk.set_ (h : Blk w g t cs) (i : Nat) (u : Value) : Blk (w.setCell ⟨g, i, none⟩ u) g t (cs.setIfInBounds i u) := by
  unfold Blk at h ⊢
  simp [World.setCell, Array.getElem?_modify, h]
theorem Blk.far (h : Blk w g t cs) {p : Addr} (hp : g ≠ p.block) (u : Value) : Blk (w.setCell p u) g t cs := (Below.heap_setCell w p u g hp).trans h
theorem Blk.below {B : Nat} (h : Blk w g t cs) (hb : Below B w w') (hg : g < B) : Blk w' g t cs := (hb.block g hg).trans h
theorem Blk.fr (h : Blk w g t cs) (hf : Fr S w w') (hg : ¬ S g) : Blk w' g t cs := (hf.block g h.lt hg).trans h
theorem Blk.ne_ {g' : Nat} {t' : TypeId} {cs' : Array Value} (h : Blk w g t cs) (h' : Blk w g' t' cs') (hne : t ≠ t') : g ≠ g' := by
  rintro rfl
  unfold Blk at h h'
  rw [h] at h'
  injection h' with h'
  injection h' with _ ht
  exact hne ht
end

/-- Block r is a map with just these entries. -/
def Mp (w : World) (r : Nat) (es : Array MapEntry) (c : Nat) : Prop := w.heap[r]? = some (.map es c)

section
variable {S : Nat → Prop} {w w' : World} {r c : Nat} {es : Array MapEntry}
theorem Mp.lt (h : Mp w r es c) : r < w.heap.size := by
  rcases Nat.lt_or_ge r w.heap.size with hlt | hge
  · exact hlt
  · unfold Mp at h; rw [Array.getElem?_eq_none hge] at h; cases h
theorem Mp.fr (h : Mp w r es c) (hf : Fr S w w') (hg : ¬ S r) : Mp w' r es c := (hf.block r h.lt hg).trans h
theorem Mp.below {B : Nat} (h : Mp w r es c) (hb : Below B w w') (hg : r < B) : Mp w' r es c := (hb.block r hg).trans h
theorem Mp.new (w : World) (es : Array MapEntry) (c : Nat) : Mp (w.alloc (.map es c)) w.heap.size es c := heap_alloc_new w _
end

/-- A key's kind that is looked for without a question. -/
def plainKind : TypeDesc → Bool
  | .int _ => true
  | .string => true
  | _ => false

section
variable {P : Program} {w : World} {t k e : TypeId} {d : TypeDesc} {r c : Nat} {es : Array MapEntry} {key v : Value}
theorem run_checkKey (hk : P.underlying k = some d) (hd : plainKind d = true) (b : Bool) (n : Nat) (key : Value) (w : World) : (Instr.checkKey b (n + 1) k key).run P w = .ok () w := by
  cases d <;> simp [plainKind] at hd <;> simp [Instr.checkKey, run_underlying hk]
theorem run_lookup_hit (ht : P.underlying t = some (.map k e)) (hk : P.underlying k = some d) (hd : plainKind d = true) (hm : Mp w r es c) {i : Nat} (hf : Instr.findNow d key es.toList 0 = some (some (i, v))) :
    (Instr.lookup t (.map (some r)) key true).run P w = .ok (.tuple #[v, .bool true]) w := by
  unfold Mp at hm
  simp [Instr.lookup, run_underlying ht, getObj, Sem.run, hm, run_checkKey hk hd, Instr.findKey, run_underlying hk, hf]
theorem run_lookup_miss (ht : P.underlying t = some (.map k e)) (hk : P.underlying k = some d) (hd : plainKind d = true) (hm : Mp w r es c) (hf : Instr.findNow d key es.toList 0 = some none) {z : Value} (hz : (zeroValue e).run P w = .ok z w) :
    (Instr.lookup t (.map (some r)) key true).run P w = .ok (.tuple #[z, .bool false]) w := by
  unfold Mp at hm
  simp [Instr.lookup, run_underlying ht, getObj, Sem.run, hm, run_checkKey hk hd, Instr.findKey, run_underlying hk, hf, hz]
theorem run_mapUpdate_new (ht : P.underlying t = some (.map k e)) (hk : P.underlying k = some d) (hd : plainKind d = true) (hm : Mp w r es c) (hf : Instr.findNow d key es.toList 0 = some none) (v : Value) :
    ∃ w', (Instr.mapUpdate t (.map (some r)) key v).run P w = .ok () w' ∧ Mp w' r (es.push ⟨key, v, c⟩) (c + 1) ∧ Fr (fun i => i = r) w w' := by
  have hlt := hm.lt
  unfold Mp at hm
  refine ⟨{ w with heap := w.heap.setIfInBounds r (.map (es.push ⟨key, v, c⟩) (c + 1)) }, ?_, ?_, ?_⟩
  · simp [Instr.mapUpdate, run_underlying ht, getObj, setObj, Sem.run, hm, run_checkKey hk hd, Instr.findKey, run_underlying hk, hf]
  · simp [Mp, hlt]
  · exact ⟨rfl, rfl, rfl, by simp, fun i hi hn => by simp [Ne.symm hn]⟩
theorem wpList_insert_new {ops : Array Oper} {rest : List Oper} {o : Oper} {a : Act} {Q : Exit → Act → World → Prop}
    (hg : o.guard = none) (m x y : Operand) (hop : o.op = Op.insert t m x y) (ht : P.underlying t = some (.map k e)) (hk : P.underlying k = some d) (hd : plainKind d = true)
    (he : a.eval m = .map (some r)) (hx : a.eval x = key) (hy : a.eval y = v) (hm : Mp w r es c) (hf : Instr.findNow d key es.toList 0 = some none)
    (hK : ∀ w', Mp w' r (es.push ⟨key, v, c⟩) (c + 1) → Fr (fun i => i = r) w w' → wpList P ops Q rest (a.put o.dst undef) w') : wpList P ops Q (o :: rest) a w := by
  refine wpList_plain hg fun K hK' => ?_
  obtain ⟨w', hrun, r1, r2⟩ := run_mapUpdate_new ht hk hd hm hf v
  unfold Oper.wp
  simp [execOp, hop, he, hx, hy, hrun, Result.andThen]
  exact hK' _ _ (hK w' r1 r2)
theorem wpList_insert_acc (w0 : World) {ops : Array Oper} {rest : List Oper} {o : Oper} {a : Act} {Q : Exit → Act → World → Prop}
    (hg : o.guard = none) (m x y : Operand) (hop : o.op = Op.insert t m x y) (ht : P.underlying t = some (.map k e)) (hk : P.underlying k = some d) (hd : plainKind d = true)
    (he : a.eval m = .map (some r)) (hx : a.eval x = key) (hy : a.eval y = v) (hm : Mp w r es c) (hf : Instr.findNow d key es.toList 0 = some none)
    (hacc : Below w0.heap.size w0 w) (hr : w0.heap.size ≤ r)
    (hK : ∀ w', Mp w' r (es.push ⟨key, v, c⟩) (c + 1) → Below w0.heap.size w0 w' → wpList P ops Q rest (a.put o.dst undef) w') : wpList P ops Q (o :: rest) a w :=
  wpList_insert_new hg m x y hop ht hk hd he hx hy hm hf fun w' hm' hf' => hK w' hm' (hacc.trans (hf'.below hacc.size (fun i _ h => by omega)))
end

theorem below_drewN {B : Nat} {a w : World} (h : Below B a w) (n : Nat) : Below B a (w.drewN n) := ⟨h.os, h.tape, h.output, h.size, h.block⟩

/-! ### Maps from int to int -/
/-- The entry of a key in a list of entries, with its place. -/
def findL : List (Int × Int) → Int → Nat → Option (Nat × Int)
  | [], _, _ => none
  | x :: l, p, i => if x.1 = p then some (i, x.2) else findL l p (i + 1)
/-- What a map holds at a key. -/
def get : List (Int × Int) → Int → Int
  | [], _ => 0
  | x :: l, p => if x.1 = p then x.2 else get l p

theorem get_of_some : ∀ (l : List (Int × Int)) (p : Int) (i j : Nat) (v : Int), findL l p i = some (j, v) → get l p = v
  | [], _, _, _, _, h => by simp [findL] at h
  | x :: l, p, i, j, v, h => by
    unfold findL at h
    unfold get
    split at h
    · rw [if_pos (by assumption)]; simpa using (Prod.mk.inj (Option.some.inj h)).2
    · rw [if_neg (by assumption)]; exact get_of_some l p (i + 1) j v h
theorem get_of_none : ∀ (l : List (Int × Int)) (p : Int) (i : Nat), findL l p i = none → get l p = 0
  | [], _, _, _ => rfl
  | x :: l, p, i, h => by
    unfold findL at h
    unfold get
    split at h
    · cases h
    · rw [if_neg (by assumption)]; exact get_of_none l p (i + 1) h
theorem not_mem_of_none : ∀ (l : List (Int × Int)) (p : Int) (i : Nat), findL l p i = none → p ∉ l.map (·.1)
  | [], _, _, _ => by simp
  | x :: l, p, i, h => by
    unfold findL at h
    split at h
    · cases h
    · rename_i hn
      have := not_mem_of_none l p (i + 1) h
      simp only [List.map_cons, List.mem_cons, not_or]
      exact ⟨fun e => hn e.symm, this⟩
theorem get_not_mem : ∀ (l : List (Int × Int)) (p : Int), p ∉ l.map (·.1) → get l p = 0
  | [], _, _ => rfl
  | x :: l, p, h => by
    simp only [List.map_cons, List.mem_cons, not_or] at h
    unfold get
    rw [if_neg (fun e => h.1 e.symm)]
    exact get_not_mem l p h.2
theorem findL_place : ∀ (l : List (Int × Int)) (p : Int) (i j : Nat) (v : Int), findL l p i = some (j, v) → i ≤ j ∧ l[j - i]? = some (p, v)
  | [], _, _, _, _, h => by simp [findL] at h
  | x :: l, p, i, j, v, h => by
    unfold findL at h
    split at h
    · rename_i e
      simp only [Option.some.injEq, Prod.mk.injEq] at h
      obtain ⟨rfl, rfl⟩ := h
      exact ⟨Nat.le_refl _, by simp [← e]⟩
    · obtain ⟨h1, h2⟩ := findL_place l p (i + 1) j v h
      refine ⟨by omega, ?_⟩
      rw [show j - i = (j - (i + 1)) + 1 by omega, List.getElem?_cons_succ]
      exact h2
theorem get_set : ∀ (l : List (Int × Int)) (p : Int) (i j : Nat) (v u q : Int), findL l p i = some (j, v) → get (l.set (j - i) (p, u)) q = if q = p then u else get l q
  | [], _, _, _, _, _, _, h => by simp [findL] at h
  | x :: l, p, i, j, v, u, q, h => by
    unfold findL at h
    split at h
    · rename_i e
      simp only [Option.some.injEq, Prod.mk.injEq] at h
      obtain ⟨rfl, rfl⟩ := h
      simp only [Nat.sub_self, List.set_cons_zero, get, e]
      by_cases hq : q = p
      · simp [hq]
      · simp [hq, Ne.symm hq]
    · rename_i hn
      have hp := findL_place l p (i + 1) j v h
      rw [show j - i = (j - (i + 1)) + 1 by omega, List.set_cons_succ]
      unfold get
      by_cases hq : x.1 = q
      · subst hq; simp [hn]
      · simp only [hq, if_false]
        exact get_set l p (i + 1) j v u q h
theorem get_append (l : List (Int × Int)) (p u q : Int) (h : p ∉ l.map (·.1)) : get (l ++ [(p, u)]) q = if q = p then u else get l q := by
  induction l with
  | nil =>
    simp only [List.nil_append, get]
    by_cases hq : q = p
    · simp [hq]
    · simp [hq, Ne.symm hq]
  | cons x l ih =>
    simp only [List.map_cons, List.mem_cons, not_or] at h
    simp only [List.cons_append, get]
    by_cases hq : x.1 = q
    · subst hq; simp [Ne.symm h.1]
    · simp only [hq, if_false]
      exact ih h.2
theorem get_erase : ∀ (l : List (Int × Int)) (p : Int) (i j : Nat) (v q : Int), (l.map (·.1)).Nodup → findL l p i = some (j, v) → get (l.eraseIdx (j - i)) q = if q = p then 0 else get l q
  | [], _, _, _, _, _, _, h => by simp [findL] at h
  | x :: l, p, i, j, v, q, hd, h => by
    simp only [List.map_cons, List.nodup_cons] at hd
    unfold findL at h
    split at h
    · rename_i e
      simp only [Option.some.injEq, Prod.mk.injEq] at h
      obtain ⟨rfl, rfl⟩ := h
      simp only [Nat.sub_self, List.eraseIdx_cons_zero, get, e]
      by_cases hq : q = p
      · subst hq; simp only [if_true]; exact get_not_mem l q (by rw [← e]; exact hd.1)
      · simp [hq, Ne.symm hq]
    · rename_i hn
      have hp := findL_place l p (i + 1) j v h
      rw [show j - i = (j - (i + 1)) + 1 by omega, List.eraseIdx_cons_succ]
      unfold get
      by_cases hq : x.1 = q
      · subst hq; simp [hn]
      · simp only [hq, if_false]
        exact get_erase l p (i + 1) j v q hd.2 h

/-- Block r is a map from int to int with just these entries. -/
def MI (w : World) (r : Nat) (l : List (Int × Int)) : Prop :=
  ∃ (es : Array MapEntry) (c : Nat), Mp w r es c ∧ es.toList.map (fun e => (e.key, e.val)) = l.map (fun x => (Value.int .i64 x.1, Value.int .i64 x.2)) ∧ (l.map (·.1)).Nodup ∧ (es.toList.map (·.born)).Nodup ∧ ∀ e ∈ es.toList, e.born < c

theorem findNow_int (p : Int) : ∀ (es : List MapEntry) (l : List (Int × Int)) (i : Nat), es.map (fun e => (e.key, e.val)) = l.map (fun x => (Value.int .i64 x.1, Value.int .i64 x.2)) →
    Instr.findNow (.int .i64) (.int .i64 p) es i = some ((findL l p i).map fun x => (x.1, .int .i64 x.2))
  | [], [], _, _ => rfl
  | [], _ :: _, _, h => by simp at h
  | _ :: _, [], _, h => by simp at h
  | e :: es, x :: l, i, h => by
    simp only [List.map_cons, List.cons.injEq, Prod.mk.injEq] at h
    obtain ⟨⟨hk, hv⟩, ht⟩ := h
    unfold Instr.findNow findL
    rw [hk, hv]
    by_cases hq : x.1 = p
    · simp [Instr.sameNow, hq]
    · have hq' : (p == x.1) = false := by simpa using fun e => hq e.symm
      simp only [Instr.sameNow, if_true, hq', hq, if_false]
      exact findNow_int p es l (i + 1) ht

section
variable {P : Program} {w w' : World} {t k e : TypeId} {r : Nat} {l : List (Int × Int)} {S : Nat → Prop}
theorem MI.lt (h : MI w r l) : r < w.heap.size := by obtain ⟨es, c, hm, _⟩ := h; exact hm.lt
theorem MI.fr (h : MI w r l) (hf : Fr S w w') (hg : ¬ S r) : MI w' r l := by obtain ⟨es, c, hm, h2⟩ := h; exact ⟨es, c, hm.fr hf hg, h2⟩
theorem MI.below {B : Nat} (h : MI w r l) (hb : Below B w w') (hg : r < B) : MI w' r l := by obtain ⟨es, c, hm, h2⟩ := h; exact ⟨es, c, hm.below hb hg, h2⟩
theorem MI.new (w : World) : MI (w.alloc (.map #[] 0)) w.heap.size [] := ⟨#[], 0, Mp.new w _ _, rfl, by simp, by simp, by simp⟩
theorem MI.lookup (h : MI w r l) (ht : P.underlying t = some (.map k e)) (hk : P.underlying k = some (.int .i64)) (hz : ∀ w : World, (zeroValue e).run P w = .ok (.int .i64 0) w) (p : Int) :
    (Instr.lookup t (.map (some r)) (.int .i64 p) false).run P w = .ok (.int .i64 (get l p)) w := by
  obtain ⟨es, c, hm, hl, _⟩ := h
  have hf := findNow_int p es.toList l 0 hl
  unfold Mp at hm
  cases hg : findL l p 0 with
  | none =>
    rw [hg] at hf
    rw [get_of_none l p 0 hg]
    simp [Instr.lookup, run_underlying ht, getObj, Sem.run, hm, run_checkKey hk rfl, Instr.findKey, run_underlying hk, hf, hz]
  | some x =>
    obtain ⟨j, v⟩ := x
    rw [hg] at hf
    rw [get_of_some l p 0 j v hg]
    simp [Instr.lookup, run_underlying ht, getObj, Sem.run, hm, run_checkKey hk rfl, Instr.findKey, run_underlying hk, hf]
end

end Go.Proofs.Ytpapgldjmglaiaa
