/-
  Words for blocks of memory, frames and maps with string keys: no program in sight.
-/
import Derived.WalkKit
import Derived.WalkSpells
import Derived.WalkLawsBesides
import Derived.Lib.Hide
namespace Go.Proofs.Ytahommgchnbnjaa
open Go.RowKit

/-- Outside S, and among the blocks that were there, nothing has turned. -/
structure Fr (S : Nat → Prop) (w w' : World) : Prop where
  os : w'.os = w.os
  tape : w'.tape = w.tape
  output : w'.output = w.output
  size : w.heap.size ≤ w'.heap.size
  block : ∀ i, i < w.heap.size → ¬ S i → w'.heap[i]? = w.heap[i]?

section
variable {S S' : Nat → Prop} {w w' w'' : World}
theorem Fr.refl (S : Nat → Prop) (w : World) : Fr S w w := ⟨rfl, rfl, rfl, Nat.le_refl _, fun _ _ _ => rfl⟩
theorem Fr.trans (h : Fr S w w') (k : Fr S w' w'') : Fr S w w'' :=
  ⟨k.os.trans h.os, k.tape.trans h.tape, k.output.trans h.output, Nat.le_trans h.size k.size, fun i hi hs => (k.block i (Nat.lt_of_lt_of_le hi h.size) hs).trans (h.block i hi hs)⟩
theorem Fr.mono (h : Fr S w w') (hs : ∀ i, i < w.heap.size → S i → S' i) : Fr S' w w' :=
  ⟨h.os, h.tape, h.output, h.size, fun i hi hn => h.block i hi (fun x => hn (hs i hi x))⟩
theorem Fr.alloc (h : Fr S w w') (o : Obj) : Fr S w (w'.alloc o) :=
  ⟨h.os, h.tape, h.output, Nat.le_trans h.size (by simp), fun i hi hn => (Below.heap_alloc w' o i (Nat.lt_of_lt_of_le hi h.size)).trans (h.block i hi hn)⟩
theorem Fr.drew (h : Fr S w w') : Fr S w w'.drew := ⟨h.os, h.tape, h.output, h.size, h.block⟩
theorem Fr.drewN (h : Fr S w w') (n : Nat) : Fr S w (w'.drewN n) := ⟨h.os, h.tape, h.output, h.size, h.block⟩
theorem Fr.setCell (h : Fr S w w') (p : Addr) (u : Value) (hp : S p.block ∨ w.heap.size ≤ p.block) : Fr S w (w'.setCell p u) :=
  ⟨h.os, h.tape, h.output, by simpa [World.setCell] using h.size, fun i hi hn => (Below.heap_setCell w' p u i (by
    rintro rfl
    rcases hp with hp | hp
    · exact hn hp
    · omega)).trans (h.block i hi hn)⟩
theorem Fr.of_below {B : Nat} (h : Below B w w') : Fr (fun i => B ≤ i) w w' := ⟨h.os, h.tape, h.output, h.size, fun i _ hn => h.block i (by omega)⟩
theorem Fr.of_new (h : Below w.heap.size w w') (S : Nat → Prop) : Fr S w w' := ⟨h.os, h.tape, h.output, h.size, fun i hi _ => h.block i hi⟩
theorem Fr.of_grown {g : Nat} (h : w.grownBy w' (some g)) : Fr (fun i => i = g) w w' := ⟨h.os, h.tape, h.output, h.size, fun i hi hn => h.block i hi (by simpa using hn)⟩
theorem Fr.below {B : Nat} (h : Fr S w w') (hB : B ≤ w.heap.size) (hs : ∀ i, i < w.heap.size → S i → B ≤ i) : Below B w w' :=
  ⟨h.os, h.tape, h.output, h.size, fun i hi => h.block i (by omega) (fun x => by have := hs i (by omega) x; omega)⟩
end

/-- Block g is just the cells cs of element type t, none frozen. -/
def Blk (w : World) (g : Nat) (t : TypeId) (cs : Array Value) : Prop := w.heap[g]? = some (.cells cs t (0, 0))

section
variable {S : Nat → Prop} {w w' : World} {g : Nat} {t : TypeId} {cs : Array Value}
theorem Blk.lt (h : Blk w g t cs) : g < w.heap.size := by
  rcases Nat.lt_or_ge g w.heap.size with hlt | hge
  · exact hlt
  · unfold Blk at h; rw [Array.getElem?_eq_none hge] at h; cases h
theorem Blk.cell (h : Blk w g t cs) (i : Nat) : w.cell? ⟨g, i, none⟩ = cs[i]? := cell_of_row w g i cs t (0, 0) h
theorem Blk.frozen (h : Blk w g t cs) (i : Nat) : w.frozen? ⟨g, i, none⟩ = false := by
  unfold Blk at h
  simp [World.frozen?, h]
theorem Blk.new (w : World) (t : TypeId) (cs : Array Value) : Blk (w.alloc (.cells cs t)) w.heap.size t cs := heap_alloc_new w _
theorem Blk.alloc (h : Blk w g t cs) (o : Obj) : Blk (w.alloc o) g t cs := (Below.heap_alloc w o g h.lt).trans h
theorem Blk.drew (h : Blk w g t cs) : Blk w.drew g t cs := h
theorem Blk.drewN (h : Blk w g t cs) (n : Nat) : Blk (w.drewN n) g t cs := h
theorem Blk.set_ (h : Blk w g t cs) (i : Nat) (u : Value) : Blk (w.setCell ⟨g, i, none⟩ u) g t (cs.setIfInBounds i u) := by
  unfold Blk at h ⊢
  simp [World.setCell, Array.getElem?_modify, h]
theorem Blk.far (h : Blk w g t cs) {p : Addr} (hp : g ≠ p.block) (u : Value) : Blk (w.setCell p u) g t cs := (Below.heap_setCell w p u g hp).trans h
theorem Blk.below {B : Nat} (h : Blk w g t cs) (hb : Below B w w') (hg : g < B) : Blk w' g t cs := (hb.block g hg).trans h
theorem Blk.fr (h : Blk w g t cs) (hf : Fr S w w') (hg : ¬ S g) : Blk w' g t cs := (hf.block g h.lt hg).trans h
theorem Blk.ne_ {g' : Nat} {t' : TypeId} {cs' : Array Value} (h : Blk w g t cs) (h' : Blk w g' t' cs') (hne : t ≠ t') : g ≠ g' := by
  rintro rfl
  unfold Blk at h h'
  rw [h] at h'
  injection h' with h'
  injection h' with _ ht
  exact hne ht
end

/-- Block r is a map with just these entries. -/
def Mp (w : World) (r : Nat) (es : Array MapEntry) (c : Nat) : Prop := w.heap[r]? = some (.map es c)

section
variable {S : Nat → Prop} {w w' : World} {r c : Nat} {es : Array MapEntry}
theorem Mp.lt (h : Mp w r es c) : r < w.heap.size := by
  rcases Nat.lt_or_ge r w.heap.size with hlt | hge
  · exact hlt
  · unfold Mp at h; rw [Array.getElem?_eq_none hge] at h; cases h
theorem Mp.fr (h : Mp w r es c) (hf : Fr S w w') (hg : ¬ S r) : Mp w' r es c := (hf.block r h.lt hg).trans h
theorem Mp.below {B : Nat} (h : Mp w r es c) (hb : Below B w w') (hg : r < B) : Mp w' r es c := (hb.block r hg).trans h
theorem Mp.new (w : World) (es : Array MapEntry) (c : Nat) : Mp (w.alloc (.map es c)) w.heap.size es c := heap_alloc_new w _
end

/-- A key's kind that is looked for without a question. -/
def plainKind : TypeDesc → Bool
  | .int _ => true
  | .string => true
  | _ => false

section
variable {P : Program} {w : World} {t k e : TypeId} {d : TypeDesc} {r c : Nat} {es : Array MapEntry} {key v : Value}
theorem run_checkKey (hk : P.underlying k = some d) (hd : plainKind d = true) (b : Bool) (n : Nat) (key : Value) (w : World) : (Instr.checkKey b (n + 1) k key).run P w = .ok () w := by
  cases d <;> simp [plainKind] at hd <;> simp [Instr.checkKey, run_underlying hk]
theorem run_lookup_hit (ht : P.underlying t = some (.map k e)) (hk : P.underlying k = some d) (hd : plainKind d = true) (hm : Mp w r es c) {i : Nat} (hf : Instr.findNow d key es.toList 0 = some (some (i, v))) :
    (Instr.lookup t (.map (some r)) key true).run P w = .ok (.tuple #[v, .bool true]) w := by
  unfold Mp at hm
  simp [Instr.lookup, run_underlying ht, getObj, Sem.run, hm, run_checkKey hk hd, Instr.findKey, run_underlying hk, hf]
theorem run_lookup_miss (ht : P.underlying t = some (.map k e)) (hk : P.underlying k = some d) (hd : plainKind d = true) (hm : Mp w r es c) (hf : Instr.findNow d key es.toList 0 = some none) {z : Value} (hz : (zeroValue e).run P w = .ok z w) :
    (Instr.lookup t (.map (some r)) key true).run P w = .ok (.tuple #[z, .bool false]) w := by
  unfold Mp at hm
  simp [Instr.lookup, run_underlying ht, getObj, Sem.run, hm, run_checkKey hk hd, Instr.findKey, run_underlying hk, hf, hz]
theorem run_mapUpdate_new (ht : P.underlying t = some (.map k e)) (hk : P.underlying k = some d) (hd : plainKind d = true) (hm : Mp w r es c) (hf : Instr.findNow d key es.toList 0 = some none) (v : Value) :
    ∃ w', (Instr.mapUpdate t (.map (some r)) key v).run P w = .ok () w' ∧ Mp w' r (es.push ⟨key, v, c⟩) (c + 1) ∧ Fr (fun i => i = r) w w' := by
  have hlt := hm.lt
  unfold Mp at hm
  refine ⟨{ w with heap := w.heap.setIfInBounds r (.map (es.push ⟨key, v, c⟩) (c + 1)) }, ?_, ?_, ?_⟩
  · simp [Instr.mapUpdate, run_underlying ht, getObj, setObj, Sem.run, hm, run_checkKey hk hd, Instr.findKey, run_underlying hk, hf]
  · simp [Mp, hlt]
  · exact ⟨rfl, rfl, rfl, by simp, fun i hi hn => by simp [Ne.symm hn]⟩
theorem wpList_insert_new {ops : Array Oper} {rest : List Oper} {o : Oper} {a : Act} {Q : Exit → Act → World → Prop}
    (hg : o.guard = none) (m x y : Operand) (hop : o.op = Op.insert t m x y) (ht : P.underlying t = some (.map k e)) (hk : P.underlying k = some d) (hd : plainKind d = true)
    (he : a.eval m = .map (some r)) (hx : a.eval x = key) (hy : a.eval y = v) (hm : Mp w r es c) (hf : Instr.findNow d key es.toList 0 = some none)
    (hK : ∀ w', Mp w' r (es.push ⟨key, v, c⟩) (c + 1) → Fr (fun i => i = r) w w' → wpList P ops Q rest (a.put o.dst undef) w') : wpList P ops Q (o :: rest) a w := by
  refine wpList_plain hg fun K hK' => ?_
  obtain ⟨w', hrun, r1, r2⟩ := run_mapUpdate_new ht hk hd hm hf v
  unfold Oper.wp
  simp [execOp, hop, he, hx, hy, hrun, Result.andThen]
  exact hK' _ _ (hK w' r1 r2)
theorem wpList_insert_acc (w0 : World) {ops : Array Oper} {rest : List Oper} {o : Oper} {a : Act} {Q : Exit → Act → World → Prop}
    (hg : o.guard = none) (m x y : Operand) (hop : o.op = Op.insert t m x y) (ht : P.underlying t = some (.map k e)) (hk : P.underlying k = some d) (hd : plainKind d = true)
    (he : a.eval m = .map (some r)) (hx : a.eval x = key) (hy : a.eval y = v) (hm : Mp w r es c) (hf : Instr.findNow d key es.toList 0 = some none)
    (hacc : Below w0.heap.size w0 w) (hr : w0.heap.size ≤ r)
    (hK : ∀ w', Mp w' r (es.push ⟨key, v, c⟩) (c + 1) → Below w0.heap.size w0 w' → wpList P ops Q rest (a.put o.dst undef) w') : wpList P ops Q (o :: rest) a w :=
  wpList_insert_new hg m x y hop ht hk hd he hx hy hm hf fun w' hm' hf' => hK w' hm' (hacc.trans (hf'.below hacc.size (fun i _ h => by omega)))
end

theorem below_drewN {B : Nat} {a w : World} (h : Below B a w) (n : Nat) : Below B a (w.drewN n) := ⟨h.os, h.tape, h.output, h.size, h.block⟩

/-! ### Maps with string keys -/
theorem beqs (a : ByteArray) : (a == a) = true := (Go.MapKept.bytes_beq a a).2 rfl
theorem beqs_ne {a b : ByteArray} (h : a ≠ b) : (a == b) = false := by
  cases e : a == b with
  | false => rfl
  | true => exact absurd ((Go.MapKept.bytes_beq a b).1 e) h
section
variable {V : Type}
/-- The entry of a key in a list of entries, with its place. -/
def findG : List (ByteArray × V) → ByteArray → Nat → Option (Nat × V)
  | [], _, _ => none
  | x :: l, p, i => if x.1 = p then some (i, x.2) else findG l p (i + 1)
/-- What a map holds at a key. -/
def getG : List (ByteArray × V) → ByteArray → Option V
  | [], _ => none
  | x :: l, p => if x.1 = p then some x.2 else getG l p

theorem getG_of_find : ∀ (l : List (ByteArray × V)) (p : ByteArray) (i : Nat), getG l p = (findG l p i).map (·.2)
  | [], _, _ => rfl
  | x :: l, p, i => by
    unfold findG getG
    split
    · rfl
    · exact getG_of_find l p (i + 1)
theorem getG_none_iff : ∀ (l : List (ByteArray × V)) (p : ByteArray), getG l p = none ↔ p ∉ l.map (·.1)
  | [], _ => by simp [getG]
  | x :: l, p => by
    unfold getG
    by_cases h : x.1 = p
    · simp [h]
    · have := getG_none_iff l p
      simp only [h, if_false, this, List.map_cons, List.mem_cons, not_or]
      exact ⟨fun hh => ⟨fun e => h e.symm, hh⟩, fun hh => hh.2⟩
theorem findG_place : ∀ (l : List (ByteArray × V)) (p : ByteArray) (i j : Nat) (v : V), findG l p i = some (j, v) → i ≤ j ∧ l[j - i]? = some (p, v)
  | [], _, _, _, _, h => by simp [findG] at h
  | x :: l, p, i, j, v, h => by
    unfold findG at h
    split at h
    · rename_i e
      simp only [Option.some.injEq, Prod.mk.injEq] at h
      obtain ⟨rfl, rfl⟩ := h
      exact ⟨Nat.le_refl _, by simp [← e]⟩
    · obtain ⟨h1, h2⟩ := findG_place l p (i + 1) j v h
      refine ⟨by omega, ?_⟩
      rw [show j - i = (j - (i + 1)) + 1 by omega, List.getElem?_cons_succ]
      exact h2
theorem getG_set : ∀ (l : List (ByteArray × V)) (p : ByteArray) (i j : Nat) (v u : V) (q : ByteArray), findG l p i = some (j, v) → getG (l.set (j - i) (p, u)) q = if q = p then some u else getG l q
  | [], _, _, _, _, _, _, h => by simp [findG] at h
  | x :: l, p, i, j, v, u, q, h => by
    unfold findG at h
    split at h
    · rename_i e
      simp only [Option.some.injEq, Prod.mk.injEq] at h
      obtain ⟨rfl, rfl⟩ := h
      simp only [Nat.sub_self, List.set_cons_zero, getG, e]
      by_cases hq : q = p
      · simp [hq]
      · simp [hq, Ne.symm hq]
    · rename_i hn
      have hp := findG_place l p (i + 1) j v h
      rw [show j - i = (j - (i + 1)) + 1 by omega, List.set_cons_succ]
      unfold getG
      by_cases hq : x.1 = q
      · subst hq; simp [hn]
      · simp only [hq, if_false]
        exact getG_set l p (i + 1) j v u q h
theorem getG_append (l : List (ByteArray × V)) (p : ByteArray) (u : V) (q : ByteArray) (h : p ∉ l.map (·.1)) : getG (l ++ [(p, u)]) q = if q = p then some u else getG l q := by
  induction l with
  | nil =>
    simp only [List.nil_append, getG]
    by_cases hq : q = p
    · simp [hq]
    · simp [hq, Ne.symm hq]
  | cons x l ih =>
    simp only [List.map_cons, List.mem_cons, not_or] at h
    simp only [List.cons_append, getG]
    by_cases hq : x.1 = q
    · subst hq; simp [Ne.symm h.1]
    · simp only [hq, if_false]
      exact ih h.2
theorem getG_erase : ∀ (l : List (ByteArray × V)) (p : ByteArray) (i j : Nat) (v : V) (q : ByteArray), (l.map (·.1)).Nodup → findG l p i = some (j, v) → getG (l.eraseIdx (j - i)) q = if q = p then none else getG l q
  | [], _, _, _, _, _, _, h => by simp [findG] at h
  | x :: l, p, i, j, v, q, hd, h => by
    simp only [List.map_cons, List.nodup_cons] at hd
    unfold findG at h
    split at h
    · rename_i e
      simp only [Option.some.injEq, Prod.mk.injEq] at h
      obtain ⟨rfl, rfl⟩ := h
      simp only [Nat.sub_self, List.eraseIdx_cons_zero, getG, e]
      by_cases hq : q = p
      · subst hq; simp only [if_true]; exact (getG_none_iff l q).2 (by rw [← e]; exact hd.1)
      · simp [hq, Ne.symm hq]
    · rename_i hn
      have hp := findG_place l p (i + 1) j v h
      rw [show j - i = (j - (i + 1)) + 1 by omega, List.eraseIdx_cons_succ]
      unfold getG
      by_cases hq : x.1 = q
      · subst hq; simp [hn]
      · simp only [hq, if_false]
        exact getG_erase l p (i + 1) j v q hd.2 h
theorem erase_map {α β : Type} (f : α → β) : ∀ (l : List α) (j : Nat), (l.eraseIdx j).map f = (l.map f).eraseIdx j
  | [], _ => rfl
  | _ :: _, 0 => rfl
  | x :: l, j + 1 => by simp [erase_map f l j]
theorem fst_set (l : List (ByteArray × V)) (j : Nat) (p : ByteArray) (u v : V) (h : l[j]? = some (p, v)) : (l.set j (p, u)).map (·.1) = l.map (·.1) := by
  apply List.ext_getElem?
  intro i
  simp only [List.getElem?_map, List.getElem?_set]
  by_cases hj : j = i
  · subst hj
    obtain ⟨hl, he⟩ := List.getElem?_eq_some_iff.1 h
    simp [hl, he]
  · simp [hj]

/-- Block r is a map from string with just these entries; vf: an element as a value. -/
def MG (vf : V → Value) (w : World) (r : Nat) (l : List (ByteArray × V)) : Prop :=
  ∃ (es : Array MapEntry) (c : Nat), Mp w r es c ∧ es.toList.map (fun e => (e.key, e.val)) = l.map (fun x => (Value.string x.1, vf x.2)) ∧ (l.map (·.1)).Nodup

variable {vf : V → Value}
theorem findNow_str (p : ByteArray) : ∀ (es : List MapEntry) (l : List (ByteArray × V)) (i : Nat), es.map (fun e => (e.key, e.val)) = l.map (fun x => (Value.string x.1, vf x.2)) →
    Instr.findNow .string (.string p) es i = some ((findG l p i).map fun x => (x.1, vf x.2))
  | [], [], _, _ => rfl
  | [], _ :: _, _, h => by simp at h
  | _ :: _, [], _, h => by simp at h
  | e :: es, x :: l, i, h => by
    simp only [List.map_cons, List.cons.injEq, Prod.mk.injEq] at h
    obtain ⟨⟨hk, hv⟩, ht⟩ := h
    unfold Instr.findNow findG
    rw [hk, hv]
    by_cases hq : x.1 = p
    · simp [Instr.sameNow, hq, beqs]
    · have hq' : (p == x.1) = false := beqs_ne (fun e => hq e.symm)
      simp only [Instr.sameNow, hq', hq, if_false]
      exact findNow_str p es l (i + 1) ht
theorem map_modify_set (p : ByteArray) (v : V) (es : List MapEntry) (l : List (ByteArray × V)) (j : Nat) (h : es.map (fun e => (e.key, e.val)) = l.map (fun x => (Value.string x.1, vf x.2))) :
    (es.modify j fun e => { e with key := .string p, val := vf v }).map (fun e => (e.key, e.val)) = (l.set j (p, v)).map (fun x => (Value.string x.1, vf x.2)) := by
  apply List.ext_getElem?
  intro i
  have hi : (es.map (fun e => (e.key, e.val)))[i]? = (l.map (fun x => (Value.string x.1, vf x.2)))[i]? := by rw [h]
  simp only [List.getElem?_map, List.getElem?_modify, List.getElem?_set] at hi ⊢
  by_cases hj : j = i
  · subst hj
    have hlen : es.length = l.length := by simpa using congrArg List.length h
    by_cases hl : j < l.length
    · rw [List.getElem?_eq_getElem (by omega)]
      simp [hl]
    · rw [List.getElem?_eq_none (by omega)]
      simp [hl]
  · simp only [hj, if_false]
    rw [← hi]
    cases es[i]? <;> simp

variable {P : Program} {w w' : World} {t k e : TypeId} {r : Nat} {l : List (ByteArray × V)} {S : Nat → Prop}
theorem MG.lt (h : MG vf w r l) : r < w.heap.size := by obtain ⟨es, c, hm, _⟩ := h; exact hm.lt
theorem MG.nodup (h : MG vf w r l) : (l.map (·.1)).Nodup := by obtain ⟨_, _, _, _, h⟩ := h; exact h
theorem MG.fr (h : MG vf w r l) (hf : Fr S w w') (hg : ¬ S r) : MG vf w' r l := by obtain ⟨es, c, hm, h2⟩ := h; exact ⟨es, c, hm.fr hf hg, h2⟩
theorem MG.below {B : Nat} (h : MG vf w r l) (hb : Below B w w') (hg : r < B) : MG vf w' r l := by obtain ⟨es, c, hm, h2⟩ := h; exact ⟨es, c, hm.below hb hg, h2⟩
theorem MG.new (vf : V → Value) (w : World) : MG vf (w.alloc (.map #[] 0)) w.heap.size [] := ⟨#[], 0, Mp.new w _ _, rfl, by simp⟩
theorem MG.look2 (h : MG vf w r l) (ht : P.underlying t = some (.map k e)) (hk : P.underlying k = some .string) {z : Value} (hz : ∀ w : World, (zeroValue e).run P w = .ok z w) (p : ByteArray) :
    (Instr.lookup t (.map (some r)) (.string p) true).run P w = .ok (.tuple #[((getG l p).map vf).getD z, .bool (getG l p).isSome]) w := by
  obtain ⟨es, c, hm, hl, _⟩ := h
  have hf := findNow_str p es.toList l 0 hl
  have hg := getG_of_find l p 0
  unfold Mp at hm
  cases hq : findG l p 0 with
  | none =>
    rw [hq] at hf hg
    rw [hg]
    simp [Instr.lookup, run_underlying ht, getObj, Sem.run, hm, run_checkKey hk rfl, Instr.findKey, run_underlying hk, hf, hz]
  | some x =>
    obtain ⟨j, v⟩ := x
    rw [hq] at hf hg
    rw [hg]
    simp [Instr.lookup, run_underlying ht, getObj, Sem.run, hm, run_checkKey hk rfl, Instr.findKey, run_underlying hk, hf]
theorem MG.look (h : MG vf w r l) (ht : P.underlying t = some (.map k e)) (hk : P.underlying k = some .string) {z : Value} (hz : ∀ w : World, (zeroValue e).run P w = .ok z w) (p : ByteArray) :
    (Instr.lookup t (.map (some r)) (.string p) false).run P w = .ok (((getG l p).map vf).getD z) w := by
  obtain ⟨es, c, hm, hl, _⟩ := h
  have hf := findNow_str p es.toList l 0 hl
  have hg := getG_of_find l p 0
  unfold Mp at hm
  cases hq : findG l p 0 with
  | none =>
    rw [hq] at hf hg
    rw [hg]
    simp [Instr.lookup, run_underlying ht, getObj, Sem.run, hm, run_checkKey hk rfl, Instr.findKey, run_underlying hk, hf, hz]
  | some x =>
    obtain ⟨j, v⟩ := x
    rw [hq] at hf hg
    rw [hg]
    simp [Instr.lookup, run_underlying ht, getObj, Sem.run, hm, run_checkKey hk rfl, Instr.findKey, run_underlying hk, hf]
theorem fr_set {r : Nat} {w : World} (o : Obj) : Fr (fun i => i = r) w { w with heap := w.heap.setIfInBounds r o } :=
  ⟨rfl, rfl, rfl, by simp, fun i hi hn => by simp [Ne.symm hn]⟩
theorem MG.update (h : MG vf w r l) (ht : P.underlying t = some (.map k e)) (hk : P.underlying k = some .string) (p : ByteArray) (v : V) :
    ∃ w' l', (Instr.mapUpdate t (.map (some r)) (.string p) (vf v)).run P w = .ok () w' ∧ MG vf w' r l' ∧ (∀ q, getG l' q = if q = p then some v else getG l q) ∧ Fr (fun i => i = r) w w' := by
  have hlt := h.lt
  obtain ⟨es, c, hm, hl, hn⟩ := h
  have hf := findNow_str p es.toList l 0 hl
  unfold Mp at hm
  cases hg : findG l p 0 with
  | none =>
    rw [hg] at hf
    have hnm : p ∉ l.map (·.1) := (getG_none_iff l p).1 (by rw [getG_of_find l p 0, hg]; rfl)
    refine ⟨{ w with heap := w.heap.setIfInBounds r (.map (es.push ⟨.string p, vf v, c⟩) (c + 1)) }, l ++ [(p, v)], ?_, ⟨es.push ⟨.string p, vf v, c⟩, c + 1, by simp [Mp, hlt], ?_, ?_⟩, fun q => getG_append l p v q hnm, fr_set _⟩
    · simp [Instr.mapUpdate, run_underlying ht, getObj, setObj, Sem.run, hm, run_checkKey hk rfl, Instr.findKey, run_underlying hk, hf]
    · simp [hl]
    · rw [List.map_append, List.nodup_append]
      exact ⟨hn, by simp, fun a ha b hb => by simp at hb; subst hb; intro e; subst e; exact hnm ha⟩
  | some x =>
    obtain ⟨j, u⟩ := x
    rw [hg] at hf
    obtain ⟨_, hpl⟩ := findG_place l p 0 j u hg
    simp only [Nat.sub_zero] at hpl
    have hek : ∃ e0, es[j]? = some e0 ∧ e0.key = .string p := by
      have h1 : (es.toList.map (fun e => (e.key, e.val)))[j]? = some (.string p, vf u) := by rw [hl]; simp [hpl]
      simp only [List.getElem?_map, Option.map_eq_some_iff] at h1
      obtain ⟨e0, h2, h3⟩ := h1
      exact ⟨e0, by simpa using h2, (Prod.mk.inj h3).1⟩
    obtain ⟨e0, he0, hk0⟩ := hek
    have hst : (Instr.keyThatStays (.string p) (.string p)).run P w = .ok (.string p) w := by
      simp [Instr.keyThatStays, Instr.sameBits, beqs]
    refine ⟨{ w with heap := w.heap.setIfInBounds r (.map (es.modify j fun e => { e with key := .string p, val := vf v }) c) }, l.set j (p, v), ?_, ⟨es.modify j fun e => { e with key := .string p, val := vf v }, c, by simp [Mp, hlt], ?_, ?_⟩, fun q => ?_, fr_set _⟩
    · simp [Instr.mapUpdate, run_underlying ht, getObj, setObj, Sem.run, hm, run_checkKey hk rfl, Instr.findKey, run_underlying hk, hf, he0, hk0, hst]
    · rw [Array.toList_modify]; exact map_modify_set p v es.toList l j hl
    · rw [fst_set l j p v u hpl]; exact hn
    · have := getG_set l p 0 j u v q hg
      simpa using this
theorem MG.delete (h : MG vf w r l) (ht : P.underlying t = some (.map k e)) (hk : P.underlying k = some .string) (p : ByteArray) (a1 : TypeId) (ty : TypeId) :
    ∃ w' l', (Builtin.delete_ #[t, a1] ty #[.map (some r), .string p]).run P w = .ok (.tuple #[]) w' ∧ MG vf w' r l' ∧ (∀ q, getG l' q = if q = p then none else getG l q) ∧ Fr (fun i => i = r) w w' := by
  have hlt := h.lt
  obtain ⟨es, c, hm, hl, hn⟩ := h
  have hf := findNow_str p es.toList l 0 hl
  unfold Mp at hm
  cases hg : findG l p 0 with
  | none =>
    rw [hg] at hf
    refine ⟨{ w with heap := w.heap.setIfInBounds r (.map es c) }, l, ?_, ⟨es, c, by simp [Mp, hlt], hl, hn⟩, fun q => ?_, fr_set _⟩
    · simp [Builtin.delete_, run_underlying ht, getObj, setObj, Sem.run, hm, run_checkKey hk rfl, Instr.findKey, run_underlying hk, hf]
    · split
      · subst q; rw [getG_of_find l p 0, hg]; rfl
      · rfl
  | some x =>
    obtain ⟨j, u⟩ := x
    rw [hg] at hf
    refine ⟨{ w with heap := w.heap.setIfInBounds r (.map (es.eraseIdxIfInBounds j) c) }, l.eraseIdx j, ?_, ⟨es.eraseIdxIfInBounds j, c, by simp [Mp, hlt], ?_, ?_⟩, fun q => ?_, fr_set _⟩
    · simp [Builtin.delete_, run_underlying ht, getObj, setObj, Sem.run, hm, run_checkKey hk rfl, Instr.findKey, run_underlying hk, hf]
    · rw [Array.toList_eraseIdxIfInBounds, erase_map, hl, erase_map]
    · rw [erase_map]; exact hn.sublist (List.eraseIdx_sublist _ _)
    · have := getG_erase l p 0 j u q hn hg
      simpa using this
theorem wpList_mapUpdate_MG {ops : Array Oper} {rest : List Oper} {o : Oper} {a : Act} {Q : Exit → Act → World → Prop}
    (hg : o.guard = none) (m x y : Operand) (hop : o.op = Op.mapUpdate t m x y) (ht : P.underlying t = some (.map k e)) (hk : P.underlying k = some .string) (p : ByteArray) (v : V)
    (he : a.eval m = .map (some r)) (hx : a.eval x = .string p) (hy : a.eval y = vf v) (hm : MG vf w r l)
    (hK : ∀ w' l', MG vf w' r l' → (∀ q, getG l' q = if q = p then some v else getG l q) → Fr (fun i => i = r) w w' → wpList P ops Q rest (a.put o.dst undef) w') : wpList P ops Q (o :: rest) a w := by
  refine wpList_plain hg fun K hK' => ?_
  obtain ⟨w', l', hrun, r1, r2, r4⟩ := hm.update ht hk p v
  unfold Oper.wp
  simp [execOp, hop, he, hx, hy, hrun, Result.andThen]
  exact hK' _ _ (hK w' l' r1 r2 r4)
theorem wpList_delete_MG {ops : Array Oper} {rest : List Oper} {o : Oper} {a : Act} {Q : Exit → Act → World → Prop}
    (hg : o.guard = none) (m x : Operand) (a1 : TypeId) (hop : o.op = Op.call { callee := .builtin .delete, args := #[m, x], argTypes := #[t, a1] }) (ht : P.underlying t = some (.map k e)) (hk : P.underlying k = some .string) (p : ByteArray)
    (he : a.eval m = .map (some r)) (hx : a.eval x = .string p) (hm : MG vf w r l)
    (hK : ∀ w' l', MG vf w' r l' → (∀ q, getG l' q = if q = p then none else getG l q) → Fr (fun i => i = r) w w' → wpList P ops Q rest (a.put o.dst (.tuple #[])) w') : wpList P ops Q (o :: rest) a w := by
  refine wpList_plain hg fun K hK' => ?_
  obtain ⟨w', l', hrun, r1, r2, r4⟩ := hm.delete ht hk p a1 o.type
  unfold Oper.wp
  simp [execOp, hop, resolve, invoke, builtin, he, hx, hrun, Result.andThen]
  exact hK' _ _ (hK w' l' r1 r2 r4)
end

end Go.Proofs.Ytahommgchnbnjaa
