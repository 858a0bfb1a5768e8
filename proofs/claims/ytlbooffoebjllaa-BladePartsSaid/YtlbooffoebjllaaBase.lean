/-
  Words for blocks of memory, frames and maps; the plain model of a saw blade: no program in sight.
-/
import Derived.WalkKit
import Derived.WalkSpells
import Derived.WalkLawsBesides
import Derived.Lib.Hide
namespace Go.Proofs.Ytlbooffoebjllaa
open Go.RowKit

/-- Outside S, and among the blocks that were there, nothing has turned. -/
structure Fr (S : Nat → Prop) (w w' : World) : Prop where
  os : w'.os = w.os
  tape : w'.tape = w.tape
  output : w'.output = w.output
  size : w.heap.size ≤ w'.heap.size
  block : ∀ i, i < w.heap.size → ¬ S i → w'.heap[i]? = w.heap[i]?

section
variable {S S' : Nat → Prop} {w w' w'' : World}
theorem Fr.refl (S : Nat → Prop) (w : World) : Fr S w w := ⟨rfl, rfl, rfl, Nat.le_refl _, fun _ _ _ => rfl⟩
theorem Fr.trans (h : Fr S w w') (k : Fr S w' w'') : Fr S w w'' :=
  ⟨k.os.trans h.os, k.tape.trans h.tape, k.output.trans h.output, Nat.le_trans h.size k.size, fun i hi hs => (k.block i (Nat.lt_of_lt_of_le hi h.size) hs).trans (h.block i hi hs)⟩
theorem Fr.mono (h : Fr S w w') (hs : ∀ i, i < w.heap.size → S i → S' i) : Fr S' w w' :=
  ⟨h.os, h.tape, h.output, h.size, fun i hi hn => h.block i hi (fun x => hn (hs i hi x))⟩
theorem Fr.alloc (h : Fr S w w') (o : Obj) : Fr S w (w'.alloc o) :=
  ⟨h.os, h.tape, h.output, Nat.le_trans h.size (by simp), fun i hi hn => (Below.heap_alloc w' o i (Nat.lt_of_lt_of_le hi h.size)).trans (h.block i hi hn)⟩
theorem Fr.drew (h : Fr S w w') : Fr S w w'.drew := ⟨h.os, h.tape, h.output, h.size, h.block⟩
theorem Fr.drewN (h : Fr S w w') (n : Nat) : Fr S w (w'.drewN n) := ⟨h.os, h.tape, h.output, h.size, h.block⟩
theorem Fr.setCell (h : Fr S w w') (p : Addr) (u : Value) (hp : S p.block ∨ w.heap.size ≤ p.block) : Fr S w (w'.setCell p u) :=
  ⟨h.os, h.tape, h.output, by simpa [World.setCell] using h.size, fun i hi hn => (Below.heap_setCell w' p u i (by
    rintro rfl
    rcases hp with hp | hp
    · exact hn hp
    · omega)).trans (h.block i hi hn)⟩
theorem Fr.of_below {B : Nat} (h : Below B w w') : Fr (fun i => B ≤ i) w w' := ⟨h.os, h.tape, h.output, h.size, fun i _ hn => h.block i (by omega)⟩
theorem Fr.of_new (h : Below w.heap.size w w') (S : Nat → Prop) : Fr S w w' := ⟨h.os, h.tape, h.output, h.size, fun i hi _ => h.block i hi⟩
theorem Fr.of_grown {g : Nat} (h : w.grownBy w' (some g)) : Fr (fun i => i = g) w w' := ⟨h.os, h.tape, h.output, h.size, fun i hi hn => h.block i hi (by simpa using hn)⟩
theorem Fr.below {B : Nat} (h : Fr S w w') (hB : B ≤ w.heap.size) (hs : ∀ i, i < w.heap.size → S i → B ≤ i) : Below B w w' :=
  ⟨h.os, h.tape, h.output, h.size, fun i hi => h.block i (by omega) (fun x => by have := hs i (by omega) x; omega)⟩
end

/-- Block g is just the cells cs of element type t, none frozen. -/
def Blk (w : World) (g : Nat) (t : TypeId) (cs : Array Value) : Prop := w.heap[g]? = some (.cells cs t (0, 0))

section
variable {S : Nat → Prop} {w w' : World} {g : Nat} {t : TypeId} {cs : Array Value}
theorem Blk.lt (h : Blk w g t cs) : g < w.heap.size := by
  rcases Nat.lt_or_ge g w.heap.size with hlt | hge
  · exact hlt
  · unfold Blk at h; rw [Array.getElem?_eq_none hge] at h; cases h
theorem Blk.cell (h : Blk w g t cs) (i : Nat) : w.cell? ⟨g, i, none⟩ = cs[i]? := cell_of_row w g i cs t (0, 0) h
theorem Blk.frozen (h : Blk w g t cs) (i : Nat) : w.frozen? ⟨g, i, none⟩ = false := by
  unfold Blk at h
  simp [World.frozen?, h]
theorem Blk.new (w : World) (t : TypeId) (cs : Array Value) : Blk (w.alloc (.cells cs t)) w.heap.size t cs := heap_alloc_new w _
theorem Blk.alloc (h : Blk w g t cs) (o : Obj) : Blk (w.alloc o) g t cs := (Below.heap_alloc w o g h.lt).trans h
theorem Blk.drew (h : Blk w g t cs) : Blk w.drew g t cs := h
theorem Blk.drewN (h : Blk w g t cs) (n : Nat) : Blk (w.drewN n) g t cs := h
theorem Blk.set_ (h : Blk w g t cs) (i : Nat) (u : Value) : Blk (w.setCell ⟨g, i, none⟩ u) g t (cs.setIfInBounds i u) := by
  unfold Blk at h ⊢
  simp [World.setCell, Array.getElem?_modify, h]
theorem Blk.far (h : Blk w g t cs) {p : Addr} (hp : g ≠ p.block) (u : Value) : Blk (w.setCell p u) g t cs := (Below.heap_setCell w p u g hp).trans h
theorem Blk.below {B : Nat} (h : Blk w g t cs) (hb : Below B w w') (hg : g < B) : Blk w' g t cs := (hb.block g hg).trans h
theorem Blk.fr (h : Blk w g t cs) (hf : Fr S w w') (hg : ¬ S g) : Blk w' g t cs := (hf.block g h.lt hg).trans h
theorem Blk.ne_ {g' : Nat} {t' : TypeId} {cs' : Array Value} (h : Blk w g t cs) (h' : Blk w g' t' cs') (hne : t ≠ t') : g ≠ g' := by
  rintro rfl
  unfold Blk at h h'
  rw [h] at h'
  injection h' with h'
  injection h' with _ ht
  exact hne ht
end

/-- Block r is a map with just these entries. -/
def Mp (w : World) (r : Nat) (es : Array MapEntry) (c : Nat) : Prop := w.heap[r]? = some (.map es c)

section
variable {S : Nat → Prop} {w w' : World} {r c : Nat} {es : Array MapEntry}
theorem Mp.lt (h : Mp w r es c) : r < w.heap.size := by
  rcases Nat.lt_or_ge r w.heap.size with hlt | hge
  · exact hlt
  · unfold Mp at h; rw [Array.getElem?_eq_none hge] at h; cases h
theorem Mp.fr (h : Mp w r es c) (hf : Fr S w w') (hg : ¬ S r) : Mp w' r es c := (hf.block r h.lt hg).trans h
theorem Mp.below {B : Nat} (h : Mp w r es c) (hb : Below B w w') (hg : r < B) : Mp w' r es c := (hb.block r hg).trans h
theorem Mp.new (w : World) (es : Array MapEntry) (c : Nat) : Mp (w.alloc (.map es c)) w.heap.size es c := heap_alloc_new w _
end

/-- A key's kind that is looked for without a question. -/
def plainKind : TypeDesc → Bool
  | .int _ => true
  | .string => true
  | _ => false

section
variable {P : Program} {w : World} {t k e : TypeId} {d : TypeDesc} {r c : Nat} {es : Array MapEntry} {key v : Value}
theorem run_checkKey (hk : P.underlying k = some d) (hd : plainKind d = true) (b : Bool) (n : Nat) (key : Value) (w : World) : (Instr.checkKey b (n + 1) k key).run P w = .ok () w := by
  cases d <;> simp [plainKind] at hd <;> simp [Instr.checkKey, run_underlying hk]
theorem run_lookup_hit (ht : P.underlying t = some (.map k e)) (hk : P.underlying k = some d) (hd : plainKind d = true) (hm : Mp w r es c) {i : Nat} (hf : Instr.findNow d key es.toList 0 = some (some (i, v))) :
    (Instr.lookup t (.map (some r)) key true).run P w = .ok (.tuple #[v, .bool true]) w := by
  unfold Mp at hm
  simp [Instr.lookup, run_underlying ht, getObj, Sem.run, hm, run_checkKey hk hd, Instr.findKey, run_underlying hk, hf]
theorem run_lookup_miss (ht : P.underlying t = some (.map k e)) (hk : P.underlying k = some d) (hd : plainKind d = true) (hm : Mp w r es c) (hf : Instr.findNow d key es.toList 0 = some none) {z : Value} (hz : (zeroValue e).run P w = .ok z w) :
    (Instr.lookup t (.map (some r)) key true).run P w = .ok (.tuple #[z, .bool false]) w := by
  unfold Mp at hm
  simp [Instr.lookup, run_underlying ht, getObj, Sem.run, hm, run_checkKey hk hd, Instr.findKey, run_underlying hk, hf, hz]
theorem run_mapUpdate_new (ht : P.underlying t = some (.map k e)) (hk : P.underlying k = some d) (hd : plainKind d = true) (hm : Mp w r es c) (hf : Instr.findNow d key es.toList 0 = some none) (v : Value) :
    ∃ w', (Instr.mapUpdate t (.map (some r)) key v).run P w = .ok () w' ∧ Mp w' r (es.push ⟨key, v, c⟩) (c + 1) ∧ Fr (fun i => i = r) w w' := by
  have hlt := hm.lt
  unfold Mp at hm
  refine ⟨{ w with heap := w.heap.setIfInBounds r (.map (es.push ⟨key, v, c⟩) (c + 1)) }, ?_, ?_, ?_⟩
  · simp [Instr.mapUpdate, run_underlying ht, getObj, setObj, Sem.run, hm, run_checkKey hk hd, Instr.findKey, run_underlying hk, hf]
  · simp [Mp, hlt]
  · exact ⟨rfl, rfl, rfl, by simp, fun i hi hn => by simp [Ne.symm hn]⟩
theorem wpList_insert_new {ops : Array Oper} {rest : List Oper} {o : Oper} {a : Act} {Q : Exit → Act → World → Prop}
    (hg : o.guard = none) (m x y : Operand) (hop : o.op = Op.insert t m x y) (ht : P.underlying t = some (.map k e)) (hk : P.underlying k = some d) (hd : plainKind d = true)
    (he : a.eval m = .map (some r)) (hx : a.eval x = key) (hy : a.eval y = v) (hm : Mp w r es c) (hf : Instr.findNow d key es.toList 0 = some none)
    (hK : ∀ w', Mp w' r (es.push ⟨key, v, c⟩) (c + 1) → Fr (fun i => i = r) w w' → wpList P ops Q rest (a.put o.dst undef) w') : wpList P ops Q (o :: rest) a w := by
  refine wpList_plain hg fun K hK' => ?_
  obtain ⟨w', hrun, r1, r2⟩ := run_mapUpdate_new ht hk hd hm hf v
  unfold Oper.wp
  simp [execOp, hop, he, hx, hy, hrun, Result.andThen]
  exact hK' _ _ (hK w' r1 r2)
theorem wpList_insert_acc (w0 : World) {ops : Array Oper} {rest : List Oper} {o : Oper} {a : Act} {Q : Exit → Act → World → Prop}
    (hg : o.guard = none) (m x y : Operand) (hop : o.op = Op.insert t m x y) (ht : P.underlying t = some (.map k e)) (hk : P.underlying k = some d) (hd : plainKind d = true)
    (he : a.eval m = .map (some r)) (hx : a.eval x = key) (hy : a.eval y = v) (hm : Mp w r es c) (hf : Instr.findNow d key es.toList 0 = some none)
    (hacc : Below w0.heap.size w0 w) (hr : w0.heap.size ≤ r)
    (hK : ∀ w', Mp w' r (es.push ⟨key, v, c⟩) (c + 1) → Below w0.heap.size w0 w' → wpList P ops Q rest (a.put o.dst undef) w') : wpList P ops Q (o :: rest) a w :=
  wpList_insert_new hg m x y hop ht hk hd he hx hy hm hf fun w' hm' hf' => hK w' hm' (hacc.trans (hf'.below hacc.size (fun i _ h => by omega)))
end

/-- The state of a blade. -/
structure St where
  L : Int
  S : Int
  W : Int
  N : Int

/-- What holds of every blade that the program makes. -/
structure St.Ok (s : St) : Prop where
  l1 : 1 ≤ s.L
  l2 : s.L ≤ 1000000000000
  s1 : s.S = 1 ∨ s.S = 2 ∨ s.S = 3 ∨ s.S = 4
  w1 : 0 ≤ s.W
  w2 : s.W ≤ s.L
  d : s.S = 4 ↔ s.W = s.L
  n1 : 0 ≤ s.N

def St.start (s : St) : St × Int :=
  if s.S = 4 then (s, 17) else if s.S = 2 then (s, 14) else ({ s with S := 2 }, 0)
def St.stop (s : St) : St × Int :=
  if s.S = 2 then ({ s with S := 3 }, 0) else (s, 14)
def St.sharpen (s : St) : St × Int :=
  if s.S = 2 then (s, 14) else ({ s with S := 1, W := 0 }, 0)
def St.cut (s : St) (a : Int) : St × Int × Int :=
  if s.S ≠ 2 then (s, 0, 14) else if a < 0 ∨ a > 10000000000 then (s, 0, 9)
  else ({ s with W := s.W + min a (s.L - s.W), N := s.N + min a (s.L - s.W), S := if s.W + min a (s.L - s.W) = s.L then 4 else 2 }, min a (s.L - s.W), 0)

end Go.Proofs.Ytlbooffoebjllaa
