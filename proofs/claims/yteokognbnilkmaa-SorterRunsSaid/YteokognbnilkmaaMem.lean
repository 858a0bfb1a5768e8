/-
  A sorter in memory: its blocks, its rows and its maps.
-/
import Derived.Test.YteokognbnilkmaaRows
import Derived.Test.YteokognbnilkmaaPlain
import Derived.Outline
import Derived.Maps.AppendAt
import Derived.Deep.LoopGhost
import Derived.Lib.SlicesS
import Derived.Deep.QuietTactic
import Derived.BigQuiet
namespace Go.Proofs.Yteokognbnilkmaa
open Go.RowKit

/-- A list of strings as cells. -/
def cellsS (xs : List Bs) : List Value := xs.map Value.string

theorem own_fr {S : Nat → Prop} {w w' : World} {base : Nat} {e : TypeId} {size n : Nat} {v : Value} {xs : List Value} (h : w.ownsRow base e size v n xs) (hf : Fr S w w') (hn : ∀ i, v.ownBlock = some i → ¬ S i) : w'.ownsRow base e size v n xs := by
  obtain ⟨hl, h | ⟨g, cap, cur, rfl, hb, hh, hr⟩⟩ := h
  · exact ⟨hl, .inl h⟩
  · have hlt : g < w.heap.size := by
      rcases Nat.lt_or_ge g w.heap.size with hlt | hge
      · exact hlt
      · rw [Array.getElem?_eq_none hge] at hh; cases hh
    exact ⟨hl, .inr ⟨g, cap, cur, rfl, hb, (hf.block g hlt (hn g rfl)).trans hh, hr⟩⟩
theorem own_lt {w : World} {base : Nat} {e : TypeId} {size n : Nat} {v : Value} {xs : List Value} (h : w.ownsRow base e size v n xs) {i : Nat} (hi : v.ownBlock = some i) : base ≤ i ∧ i < w.heap.size := h.lt i hi
theorem own_ne {w : World} {base g : Nat} {e t : TypeId} {size n : Nat} {v : Value} {xs : List Value} {cs : Array Value} (h : w.ownsRow base e size v n xs) (hg : Blk w g t cs) (hne : e ≠ t) : v.ownBlock ≠ some g := by
  rcases h.2 with ⟨rfl, _⟩ | ⟨g', cap, cur, rfl, _, hh, _⟩
  · simp [Value.ownBlock]
  · intro he
    have : g' = g := by simpa [Value.ownBlock] using he
    subst this
    exact Blk.ne_ (t := e) hh hg hne rfl
theorem own_ne_map {w : World} {base r c : Nat} {e : TypeId} {size n : Nat} {v : Value} {xs : List Value} {es : Array MapEntry} (h : w.ownsRow base e size v n xs) (hm : Mp w r es c) : v.ownBlock ≠ some r := by
  rcases h.2 with ⟨rfl, _⟩ | ⟨g', cap, cur, rfl, _, hh, _⟩
  · simp [Value.ownBlock]
  · intro he
    have : g' = r := by simpa [Value.ownBlock] using he
    subst this
    unfold Mp at hm
    rw [hh] at hm
    cases hm
theorem blk_ne_map {w : World} {g r c : Nat} {t : TypeId} {cs : Array Value} {es : Array MapEntry} (h : Blk w g t cs) (hm : Mp w r es c) : g ≠ r := by
  rintro rfl
  unfold Blk at h
  unfold Mp at hm
  rw [h] at hm
  cases hm
theorem own_base0 {w : World} {base : Nat} {e : TypeId} {size n : Nat} {v : Value} {xs : List Value} (h : w.ownsRow base e size v n xs) : w.ownsRow 0 e size v n xs := by
  obtain ⟨hl, h | ⟨g, cap, cur, rfl, _, hr⟩⟩ := h
  · exact ⟨hl, .inl h⟩
  · exact ⟨hl, .inr ⟨g, cap, cur, rfl, Nat.zero_le _, hr⟩⟩
/-- What a row of one-cell elements gives. -/
theorem row_form {w : World} {base n : Nat} {e : TypeId} {v : Value} {xs : List Value} (h : w.ownsRow base e 1 v n xs) :
    ∃ A cap, v = .slice A n cap ∧ n ≤ 9223372036854775807 ∧ ∀ k u, xs[k]? = some u → ∃ gi, A = some ⟨gi, 0, none⟩ ∧ w.cell? ⟨gi, k, none⟩ = some u ∧ base ≤ gi ∧ gi < w.heap.size := by
  obtain ⟨hl, ⟨rfl, rfl⟩ | ⟨g, cap, cur, rfl, hb, hh, h1, h2, h3, h4⟩⟩ := h
  · exact ⟨none, 0, rfl, by omega, fun k u hu => by
      have : xs = [] := List.eq_nil_of_length_eq_zero (by omega)
      subst this
      simp at hu⟩
  · unfold maxLen at h2
    refine ⟨_, cap, rfl, by omega, fun k u hu => ⟨g, rfl, ?_, hb, ?_⟩⟩
    · rw [cell_of_row w g k cur e (0, 0) hh, ← Array.getElem?_toList]
      rw [← h4, Nat.mul_one] at hu
      rw [List.getElem?_take] at hu
      split at hu
      · exact hu
      · cases hu
    · rcases Nat.lt_or_ge g w.heap.size with hlt | hge
      · exact hlt
      · rw [Array.getElem?_eq_none hge] at hh; cases hh
theorem cellsS_get {xs : List Bs} {k : Nat} {x : Bs} (h : xs[k]? = some x) : (cellsS xs)[k]? = some (.string x) := by simp [cellsS, h]
theorem Fr.of_row {w w' : World} {row : Option Nat} (h : w.grownBy w' row) : Fr (fun i => row = some i) w w' := ⟨h.os, h.tape, h.output, h.size, fun i hi hn => h.block i hi (fun e => hn e.symm)⟩
theorem fr_trans2 {S S' : Nat → Prop} {w w1 w2 : World} (h : Fr S w w1) (k : Fr S' w1 w2) (hs : ∀ i, i < w.heap.size → S' i → S i) : Fr S w w2 :=
  ⟨k.os.trans h.os, k.tape.trans h.tape, k.output.trans h.output, Nat.le_trans h.size k.size, fun i hi hn => (k.block i (Nat.lt_of_lt_of_le hi h.size) (fun x => hn (hs i hi x))).trans (h.block i hi hn)⟩

/-- Nothing that was there has turned. -/
def Same (w w' : World) : Prop := Fr (fun _ => False) w w'
theorem Same.to {w w' : World} (h : Same w w') (S : Nat → Prop) : Fr S w w' := h.mono fun _ _ x => x.elim
theorem Same.below {w w' : World} (h : Same w w') : Below w.heap.size w w' := Fr.below h (Nat.le_refl _) (fun _ _ x => x.elim)
theorem Same.refl (w : World) : Same w w := Fr.refl _ _
theorem Same.of {w w' : World} (h : Below w.heap.size w w') : Same w w' := Fr.of_new h _
theorem Same.drewN (w : World) (n : Nat) : Same w (w.drewN n) := (Fr.refl _ _).drewN n
theorem same_cell {W W' : World} {p : Addr} {v : Value} (hs : Same W W') (h : W.cell? p = some v) : W'.cell? p = some v := by
  have hl := World.block_lt_of_cell? _ _ h
  have e := hs.block p.block hl (fun x => x)
  rw [← h]
  unfold World.cell?
  rw [e]

/-- A bin with the values that its cells hold. -/
structure Cl where
  key : Bs
  items : List Bs
  v : Value
  m : Value
def Cl.bin (x : Cl) : Bin := ⟨x.key, x.items⟩
def cells3 (ls : List Cl) : List Value := ls.flatMap fun x => [.string x.key, x.v, x.m]
theorem cells3_len : ∀ ls : List Cl, (cells3 ls).length = ls.length * 3
  | [] => rfl
  | x :: ls => by
    have := cells3_len ls
    unfold cells3 at this ⊢
    rw [List.flatMap_cons, List.length_append, this, List.length_cons]
    simp
    omega
theorem cells3_get : ∀ (ls : List Cl) (k : Nat) (x : Cl), ls[k]? = some x → (cells3 ls)[k * 3]? = some (.string x.key) ∧ (cells3 ls)[k * 3 + 1]? = some x.v ∧ (cells3 ls)[k * 3 + 2]? = some x.m
  | [], _, _, h => by simp at h
  | a :: s, 0, e, h => by
    simp at h
    subst h
    simp [cells3]
  | a :: s, k + 1, e, h => by
    have := cells3_get s k e (by simpa using h)
    unfold cells3 at this ⊢
    rw [List.flatMap_cons]
    have e1 : (k + 1) * 3 = k * 3 + 3 := by omega
    have e2 : (k + 1) * 3 + 1 = (k * 3 + 1) + 3 := by omega
    have e3 : (k + 1) * 3 + 2 = (k * 3 + 2) + 3 := by omega
    rw [e2, e3, e1]
    simpa using this
theorem cells3_set0 : ∀ (ls : List Cl) (k : Nat) (u : Bs), (cells3 ls).set (k * 3) (.string u) = cells3 (ls.modify k fun x => { x with key := u })
  | [], k, _ => by simp [cells3]
  | a :: s, 0, u => by simp [cells3]
  | a :: s, k + 1, u => by
    have := cells3_set0 s k u
    unfold cells3 at this ⊢
    rw [show (k + 1) * 3 = k * 3 + 3 by omega]
    simp only [List.flatMap_cons, List.modify_succ_cons, List.cons_append, List.nil_append, List.set_cons_succ]
    rw [this]
theorem cells3_set1 : ∀ (ls : List Cl) (k : Nat) (u : Value), (cells3 ls).set (k * 3 + 1) u = cells3 (ls.modify k fun x => { x with v := u })
  | [], k, _ => by simp [cells3]
  | a :: s, 0, u => by simp [cells3]
  | a :: s, k + 1, u => by
    have := cells3_set1 s k u
    unfold cells3 at this ⊢
    rw [show (k + 1) * 3 + 1 = (k * 3 + 1) + 3 by omega]
    simp only [List.flatMap_cons, List.modify_succ_cons, List.cons_append, List.nil_append, List.set_cons_succ]
    rw [this]
theorem cells3_set2 : ∀ (ls : List Cl) (k : Nat) (u : Value), (cells3 ls).set (k * 3 + 2) u = cells3 (ls.modify k fun x => { x with m := u })
  | [], k, _ => by simp [cells3]
  | a :: s, 0, u => by simp [cells3]
  | a :: s, k + 1, u => by
    have := cells3_set2 s k u
    unfold cells3 at this ⊢
    rw [show (k + 1) * 3 + 2 = (k * 3 + 2) + 3 by omega]
    simp only [List.flatMap_cons, List.modify_succ_cons, List.cons_append, List.nil_append, List.set_cons_succ]
    rw [this]
/-- Cells of bins are given to the cell by their addresses. -/
theorem arr_cells {w : World} {b : Nat} {ls : List Cl} (h : Blk w b 64 (cells3 ls).toArray) {k : Nat} {x : Cl} (hx : ls[k]? = some x) :
    w.cell? ⟨b, k * 3, none⟩ = some (.string x.key) ∧ w.cell? ⟨b, k * 3 + 1, none⟩ = some x.v ∧ w.cell? ⟨b, k * 3 + 2, none⟩ = some x.m := by
  obtain ⟨h0, h1, h2⟩ := cells3_get ls k x hx
  refine ⟨(h.cell _).trans ?_, (h.cell _).trans ?_, (h.cell _).trans ?_⟩ <;> simpa
theorem arr_set0 {w : World} {b : Nat} {ls : List Cl} (h : Blk w b 64 (cells3 ls).toArray) (k : Nat) (u : Bs) : Blk (w.setCell ⟨b, k * 3, none⟩ (.string u)) b 64 (cells3 (ls.modify k fun x => { x with key := u })).toArray := by
  have := h.set_ (k * 3) (.string u)
  rwa [List.setIfInBounds_toArray, cells3_set0] at this
theorem arr_set1 {w : World} {b : Nat} {ls : List Cl} (h : Blk w b 64 (cells3 ls).toArray) (k : Nat) (u : Value) : Blk (w.setCell ⟨b, k * 3 + 1, none⟩ u) b 64 (cells3 (ls.modify k fun x => { x with v := u })).toArray := by
  have := h.set_ (k * 3 + 1) u
  rwa [List.setIfInBounds_toArray, cells3_set1] at this
theorem arr_set2 {w : World} {b : Nat} {ls : List Cl} (h : Blk w b 64 (cells3 ls).toArray) (k : Nat) (u : Value) : Blk (w.setCell ⟨b, k * 3 + 2, none⟩ u) b 64 (cells3 (ls.modify k fun x => { x with m := u })).toArray := by
  have := h.set_ (k * 3 + 2) u
  rwa [List.setIfInBounds_toArray, cells3_set2] at this

/-- A bin's row and its map. -/
structure IsCl (w : World) (x : Cl) : Prop where
  row : w.ownsRow 0 9 1 x.v x.items.length (cellsS x.items)
  map : ∃ r l, x.m = .map (some r) ∧ MG Value.bool w r l ∧ ∀ q, getG l q = if q ∈ x.items then some true else none
/-- The blocks of a bin. -/
def Cl.In (x : Cl) (i : Nat) : Prop := x.m = .map (some i) ∨ x.v.ownBlock = some i
theorem IsCl.fr {w w' : World} {S : Nat → Prop} {x : Cl} (h : IsCl w x) (hf : Fr S w w') (hn : ∀ i, x.In i → ¬ S i) : IsCl w' x := by
  obtain ⟨r, l, e, hm, hg⟩ := h.map
  exact ⟨own_fr h.row hf (fun i hi => hn i (.inr hi)), r, l, e, hm.fr hf (hn r (.inl e)), hg⟩
theorem IsCl.lt {w : World} {x : Cl} (h : IsCl w x) {i : Nat} (hi : x.In i) : i < w.heap.size := by
  rcases hi with hi | hi
  · obtain ⟨r, l, e, hm, _⟩ := h.map
    rw [e] at hi
    cases hi
    exact hm.lt
  · exact (own_lt h.row hi).2
theorem IsCl.ne {w : World} {x : Cl} (h : IsCl w x) {g t : Nat} {cs : Array Value} (hg : Blk w g t cs) (ht : t ≠ 9) : ¬ x.In g := by
  rintro (hi | hi)
  · obtain ⟨r, l, e, ⟨es, c, hm, _⟩, _⟩ := h.map
    rw [e] at hi
    cases hi
    exact blk_ne_map hg hm rfl
  · exact own_ne h.row hg (Ne.symm ht) hi
theorem zero4 (w : World) : (zeroValue 4).run Try.prog w = .ok (.bool false) w := by kernel_rfl
theorem IsCl.look {w : World} {x : Cl} (h : IsCl w x) (q : Bs) : ∃ r, x.m = .map (some r) ∧ (Instr.lookup 62 (.map (some r)) (.string q) false).run Try.prog w = .ok (.bool (decide (q ∈ x.items))) w := by
  obtain ⟨r, l, e, hm, hg⟩ := h.map
  refine ⟨r, e, ?_⟩
  have := hm.look (P := Try.prog) (t := 62) Try.underlying62 Try.underlying9 zero4 q
  rw [hg q] at this
  rw [this]
  by_cases hq : q ∈ x.items <;> simp [hq]

/-- Block g is a sorter whose bins lie in block b. -/
structure IsSo (w : World) (g b : Nat) (ls : List Cl) (c : Nat) : Prop where
  blk : Blk w g 61 #[.slice (some ⟨b, 0, none⟩) ls.length ls.length, .int .i64 c]
  arr : Blk w b 64 (cells3 ls).toArray
  cl : ∀ (i : Nat) (x : Cl), ls[i]? = some x → IsCl w x
  sep : ∀ (i j : Nat) (x y : Cl) (a : Nat), ls[i]? = some x → ls[j]? = some y → x.In a → y.In a → i = j
  ok : BOk c (ls.map Cl.bin)
/-- The blocks of a sorter. -/
def Own (g b : Nat) (ls : List Cl) (i : Nat) : Prop := i = g ∨ i = b ∨ ∃ (k : Nat) (x : Cl), ls[k]? = some x ∧ x.In i

section
variable {w w' : World} {g b c : Nat} {ls : List Cl} {S : Nat → Prop}
theorem IsSo.fr (h : IsSo w g b ls c) (hf : Fr S w w') (hn : ∀ i, Own g b ls i → ¬ S i) : IsSo w' g b ls c :=
  ⟨h.blk.fr hf (hn g (.inl rfl)), h.arr.fr hf (hn b (.inr (.inl rfl))), fun i x hx => (h.cl i x hx).fr hf (fun a ha => hn a (.inr (.inr ⟨i, x, hx, ha⟩))), h.sep, h.ok⟩
theorem IsSo.same (h : IsSo w g b ls c) (hs : Same w w') : IsSo w' g b ls c := h.fr hs (fun _ _ x => x)
theorem IsSo.lt (h : IsSo w g b ls c) (i : Nat) (hi : Own g b ls i) : i < w.heap.size := by
  rcases hi with rfl | rfl | ⟨k, x, hx, hi⟩
  · exact h.blk.lt
  · exact h.arr.lt
  · exact (h.cl k x hx).lt hi
theorem IsSo.gb (h : IsSo w g b ls c) : g ≠ b := h.blk.ne_ h.arr (by decide)
theorem IsSo.drewN (h : IsSo w g b ls c) (n : Nat) : IsSo (w.drewN n) g b ls c := h.same (Same.drewN w n)
theorem IsSo.bin (_ : IsSo w g b ls c) {i : Nat} {x : Cl} (hx : ls[i]? = some x) : (ls.map Cl.bin)[i]? = some x.bin := by simp [hx]
theorem IsSo.len (h : IsSo w g b ls c) : ls.length ≤ 16 ∧ 1 ≤ ls.length := by
  have h1 := h.ok.n2
  have h2 := h.ok.n1
  rw [List.length_map] at h1 h2
  exact ⟨h1, h2⟩
theorem IsSo.le (h : IsSo w g b ls c) {i : Nat} {x : Cl} (hx : ls[i]? = some x) : x.items.length ≤ c := h.ok.le x.bin (List.mem_of_getElem? (h.bin hx))
end

end Go.Proofs.Yteokognbnilkmaa
