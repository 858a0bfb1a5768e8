/-
  A yard in memory: its blocks and its rows.
-/
import Derived.Test.YtahommgchnbnjaaRows
import Derived.Test.YtahommgchnbnjaaBase
import Derived.Outline
import Derived.Maps.AppendAt
import Derived.Deep.LoopGhost
import Derived.Lib.SlicesS
import Derived.Deep.QuietTactic
import Derived.BigQuiet
namespace Go.Proofs.Ytahommgchnbnjaa
open Go.RowKit

abbrev Bs := ByteArray
def nul : Bs := ⟨#[]⟩
/-- An entry: an item and its number. -/
abbrev Ent := Bs × Nat
/-- A list of strings as cells. -/
def cellsS (xs : List Bs) : List Value := xs.map Value.string

theorem own_fr {S : Nat → Prop} {w w' : World} {base : Nat} {e : TypeId} {size n : Nat} {v : Value} {xs : List Value} (h : w.ownsRow base e size v n xs) (hf : Fr S w w') (hn : ∀ i, v.ownBlock = some i → ¬ S i) : w'.ownsRow base e size v n xs := by
  obtain ⟨hl, h | ⟨g, cap, cur, rfl, hb, hh, hr⟩⟩ := h
  · exact ⟨hl, .inl h⟩
  · have hlt : g < w.heap.size := by
      rcases Nat.lt_or_ge g w.heap.size with hlt | hge
      · exact hlt
      · rw [Array.getElem?_eq_none hge] at hh; cases hh
    exact ⟨hl, .inr ⟨g, cap, cur, rfl, hb, (hf.block g hlt (hn g rfl)).trans hh, hr⟩⟩
theorem own_lt {w : World} {base : Nat} {e : TypeId} {size n : Nat} {v : Value} {xs : List Value} (h : w.ownsRow base e size v n xs) {i : Nat} (hi : v.ownBlock = some i) : base ≤ i ∧ i < w.heap.size := h.lt i hi
theorem own_ne {w : World} {base g : Nat} {e t : TypeId} {size n : Nat} {v : Value} {xs : List Value} {cs : Array Value} (h : w.ownsRow base e size v n xs) (hg : Blk w g t cs) (hne : e ≠ t) : v.ownBlock ≠ some g := by
  rcases h.2 with ⟨rfl, _⟩ | ⟨g', cap, cur, rfl, _, hh, _⟩
  · simp [Value.ownBlock]
  · intro he
    have : g' = g := by simpa [Value.ownBlock] using he
    subst this
    exact Blk.ne_ (t := e) hh hg hne rfl
theorem own_ne_map {w : World} {base r c : Nat} {e : TypeId} {size n : Nat} {v : Value} {xs : List Value} {es : Array MapEntry} (h : w.ownsRow base e size v n xs) (hm : Mp w r es c) : v.ownBlock ≠ some r := by
  rcases h.2 with ⟨rfl, _⟩ | ⟨g', cap, cur, rfl, _, hh, _⟩
  · simp [Value.ownBlock]
  · intro he
    have : g' = r := by simpa [Value.ownBlock] using he
    subst this
    unfold Mp at hm
    rw [hh] at hm
    cases hm
theorem blk_ne_map {w : World} {g r c : Nat} {t : TypeId} {cs : Array Value} {es : Array MapEntry} (h : Blk w g t cs) (hm : Mp w r es c) : g ≠ r := by
  rintro rfl
  unfold Blk at h
  unfold Mp at hm
  rw [h] at hm
  cases hm
theorem own_base0 {w : World} {base : Nat} {e : TypeId} {size n : Nat} {v : Value} {xs : List Value} (h : w.ownsRow base e size v n xs) : w.ownsRow 0 e size v n xs := by
  obtain ⟨hl, h | ⟨g, cap, cur, rfl, _, hr⟩⟩ := h
  · exact ⟨hl, .inl h⟩
  · exact ⟨hl, .inr ⟨g, cap, cur, rfl, Nat.zero_le _, hr⟩⟩
/-- What a row of one-cell elements gives. -/
theorem row_form {w : World} {base n : Nat} {e : TypeId} {v : Value} {xs : List Value} (h : w.ownsRow base e 1 v n xs) :
    ∃ A cap, v = .slice A n cap ∧ n ≤ 9223372036854775807 ∧ ∀ k u, xs[k]? = some u → ∃ gi, A = some ⟨gi, 0, none⟩ ∧ w.cell? ⟨gi, k, none⟩ = some u ∧ base ≤ gi ∧ gi < w.heap.size := by
  obtain ⟨hl, ⟨rfl, rfl⟩ | ⟨g, cap, cur, rfl, hb, hh, h1, h2, h3, h4⟩⟩ := h
  · exact ⟨none, 0, rfl, by omega, fun k u hu => by
      have : xs = [] := List.eq_nil_of_length_eq_zero (by omega)
      subst this
      simp at hu⟩
  · unfold maxLen at h2
    refine ⟨_, cap, rfl, by omega, fun k u hu => ⟨g, rfl, ?_, hb, ?_⟩⟩
    · rw [cell_of_row w g k cur e (0, 0) hh, ← Array.getElem?_toList]
      rw [← h4, Nat.mul_one] at hu
      rw [List.getElem?_take] at hu
      split at hu
      · exact hu
      · cases hu
    · rcases Nat.lt_or_ge g w.heap.size with hlt | hge
      · exact hlt
      · rw [Array.getElem?_eq_none hge] at hh; cases hh
theorem cellsS_get {xs : List Bs} {k : Nat} {x : Bs} (h : xs[k]? = some x) : (cellsS xs)[k]? = some (.string x) := by simp [cellsS, h]
theorem Fr.of_row {w w' : World} {row : Option Nat} (h : w.grownBy w' row) : Fr (fun i => row = some i) w w' := ⟨h.os, h.tape, h.output, h.size, fun i hi hn => h.block i hi (fun e => hn e.symm)⟩
theorem fr_trans2 {S S' : Nat → Prop} {w w1 w2 : World} (h : Fr S w w1) (k : Fr S' w1 w2) (hs : ∀ i, i < w.heap.size → S' i → S i) : Fr S w w2 :=
  ⟨k.os.trans h.os, k.tape.trans h.tape, k.output.trans h.output, Nat.le_trans h.size k.size, fun i hi hn => (k.block i (Nat.lt_of_lt_of_le hi h.size) (fun x => hn (hs i hi x))).trans (h.block i hi hn)⟩

/-- Nothing that was there has turned. -/
def Same (w w' : World) : Prop := Fr (fun _ => False) w w'
theorem Same.to {w w' : World} (h : Same w w') (S : Nat → Prop) : Fr S w w' := h.mono fun _ _ x => x.elim
theorem Same.below {w w' : World} (h : Same w w') : Below w.heap.size w w' := Fr.below h (Nat.le_refl _) (fun _ _ x => x.elim)
theorem Same.refl (w : World) : Same w w := Fr.refl _ _
theorem Same.of {w w' : World} (h : Below w.heap.size w w') : Same w w' := Fr.of_new h _
theorem Same.drewN (w : World) (n : Nat) : Same w (w.drewN n) := (Fr.refl _ _).drewN n
theorem same_cell {W W' : World} {p : Addr} {v : Value} (hs : Same W W') (h : W.cell? p = some v) : W'.cell? p = some v := by
  have hl := World.block_lt_of_cell? _ _ h
  have e := hs.block p.block hl (fun x => x)
  rw [← h]
  unfold World.cell?
  rw [e]

/-- Entries as cells. -/
def cellsE (xs : List Ent) : List Value := xs.flatMap fun p => [.string p.1, .int .i64 p.2]
theorem cellsE_len : ∀ ps : List Ent, (cellsE ps).length = ps.length * 2
  | [] => rfl
  | x :: xs => by
    have := cellsE_len xs
    unfold cellsE at this ⊢
    rw [List.flatMap_cons, List.length_append, this, List.length_cons]
    simp
    omega
theorem cellsE_get : ∀ (s : List Ent) (k : Nat) (e : Ent), s[k]? = some e → (cellsE s)[k * 2]? = some (.string e.1) ∧ (cellsE s)[k * 2 + 1]? = some (.int .i64 e.2)
  | [], _, _, h => by simp at h
  | a :: s, 0, e, h => by
    simp at h
    subst h
    simp [cellsE]
  | a :: s, k + 1, e, h => by
    have := cellsE_get s k e (by simpa using h)
    unfold cellsE at this ⊢
    rw [List.flatMap_cons]
    have e1 : (k + 1) * 2 = k * 2 + 2 := by omega
    have e2 : (k + 1) * 2 + 1 = (k * 2 + 1) + 2 := by omega
    rw [e2, e1]
    simpa using this
theorem cellsE_append (a b : List Ent) : cellsE (a ++ b) = cellsE a ++ cellsE b := List.flatMap_append
theorem cellsE_take : ∀ (s : List Ent) (k : Nat), (cellsE s).take (k * 2) = cellsE (s.take k)
  | [], k => by simp [cellsE]
  | a :: s, 0 => by simp [cellsE]
  | a :: s, k + 1 => by
    have := cellsE_take s k
    unfold cellsE at this ⊢
    rw [show (k + 1) * 2 = k * 2 + 1 + 1 by omega]
    simp only [List.flatMap_cons, List.take_succ_cons, List.cons_append, List.nil_append]
    rw [this]
theorem cellsE_one (xs : List Ent) : ∀ u ∈ cellsE xs, u.oneCell' = true := by
  intro u hu
  obtain ⟨x, _, hx⟩ := List.mem_flatMap.1 hu
  simp at hx
  rcases hx with rfl | rfl <;> rfl
/-- A row that is cut at its end. -/
theorem own_cut {w : World} {base e size n cap k : Nat} {A : Option Addr} {xs : List Value} (h : w.ownsRow base e size (.slice A n cap) n xs) (hk : k ≤ n) : w.ownsRow base e size (.slice A k cap) k (xs.take (k * size)) := by
  obtain ⟨hl, ⟨hv, hn⟩ | ⟨g, cap', cur, hv, hb, hh, h1, h2, h3, h4⟩⟩ := h
  · cases hv
    have : k = 0 := by omega
    subst this
    exact ⟨by simp, .inl ⟨rfl, rfl⟩⟩
  · cases hv
    refine ⟨?_, .inr ⟨g, cap, cur, rfl, hb, hh, by omega, h2, h3, ?_⟩⟩
    · rw [List.length_take, hl]
      exact Nat.min_eq_left (Nat.mul_le_mul_right _ hk)
    · rw [← h4, List.take_take, Nat.min_eq_left (Nat.mul_le_mul_right _ hk)]

/-- A bay: its entries and the value that its cell holds. -/
structure Bay where
  es : List Ent
  v : Value
structure YOk (c : Nat) (ys : List (List Ent)) : Prop where
  c1 : 1 ≤ c
  c2 : c ≤ 32
  n1 : 1 ≤ ys.length
  n2 : ys.length ≤ 16
  le : ∀ b ∈ ys, b.length ≤ c
structure IsY (w : World) (g b : Nat) (ls : List Bay) (c p : Nat) : Prop where
  blk : Blk w g 62 #[.slice (some ⟨b, 0, none⟩) ls.length ls.length, .int .i64 c, .int .i64 p]
  arr : Blk w b 65 (ls.map Bay.v).toArray
  row : ∀ (k : Nat) (x : Bay), ls[k]? = some x → w.ownsRow 0 67 2 x.v x.es.length (cellsE x.es)
  apart : ∀ (j k : Nat) (x y : Bay) (i : Nat), ls[j]? = some x → ls[k]? = some y → x.v.ownBlock = some i → y.v.ownBlock = some i → j = k
  ok : YOk c (ls.map Bay.es)
def Own (g b : Nat) (ls : List Bay) (i : Nat) : Prop := i = g ∨ i = b ∨ ∃ (k : Nat) (x : Bay), ls[k]? = some x ∧ x.v.ownBlock = some i
section
variable {S : Nat → Prop} {w w' : World} {g b c p : Nat} {ls : List Bay}
theorem IsY.fr (h : IsY w g b ls c p) (hf : Fr S w w') (hn : ∀ i, Own g b ls i → ¬ S i) : IsY w' g b ls c p :=
  ⟨h.blk.fr hf (hn g (.inl rfl)), h.arr.fr hf (hn b (.inr (.inl rfl))), fun k x hx => own_fr (h.row k x hx) hf (fun i hi => hn i (.inr (.inr ⟨k, x, hx, hi⟩))), h.apart, h.ok⟩
theorem IsY.same (h : IsY w g b ls c p) (hs : Same w w') : IsY w' g b ls c p := h.fr hs (fun _ _ x => x)
theorem IsY.lt (h : IsY w g b ls c p) (i : Nat) (hi : Own g b ls i) : i < w.heap.size := by
  rcases hi with rfl | rfl | ⟨k, x, hx, hi⟩
  · exact h.blk.lt
  · exact h.arr.lt
  · exact (own_lt (h.row k x hx) hi).2
theorem IsY.gb (h : IsY w g b ls c p) : g ≠ b := h.blk.ne_ h.arr (by decide)
theorem IsY.drewN (h : IsY w g b ls c p) (n : Nat) : IsY (w.drewN n) g b ls c p := h.same (Same.drewN w n)
theorem IsY.len (h : IsY w g b ls c p) : 1 ≤ ls.length ∧ ls.length ≤ 16 := by
  have h1 := h.ok.n1
  have h2 := h.ok.n2
  rw [List.length_map] at h1 h2
  exact ⟨h1, h2⟩
theorem IsY.le (h : IsY w g b ls c p) {k : Nat} {x : Bay} (hx : ls[k]? = some x) : x.es.length ≤ c := h.ok.le x.es (List.mem_map.2 ⟨x, List.mem_of_getElem? hx, rfl⟩)
theorem IsY.cell (h : IsY w g b ls c p) {k : Nat} {x : Bay} (hx : ls[k]? = some x) : w.cell? ⟨b, k, none⟩ = some x.v := by
  rw [h.arr.cell]
  simp [hx]
theorem IsY.ng (h : IsY w g b ls c p) {k : Nat} {x : Bay} (hx : ls[k]? = some x) : x.v.ownBlock ≠ some g := own_ne (h.row k x hx) h.blk (by decide)
theorem IsY.nb (h : IsY w g b ls c p) {k : Nat} {x : Bay} (hx : ls[k]? = some x) : x.v.ownBlock ≠ some b := own_ne (h.row k x hx) h.arr (by decide)
end

end Go.Proofs.Ytahommgchnbnjaa
