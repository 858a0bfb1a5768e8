/-
  For StockPlaces: the walk of index, the plain law, what the rounds keep.
-/
import Derived.Test.YtholaaojcpifnaaSpread
import Derived.Deep.RegionHeld3
import Derived.Deep.DrawnRows
namespace Go.Proofs.Ytholaaojcpifnaa.stockPlaces
open Go.ChangeShapes Go.WideShapes Go.ChangeAt Go.RowKit
attribute [local go_sem ↓] Go.wp_at_zero Go.wp_at_succ

theorem same_cell {W W' : World} {p : Addr} {v : Value} (hs : Same W W') (h : W.cell? p = some v) : W'.cell? p = some v := by
  have hl := World.block_lt_of_cell? _ _ h
  have e := hs.block p.block hl (fun x => x)
  rw [← h]
  unfold World.cell?
  rw [e]
theorem fr_trans2 {S S' : Nat → Prop} {w w1 w2 : World} (h : Fr S w w1) (k : Fr S' w1 w2) (hs : ∀ i, i < w.heap.size → S' i → S i) : Fr S w w2 :=
  ⟨k.os.trans h.os, k.tape.trans h.tape, k.output.trans h.output, Nat.le_trans h.size k.size, fun i hi hn => (k.block i (Nat.lt_of_lt_of_le hi h.size) (fun x => hn (hs i hi x))).trans (h.block i hi hn)⟩
theorem sb_growK {w0 w w' : World} {K S : Nat → Prop} {g r : Nat} {s : Stk} (h : SB w0 K w g r s) (hf : Fr S w w') (hS : ∀ i, S i → K i ∧ w0.heap.size ≤ i) : SB w0 (fun i => K i ∨ (w.heap.size ≤ i ∧ i < w'.heap.size)) w' g r s := by
  obtain ⟨v, hv, ho⟩ := h.ex
  refine ⟨⟨v, hv.fr hf (fun i hi hs => (ho i hi).2 (hS i hs).1), fun i hi => ⟨(ho i hi).1, fun x => ?_⟩⟩, h.bel.trans (hf.below h.bel.size (fun i _ hs => (hS i hs).2)), fun i hi => ?_⟩
  · rcases x with x | x
    · exact (ho i hi).2 x
    · have := hv.lt i hi
      omega
  · rcases hi with x | x
    · exact Nat.lt_of_lt_of_le (h.kl i x) hf.size
    · exact x.2

/-! ### How often a string is in a list -/
set_option maxHeartbeats 1000000 in
theorem index_any (A : Option Addr) (n cap : Nat) (xs : List Bs) (x : Bs) (w : World) (h : RS w A n xs) (hn : n ≤ 1000000) : Calls Try.prog 24 #[.slice A n cap, .string x] w fun e w' => e = .returned (.int .i64 (xs.count x : Nat)) ∧ w = w' := by
  obtain ⟨hl, _, hc⟩ := h
  subst hl
  have HC := Lib.hid hc
  clear hc
  have hlen : (xs.length : Int) ≤ 1000000 := by omega
  go_enter Try.func24, Try.ntmps24
  go_wp2
  go_loop [5, 6] (fun m i => ∃ k : Nat, k ≤ xs.length ∧ i = .int .i64 k ∧ m = .int .i64 ((xs.take k).count x : Nat)) (fun _ i => xs.length - (intOf i).toNat)
  case atStart => exact ⟨0, by omega, rfl, rfl⟩
  case round =>
    obtain ⟨k, hk, rfl, rfl⟩ := hrel
    have hcl : (xs.take k).count x ≤ k := Nat.le_trans List.count_le_length (List.length_take_le _ _)
    by_cases hlt : k < xs.length
    · obtain ⟨y, hy⟩ : ∃ y, xs[k]? = some y := ⟨xs[k], List.getElem?_eq_getElem hlt⟩
      obtain ⟨g, of, rfl, c0, _⟩ := HC.out k _ hy
      have hst : (xs.take (k + 1)).count x = (xs.take k).count x + if y = x then 1 else 0 := by
        rw [List.take_add_one, hy, List.count_append]
        by_cases e : y = x
        · subst e; simp
        · simp [e, List.count_cons]
      have HS := Lib.hid hst
      clear hst hy
      by_cases he : y = x
      · have HS2 : Hid ((xs.take (k + 1)).count x = (xs.take k).count x + 1) := by rw [HS.out, if_pos he]; rfl
        subst he
        go_wp2
        go_round
        case rel => exact ⟨k + 1, by omega, by simp, by rw [HS2.out]; simp⟩
        case measure => simp [intOf]; omega
      · have HS2 : Hid ((xs.take (k + 1)).count x = (xs.take k).count x) := by rw [HS.out, if_neg he]; rfl
        have ko : (y.toList == x.toList) = false := (Lib.bytes_beq_false_iff y x).2 he
        clear he
        go_wp2
        go_round
        case rel => exact ⟨k + 1, by omega, by simp, by rw [HS2.out]⟩
        case measure => simp [intOf]; omega
    · have hk2 : k = xs.length := by omega
      subst hk2
      rw [List.take_length] at hcl ⊢
      go_wp2
      go_ret
      exact ⟨rfl, rfl⟩
theorem index_to {A : Option Addr} {n cap c : Nat} {xs : List Bs} {x : Bs} {w : World} (h : RS w A n xs) (hn : n ≤ 1000000) (e : xs.count x = c) : Calls Try.prog 24 #[.slice A n cap, .string x] w fun e w' => e = .returned (.int .i64 (c : Nat)) ∧ w = w' := by
  have := index_any A n cap xs x w h hn
  rwa [e] at this

/-! ### The plain law -/
def rsts (l out : List Bs) : List Bs := l.filter fun x => decide (x ∉ out)
def gns (l out : List Bs) : List Bs := l.filter fun x => decide (x ∈ out)
/-- What is gone in all. -/
def gall (gs l out : List Bs) : List Bs := gs ++ gns l out
theorem rsts_take {l out : List Bs} {k : Nat} {x : Bs} (h : l[k]? = some x) : rsts (l.take (k + 1)) out = if x ∈ out then rsts (l.take k) out else rsts (l.take k) out ++ [x] := by
  rw [List.take_add_one, h]
  unfold rsts
  by_cases hx : x ∈ out <;> simp [hx]
theorem gns_take {l out : List Bs} {k : Nat} {x : Bs} (h : l[k]? = some x) : gns (l.take (k + 1)) out = if x ∈ out then gns (l.take k) out ++ [x] else gns (l.take k) out := by
  rw [List.take_add_one, h]
  unfold gns
  by_cases hx : x ∈ out <;> simp [hx]
theorem rsts_le (l out : List Bs) : (rsts l out).length ≤ l.length := List.length_filter_le _ _
theorem gns_le (l out : List Bs) : (gns l out).length ≤ l.length := List.length_filter_le _ _
theorem rsts_all {s : Stk} (h : SOk s) (o : Bs) : rsts (s.map (·.1)) (held s o) = (sRemove s o).map (·.1) := by
  rw [remove_eq h]
  unfold rsts
  rw [List.filter_map]
  rfl
theorem do_fst {s : Stk} {x : OpD} (h0 : x.kind ≠ 0 ∨ (sDo s x).2.1 ≠ 0) (h3 : x.kind < 3) (hk : 0 ≤ x.kind) : (sDo s x).1.map (·.1) = s.map (·.1) := by
  unfold sDo at h0 ⊢
  by_cases e0 : x.kind = 0
  · simp only [e0, if_true] at h0 ⊢
    have h1 : (sAdd s x.item).2 ≠ 0 := h0.resolve_left (fun h => h rfl)
    unfold sAdd at h1 ⊢
    split
    · rfl
    · split
      · rfl
      · split
        · rfl
        · rename_i a b c
          rw [if_neg a, if_neg b, if_neg c] at h1
          exact absurd rfl h1
  · rw [if_neg e0]
    by_cases e1 : x.kind = 1
    · rw [if_pos e1]
      show (sReserve s x.item x.order).1.map (·.1) = _
      unfold sReserve
      split
      · rfl
      · split
        · rfl
        · split
          · rfl
          · exact setO_fst _ _ _
    · rw [if_neg e1, if_pos (by omega)]
      exact sRelease_fst _ _
theorem do_add {s : Stk} {x : OpD} (h0 : x.kind = 0) (hc : (sDo s x).2.1 = 0) : (sDo s x).1.map (·.1) = s.map (·.1) ++ [x.item] := by
  unfold sDo at hc ⊢
  rw [if_pos h0] at hc ⊢
  simp only at hc ⊢
  unfold sAdd at hc ⊢
  split
  · rename_i a; rw [if_pos a] at hc; cases hc
  · split
    · rename_i a b; rw [if_neg a, if_pos b] at hc; cases hc
    · split
      · rename_i a b c; rw [if_neg a, if_neg b, if_pos c] at hc; cases hc
      · simp
theorem do_rem {s : Stk} {x : OpD} (h3 : ¬ x.kind < 3) : sDo s x = (sRemove s x.order, 0, 0, held s x.order) := by
  unfold sDo
  rw [if_neg (by omega), if_neg (by omega), if_neg (by omega)]
theorem count_one {l : List Bs} {x : Bs} (hn : l.Nodup) (hx : x ∈ l) : l.count x = 1 := by
  rw [List.Nodup.count hn, if_pos hx]
theorem count_none {l : List Bs} {x : Bs} (hx : x ∉ l) : l.count x = 0 := List.count_eq_zero.2 hx

/-- How many of the entries are reserved. -/
def nh (s : Stk) : Nat := (s.filter fun e => decide (e.2 ≠ nul)).length
theorem nh_take {s : Stk} {k : Nat} {x o : Bs} (h : s[k]? = some (x, o)) : nh (s.take (k + 1)) = nh (s.take k) + if o = nul then 0 else 1 := by
  rw [List.take_add_one, h]
  unfold nh
  by_cases ho : o = nul <;> simp [ho]
theorem nh_le (s : Stk) : nh s ≤ s.length := List.length_filter_le _ _
theorem nh_all (s : Stk) : (withs s nul).length + nh s = s.length := by
  unfold withs nh
  rw [List.length_map]
  induction s with
  | nil => rfl
  | cons e s ih =>
    by_cases he : e.2 = nul
    · simp [he] at ih ⊢; omega
    · simp [he] at ih ⊢; omega

/-! ### The relations of the loops -/
def Rel1 (w : World) (g r len : Nat) (vin vg i : Value) (wr : World) : Prop :=
  ∃ (k : Nat) (s : Stk) (gs : List Bs) (K : Nat → Prop), k ≤ len ∧ i = .int .i64 k ∧ SB w K wr g r s ∧ wr.ownsRow w.heap.size 9 1 vin s.length (cellsS (s.map (·.1))) ∧ wr.ownsRow w.heap.size 9 1 vg gs.length (cellsS gs) ∧ gs.length ≤ 512 * k ∧
    (∀ i, vin.ownBlock = some i → K i ∧ vg.ownBlock ≠ some i) ∧ (∀ i, vg.ownBlock = some i → K i)

theorem rel1_add {w w3 w5 : World} {g r len k n : Nat} {s' : Stk} {l gs : List Bs} {K : Nat → Prop} {vin vg v' : Value} {x : Bs} (hlt : k < len) (h3 : SB w K w3 g r s') (hs : s'.map (·.1) = l ++ [x]) (hn : l.length = n) (hin : w3.ownsRow w.heap.size 9 1 vin n (cellsS l)) (hg : w3.ownsRow w.heap.size 9 1 vg gs.length (cellsS gs)) (hl : gs.length ≤ 512 * k)
    (k1 : ∀ i, vin.ownBlock = some i → K i ∧ vg.ownBlock ≠ some i) (k2 : ∀ i, vg.ownBlock = some i → K i) (hown : w5.ownsRow w.heap.size 9 1 v' (n + 1) (cellsS l ++ [.string x])) (hgr : (w3.alloc (.cells #[.string x] 9)).grownBy w5 vin.ownBlock)
    (hat : v'.ownBlock = vin.ownBlock ∨ v'.ownBlock = some (w3.alloc (.cells #[.string x] 9)).heap.size) : Rel1 w g r len v' vg (.int .i64 ((k : Int) + 1)) w5 := by
  have f : Fr (fun i => vin.ownBlock = some i) w3 w5 := ((Fr.refl _ _).alloc _).trans (Fr.of_row hgr)
  have h5 := sb_growK h3 f (fun i hi => ⟨(k1 i hi).1, (own_lt hin hi).1⟩)
  have hz : (w3.alloc (.cells #[.string x] 9)).heap.size = w3.heap.size + 1 := by simp
  have hsz := hgr.size
  refine ⟨k + 1, s', gs, _, by omega, by simp, h5, ?_, own_fr hg f (fun i hi e => (k1 i e).2 hi), by omega, fun i hi => ?_, fun i hi => .inl (k2 i hi)⟩
  · have e : s'.length = n + 1 := by rw [← List.length_map (f := (·.1)), hs, List.length_append, hn]; rfl
    rw [hs, e]
    simpa [cellsS] using hown
  · have hlt5 := (own_lt hown hi).2
    rcases hat with e | e
    · rw [e] at hi
      exact ⟨.inl (k1 i hi).1, (k1 i hi).2⟩
    · rw [e, hz] at hi
      simp only [Option.some.injEq] at hi
      refine ⟨.inr ⟨by omega, hlt5⟩, fun e2 => ?_⟩
      have := (own_lt hg e2).2
      omega
theorem rel1_skip {w w3 : World} {g r len k n : Nat} {s' : Stk} {l gs : List Bs} {K : Nat → Prop} {vin vg : Value} (hlt : k < len) (h3 : SB w K w3 g r s') (hs : s'.map (·.1) = l) (hn : l.length = n) (hin : w3.ownsRow w.heap.size 9 1 vin n (cellsS l)) (hg : w3.ownsRow w.heap.size 9 1 vg gs.length (cellsS gs)) (hl : gs.length ≤ 512 * k)
    (k1 : ∀ i, vin.ownBlock = some i → K i ∧ vg.ownBlock ≠ some i) (k2 : ∀ i, vg.ownBlock = some i → K i) : Rel1 w g r len vin vg (.int .i64 ((k : Int) + 1)) w3 :=
  ⟨k + 1, s', gs, K, by omega, by simp, h3, by rw [hs, show s'.length = n by rw [← List.length_map (f := (·.1)), hs, hn]]; exact hin, hg, by omega, k1, k2⟩

def Rel2 (w w3 : World) (ins out gs : List Bs) (vg0 : Value) (vg vr j : Value) (wr : World) : Prop :=
  ∃ k : Nat, k ≤ ins.length ∧ j = .int .i64 k ∧ wr.ownsRow w3.heap.size 9 1 vr (rsts (ins.take k) out).length (cellsS (rsts (ins.take k) out)) ∧ wr.ownsRow w.heap.size 9 1 vg (gall gs (ins.take k) out).length (cellsS (gall gs (ins.take k) out)) ∧
    Fr (fun i => vg0.ownBlock = some i) w3 wr ∧ (∀ i, vg.ownBlock = some i → vg0.ownBlock = some i ∨ w3.heap.size ≤ i) ∧ (∀ i, vr.ownBlock = some i → vg.ownBlock ≠ some i)
theorem rel2_rest {w w3 wr w5 : World} {ins out gs : List Bs} {vg0 vg vr v' : Value} {k : Nat} {x : Bs} (hx : ins[k]? = some x) (ho : x ∉ out) (h1 : wr.ownsRow w3.heap.size 9 1 vr (rsts (ins.take k) out).length (cellsS (rsts (ins.take k) out)))
    (h2 : wr.ownsRow w.heap.size 9 1 vg (gall gs (ins.take k) out).length (cellsS (gall gs (ins.take k) out))) (f : Fr (fun i => vg0.ownBlock = some i) w3 wr) (l1 : ∀ i, vg.ownBlock = some i → vg0.ownBlock = some i ∨ w3.heap.size ≤ i) (l2 : ∀ i, vr.ownBlock = some i → vg.ownBlock ≠ some i)
    (hown : w5.ownsRow w3.heap.size 9 1 v' ((rsts (ins.take k) out).length + 1) (cellsS (rsts (ins.take k) out) ++ [.string x])) (hgr : (wr.alloc (.cells #[.string x] 9)).grownBy w5 vr.ownBlock) (hat : v'.ownBlock = vr.ownBlock ∨ v'.ownBlock = some (wr.alloc (.cells #[.string x] 9)).heap.size) :
    Rel2 w w3 ins out gs vg0 vg v' (.int .i64 ((k : Int) + 1)) w5 := by
  have hk := (List.getElem?_eq_some_iff.1 hx).1
  have f5 : Fr (fun i => vr.ownBlock = some i) wr w5 := ((Fr.refl _ _).alloc _).trans (Fr.of_row hgr)
  have hz : (wr.alloc (.cells #[.string x] 9)).heap.size = wr.heap.size + 1 := by simp
  refine ⟨k + 1, by omega, by simp, ?_, ?_, fr_trans2 f f5 (fun i hi e => by have := (own_lt h1 e).1; omega), l1, fun i hi => ?_⟩
  · rw [rsts_take hx, if_neg ho]
    simpa [cellsS] using hown
  · rw [show gall gs (ins.take (k + 1)) out = gall gs (ins.take k) out by unfold gall; rw [gns_take hx, if_neg ho]]
    exact own_fr h2 f5 (fun i hi e => l2 i e hi)
  · rcases hat with e | e
    · rw [e] at hi; exact l2 i hi
    · rw [e, hz] at hi
      simp only [Option.some.injEq] at hi
      intro e2
      have := (own_lt h2 e2).2
      omega
theorem rel2_gone {w w3 wr w5 : World} {ins out gs : List Bs} {vg0 vg vr v' : Value} {k : Nat} {x : Bs} (hb : Below w.heap.size w w3) (hx : ins[k]? = some x) (ho : x ∈ out) (h1 : wr.ownsRow w3.heap.size 9 1 vr (rsts (ins.take k) out).length (cellsS (rsts (ins.take k) out)))
    (h2 : wr.ownsRow w.heap.size 9 1 vg (gall gs (ins.take k) out).length (cellsS (gall gs (ins.take k) out))) (f : Fr (fun i => vg0.ownBlock = some i) w3 wr) (l1 : ∀ i, vg.ownBlock = some i → vg0.ownBlock = some i ∨ w3.heap.size ≤ i) (l2 : ∀ i, vr.ownBlock = some i → vg.ownBlock ≠ some i)
    (hown : w5.ownsRow w.heap.size 9 1 v' ((gall gs (ins.take k) out).length + 1) (cellsS (gall gs (ins.take k) out) ++ [.string x])) (hgr : (wr.alloc (.cells #[.string x] 9)).grownBy w5 vg.ownBlock) (hat : v'.ownBlock = vg.ownBlock ∨ v'.ownBlock = some (wr.alloc (.cells #[.string x] 9)).heap.size) :
    Rel2 w w3 ins out gs vg0 v' vr (.int .i64 ((k : Int) + 1)) w5 := by
  have hk := (List.getElem?_eq_some_iff.1 hx).1
  have f5 : Fr (fun i => vg.ownBlock = some i) wr w5 := ((Fr.refl _ _).alloc _).trans (Fr.of_row hgr)
  have hz : (wr.alloc (.cells #[.string x] 9)).heap.size = wr.heap.size + 1 := by simp
  have hfz := f.size
  refine ⟨k + 1, by omega, by simp, ?_, ?_, fr_trans2 f f5 (fun i hi e => (l1 i e).resolve_right (by omega)), fun i hi => ?_, fun i hi => ?_⟩
  · rw [rsts_take hx, if_pos ho]
    exact own_fr h1 f5 (fun i hi e => l2 i hi e)
  · rw [show gall gs (ins.take (k + 1)) out = gall gs (ins.take k) out ++ [x] by unfold gall; rw [gns_take hx, if_pos ho, List.append_assoc], List.length_append]
    simpa [cellsS] using hown
  · rcases hat with e | e
    · rw [e] at hi; exact l1 i hi
    · rw [e, hz] at hi
      simp only [Option.some.injEq] at hi
      right
      omega
  · rcases hat with e | e
    · rw [e]; exact l2 i hi
    · rw [e, hz]
      intro e2
      simp only [Option.some.injEq] at e2
      have := (own_lt h1 hi).2
      omega
theorem rel2_end {w w3 wr : World} {g r len n : Nat} {s : Stk} {o : Bs} {gs : List Bs} {K : Nat → Prop} {vg0 vg vr : Value} (ok : SOk s) (hlt : n < len) (h3 : SB w K w3 g r (sRemove s o)) (hg0 : w3.ownsRow w.heap.size 9 1 vg0 gs.length (cellsS gs)) (hl : gs.length ≤ 512 * n) (k2 : ∀ i, vg0.ownBlock = some i → K i)
    (h1 : wr.ownsRow w3.heap.size 9 1 vr (rsts (s.map (·.1)) (held s o)).length (cellsS (rsts (s.map (·.1)) (held s o)))) (h2 : wr.ownsRow w.heap.size 9 1 vg (gall gs (s.map (·.1)) (held s o)).length (cellsS (gall gs (s.map (·.1)) (held s o))))
    (f : Fr (fun i => vg0.ownBlock = some i) w3 wr) (l1 : ∀ i, vg.ownBlock = some i → vg0.ownBlock = some i ∨ w3.heap.size ≤ i) (l2 : ∀ i, vr.ownBlock = some i → vg.ownBlock ≠ some i) : Rel1 w g r len vr vg (.int .i64 ((n : Int) + 1)) wr := by
  have h5 := sb_growK h3 f (fun i hi => ⟨k2 i hi, (own_lt hg0 hi).1⟩)
  rw [rsts_all ok, List.length_map] at h1
  have hgl := gns_le (s.map (·.1)) (held s o)
  have hle := ok.le
  have hbs := h3.bel.size
  rw [List.length_map] at hgl
  refine ⟨n + 1, sRemove s o, gall gs (s.map (·.1)) (held s o), _, by omega, by simp, h5, ?_, h2, by unfold gall; rw [List.length_append]; omega, fun i hi => ⟨.inr (own_lt h1 hi), l2 i hi⟩, fun i hi => ?_⟩
  · obtain ⟨a, b | ⟨g', cap, cur, e, hb, hr⟩⟩ := h1
    · exact ⟨a, .inl b⟩
    · exact ⟨a, .inr ⟨g', cap, cur, e, Nat.le_trans hbs hb, hr⟩⟩
  · rcases l1 i hi with e | e
    · exact .inl (k2 i e)
    · exact .inr ⟨e, (own_lt h2 hi).2⟩

/-- All that stands behind the first loop. -/
structure Fin (w0 : World) (K : Nat → Prop) (g r : Nat) (s : Stk) (Ai Ag Af : Option Addr) (gs : List Bs) (W : World) : Prop where
  sb : SB w0 K W g r s
  ri : RS W Ai s.length (s.map (·.1))
  rg : RS W Ag gs.length gs
  rf : RS W Af (withs s nul).length (withs s nul)
section
variable {w0 W W' : World} {K : Nat → Prop} {g r : Nat} {s : Stk} {Ai Ag Af : Option Addr} {gs : List Bs}
theorem Fin.same (hs : Same W W') (h : Fin w0 K g r s Ai Ag Af gs W) : Fin w0 K g r s Ai Ag Af gs W' := ⟨h.sb.same hs, h.ri.same hs, h.rg.same hs, h.rf.same hs⟩
theorem Fin.drew (h : Fin w0 K g r s Ai Ag Af gs W) : Fin w0 K g r s Ai Ag Af gs W.drew := Fin.same ((Fr.refl _ _).drew) h
end
def Rel3 (w0 : World) (K : Nat → Prop) (g r : Nat) (s : Stk) (Ai Ag Af : Option Addr) (gs : List Bs) (n i : Value) (W : World) : Prop :=
  ∃ k : Nat, k ≤ s.length ∧ i = .int .i64 k ∧ n = .int .i64 (nh (s.take k) : Nat) ∧ Fin w0 K g r s Ai Ag Af gs W
def Rel4 (w0 : World) (K : Nat → Prop) (g r : Nat) (s : Stk) (Ai Ag Af : Option Addr) (gs : List Bs) (i : Value) (W : World) : Prop :=
  ∃ k : Nat, k ≤ gs.length ∧ i = .int .i64 k ∧ Fin w0 K g r s Ai Ag Af gs W


theorem quiet_left {P : Program} {f : FuncId} {args : Array Value} {w : World} {n : Nat} {v : Value}
    (h : Calls P f args (w.drewN n) fun e w' => e = .returned v ∧ w.drewN n = w') : Calls P f args (w.drewN n) fun e w'' => e = .returned v ∧ ∃ m, w'' = w.drewN m :=
  h.mono fun _ _ ⟨he, hm⟩ => ⟨he, n, hm.symm⟩
theorem RS.drewN {w : World} {A : Option Addr} {n : Nat} {xs : List Bs} (h : RS w A n xs) (m : Nat) : RS (w.drewN m) A n xs := h.same ((Fr.refl _ _).drewN m)
theorem Fin.drewN {w0 W : World} {K : Nat → Prop} {g r : Nat} {s : Stk} {Ai Ag Af : Option Addr} {gs : List Bs} (h : Fin w0 K g r s Ai Ag Af gs W) (m : Nat) : Fin w0 K g r s Ai Ag Af gs (W.drewN m) := h.same ((Fr.refl _ _).drewN m)

section
variable {w0 w w' : World} {K : Nat → Prop} {g r : Nat} {s : Stk}
theorem remove_new {o : Bs} (h : SB w0 K w g r s) : Calls Try.prog 23 #[.pointer (some ⟨g, 0, none⟩), .string o] w fun e w' =>
    ∃ A cap, e = .returned (.slice A (held s o).length cap) ∧ RS w' A (held s o).length (held s o) ∧ Fr (fun i => ¬ K i) w w' ∧ SB w0 (fun i => K i ∨ InA A i) w' g r (sRemove s o) ∧ ∀ i, InA A i → w.heap.size ≤ i := by
  obtain ⟨v, hv, ho⟩ := h.ex
  refine (remove_any g r v s o w hv).mono ?_
  rintro e w' ⟨l, v', he, hown, hv', hf, hat, hne⟩
  obtain ⟨A, cap, hl, hrs⟩ := RS.of_own hown rfl
  subst hl
  have hz := hf.size
  have hbs := h.bel.size
  have hin : ∀ i, InA A i → w.heap.size ≤ i ∧ i < w'.heap.size ∧ v'.ownBlock ≠ some i := by
    rintro i ⟨o', rfl⟩
    rcases hown.2 with ⟨h1, _⟩ | ⟨g', c', cur, h1, h2, h3, _⟩
    · cases h1
    · simp only [Value.slice.injEq, Option.some.injEq, Addr.mk.injEq] at h1
      obtain ⟨⟨h1, _⟩, _⟩ := h1
      subst h1
      refine ⟨h2, ?_, hne i rfl⟩
      rcases Nat.lt_or_ge i w'.heap.size with hlt | hge
      · exact hlt
      · rw [Array.getElem?_eq_none hge] at h3; cases h3
  refine ⟨A, cap, he, hrs, hf.mono fun i _ hi => (ho i hi).2, ⟨⟨v', hv', fun i hi => ?_⟩, h.bel.trans (hf.below hbs (fun i _ hi => (ho i hi).1)), fun i hi => ?_⟩, fun i hi => (hin i hi).1⟩
  · have lg := hv.lt g (.inl rfl)
    have lr := hv.lt r (.inr (.inl rfl))
    rcases hi with e | e | hi
    · refine ⟨(ho i (.inl e)).1, fun x => x.elim (ho i (.inl e)).2 (fun y => ?_)⟩
      have := (hin i y).1
      omega
    · refine ⟨(ho i (.inr (.inl e))).1, fun x => x.elim (ho i (.inr (.inl e))).2 (fun y => ?_)⟩
      have := (hin i y).1
      omega
    · rcases hat i hi with h1 | h1
      · exact ⟨(ho i (.inr (.inr h1))).1, fun x => x.elim (ho i (.inr (.inr h1))).2 (fun y => (hin i y).2.2 hi)⟩
      · refine ⟨by omega, fun x => x.elim (fun y => ?_) (fun y => (hin i y).2.2 hi)⟩
        have := h.kl i y
        omega
  · rcases hi with x | x
    · have := h.kl i x
      omega
    · exact (hin i x).2.1
end
set_option maxHeartbeats 1000000 in
theorem do_new {w0 w : World} {K : Nat → Prop} {g r : Nat} {s : Stk} (x : OpD) (h : SB w0 K w g r s) (h3 : ¬ x.kind < 3) : Calls Try.prog 12 #[.pointer (some ⟨g, 0, none⟩), x.agg] w fun e w' =>
    ∃ A cap, e = .returned (.tuple #[.int .i64 0, .int .i64 0, .slice A (held s x.order).length cap]) ∧ RS w' A (held s x.order).length (held s x.order) ∧ Fr (fun i => ¬ K i) w w' ∧ SB w0 (fun i => K i ∨ InA A i) w' g r (sRemove s x.order) ∧ ∀ i, InA A i → w.heap.size ≤ i := by
  obtain ⟨kd, it, od⟩ := x
  have hal : Same w (w.alloc (.cells #[.int .u8 kd, .string it, .string od] 29)) := (Fr.refl _ _).alloc _
  have h1 := h.same hal
  have HZ : Hid (w.heap.size ≤ (w.alloc (.cells #[.int .u8 kd, .string it, .string od] 29)).heap.size) := hal.size
  clear h
  unfold OpD.agg
  simp only at h3 ⊢
  have k0 : (kd == 0) = false := by simp; omega
  have k1 : (kd == 1) = false := by simp; omega
  have k2 : (kd == 2) = false := by simp; omega
  clear h3
  go_enter Try.func12, Try.ntmps12
  go_wp2_with fail
  refine (remove_new h1).mono ?_
  rintro e w2 ⟨A, cap, rfl, hr, f2, h2, l2⟩
  clear h1
  go_wp2
  refine bodyPost_ret (results_tmp3 rfl _ _ _) rfl ?_
  exact ⟨A, cap, rfl, hr, (hal.to _).trans f2, h2, fun i hi => Nat.le_trans HZ.out (l2 i hi)⟩
end Go.Proofs.Ytholaaojcpifnaa.stockPlaces
