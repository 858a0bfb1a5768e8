/-
  An append of a whole row onto a row of the call's own.
-/
import Derived.Test.YtahommgchnbnjaaWalkd
import Derived.Laws.OwnMore
import Derived.Deep.Draws
import Derived.Maps.AppendAt
import Derived.Deep.AppendLies
import Derived.RegionTactic
import Derived.OwnWalk
namespace Go.Proofs.Ytahommgchnbnjaa
open Go.RowKit

theorem block_of_add (a : Addr) (n : Nat) : (a.add n).block = a.block := by unfold Addr.add; split <;> rfl
theorem add_of_add (a : Addr) (i j : Nat) : (a.add i).add j = a.add (i + j) := by
  unfold Addr.add
  by_cases hi : i = 0 <;> by_cases hj : j = 0 <;> simp [hi, hj, Nat.add_assoc]

def Reads (w : World) (B size : Nat) (A : Option Addr) (n : Nat) (xs : List Value) : Prop :=
  xs.length = n * size ∧ (0 < n → ∃ ad, A = some ad ∧ ad.block < B ∧ ∀ j u, xs[j]? = some u → w.cell? (ad.add j) = some u)

section
variable {w w' : World} {B B' size n : Nat} {A : Option Addr} {xs : List Value}
theorem Reads.none_ : Reads w B size A 0 [] := ⟨by simp, fun h => absurd h (by omega)⟩
theorem Reads.at_ {k : Nat} (h : Reads w B 1 A n xs) (hk : k < n) : ∃ ad u, A = some ad ∧ ad.block < B ∧ xs[k]? = some u ∧ w.cell? (ad.add k) = some u := by
  obtain ⟨ad, e, hb, hc⟩ := h.2 (by omega)
  have hl : k < xs.length := by have := h.1; omega
  exact ⟨ad, xs[k], e, hb, List.getElem?_eq_getElem hl, hc k _ (List.getElem?_eq_getElem hl)⟩
theorem Reads.keep (h : Reads w B size A n xs) (hk : ∀ p : Addr, p.block < B → w'.cell? p = w.cell? p) : Reads w' B size A n xs :=
  ⟨h.1, fun hn => by
    obtain ⟨ad, e, hb, hc⟩ := h.2 hn
    exact ⟨ad, e, hb, fun j u hu => (hk _ (by rw [block_of_add]; exact hb)).trans (hc j u hu)⟩⟩
theorem Reads.more (h : Reads w B size A n xs) (hB : B ≤ B') : Reads w B' size A n xs :=
  ⟨h.1, fun hn => by
    obtain ⟨ad, e, hb, hc⟩ := h.2 hn
    exact ⟨ad, e, by omega, hc⟩⟩
theorem Reads.below (h : Reads w B size A n xs) (hb : Below B w w') : Reads w' B size A n xs := h.keep fun _ hp => hb.cell hp
theorem Reads.drew (h : Reads w B size A n xs) : Reads w.drew B size A n xs := h
theorem Reads.drewN (h : Reads w B size A n xs) (k : Nat) : Reads (w.drewN k) B size A n xs := h
theorem Reads.alloc (h : Reads w B size A n xs) (hB : B ≤ w.heap.size) (o : Obj) : Reads (w.alloc o) B size A n xs := h.keep fun p hp => World.cell?_alloc_lt w o p (by omega)
theorem Reads.setCell (h : Reads w B size A n xs) {p : Addr} (hB : B ≤ p.block) (u : Value) : Reads (w.setCell p u) B size A n xs :=
  h.keep fun q hq => World.cell?_setCell_other w p q u (fun e => by subst e; omega)
theorem Reads.grown (h : Reads w B size A n xs) {row : Option Nat} (hg : w.grownBy w' row) (hB : B ≤ w.heap.size) (hr : ∀ g, row = some g → B ≤ g) : Reads w' B size A n xs :=
  h.keep fun p hp => World.cell?_of_block (hg.block p.block (by omega) (fun e => by have := hr _ e.symm; omega))
theorem Reads.cut (h : Reads w B size A n xs) {k cap : Nat} (hk : k ≤ n) (hc : n ≤ cap) :
    Reads w B size (if cap = k then A else A.map (·.add (k * size))) (n - k) (xs.drop (k * size)) := by
  refine ⟨by rw [List.length_drop, h.1, Nat.sub_mul], fun hn => ?_⟩
  obtain ⟨ad, rfl, hb, hcell⟩ := h.2 (by omega)
  rw [if_neg (by omega)]
  refine ⟨ad.add (k * size), rfl, by rw [block_of_add]; exact hb, fun j u hu => ?_⟩
  rw [add_of_add]
  exact hcell _ u (by rw [← hu, List.getElem?_drop])
theorem Reads.of_own {base : Nat} {e : TypeId} {c : Nat} (h : w.ownsRow base e size (.slice A n c) n xs) : Reads w w.heap.size size A n xs := by
  refine ⟨h.1, fun hn => ?_⟩
  obtain ⟨g, cap, hv, _, hlt⟩ := h.form hn
  have hA : A = some ⟨g, 0, none⟩ := by injection hv
  subst hA
  exact ⟨_, rfl, hlt, h.cells (g := g) rfl⟩
end

section
variable {P : Program} (w : World)

theorem run_append_of_nil (base : Nat) (t ty e : TypeId) (i : TypeInfo) (size : Nat) (ht : P.underlying t = some (.slice e)) (hi : P.info? e = some i)
    (v : Value) (n : Nat) (xs : List Value) (hown : w.ownsRow base e size v n xs) (c : Nat) : (Builtin.append_ #[t, t] ty #[v, .slice none 0 c]).run P w = .ok v w := by
  rcases hown.2 with ⟨rfl, rfl⟩ | ⟨g, cap, cur, rfl, _, _, hnc, _⟩
  · simp [Builtin.append_, run_underlying ht, sizeOf, typeInfo, hi, Builtin.lenOf, Builtin.firstCells]
  · simp [Builtin.append_, run_underlying ht, sizeOf, typeInfo, hi, Builtin.lenOf, Builtin.firstCells, hnc, storeCells]

theorem run_append_any (base : Nat) (t ty e : TypeId) (i : TypeInfo) (z : Value) (size bytes : Nat) (ht : P.underlying t = some (.slice e)) (hi : P.info? e = some i) (hz : i.zero = some z)
    (hsize : i.size = size) (hby : i.bytes = bytes) (hzs : z.cells.size = size) (hsz : 0 < size)
    (v : Value) (n : Nat) (xs : List Value) (hown : w.ownsRow base e size v n xs)
    (B : Nat) (A : Option Addr) (m c : Nat) (news : List Value) (hr : Reads w B size A m news) (h1 : ∀ u ∈ news, u.oneCell' = true)
    (h63 : n + m ≤ maxLen) (hbytes : (n + m) * bytes ≤ 140737488355328) (hbase : base ≤ w.heap.size) :
    ∃ v' w', (Builtin.append_ #[t, t] ty #[v, .slice A m c]).run P w = .ok v' w' ∧ w'.ownsRow base e size v' (n + m) (xs ++ news) ∧ w.grownBy w' v.ownBlock ∧
      (v'.ownBlock = v.ownBlock ∨ v'.ownBlock = some w.heap.size) := by
  rcases A with _ | ad
  · have hm : m = 0 := by
      rcases Nat.eq_zero_or_pos m with h0 | h0
      · exact h0
      · obtain ⟨ad, h, _⟩ := hr.2 h0
        cases h
    subst hm
    have hn : news = [] := List.eq_nil_of_length_eq_zero (by simpa using hr.1)
    subst hn
    exact ⟨v, w, run_append_of_nil w base t ty e i size ht hi v n xs hown c, by simpa using hown, World.grownBy.refl w _, .inl rfl⟩
  · have hcells : ∀ j u, news[j]? = some u → w.cell? (ad.add j) = some u := by
      intro j u hu
      rcases Nat.eq_zero_or_pos m with h0 | h0
      · subst h0
        have hn : news = [] := List.eq_nil_of_length_eq_zero (by simpa using hr.1)
        subst hn
        simp at hu
      · obtain ⟨ad', h, _, hc⟩ := hr.2 h0
        injection h with h
        subst h
        exact hc j u hu
    obtain ⟨v', w', hrun, h2, h3, _, h5⟩ := run_append_own_at (P := P) w base t ty e i z size bytes ht hi hz hsize hby hzs hsz v n xs hown ad m c news hr.1 hcells h1 h63 hbytes hbase
    exact ⟨v', w', hrun, h2, h3, h5⟩

theorem wp_append_any {o : Oper} {a : Act} {K : Act → World → Prop} {Q : Exit → Act → World → Prop} (s x : Operand) (t : TypeId)
    (ho : o.op = .call { callee := .builtin .append, args := #[s, x], argTypes := #[t, t] })
    (base : Nat) (e : TypeId) (i : TypeInfo) (z : Value) (size bytes : Nat) (ht : P.underlying t = some (.slice e)) (hi : P.info? e = some i) (hz : i.zero = some z)
    (hsize : i.size = size) (hby : i.bytes = bytes) (hzs : z.cells.size = size) (hsz : 0 < size)
    (v : Value) (n : Nat) (xs : List Value) (hs : a.eval s = v) (hown : w.ownsRow base e size v n xs)
    (B : Nat) (A : Option Addr) (m c : Nat) (news : List Value) (hx : a.eval x = .slice A m c) (hr : Reads w B size A m news) (h1 : ∀ u ∈ news, u.oneCell' = true)
    (h63 : n + m ≤ maxLen) (hbytes : (n + m) * bytes ≤ 140737488355328) (hbase : base ≤ w.heap.size)
    (h : ∀ v' w', w'.ownsRow base e size v' (n + m) (xs ++ news) → w.grownBy w' v.ownBlock → (v'.ownBlock = v.ownBlock ∨ v'.ownBlock = some w.heap.size) → K (a.put o.dst v') w') : o.wp P a w K Q := by
  obtain ⟨v', w', hrun, h2, h3, h4⟩ := run_append_any (P := P) w base t o.type e i z size bytes ht hi hz hsize hby hzs hsz v n xs hown B A m c news hr h1 h63 hbytes hbase
  unfold Oper.wp execOp
  simp only [ho, resolve, invoke, builtin, Sem.run_bind, Sem.run_pure, Result.andThen_ok, List.map_toArray, List.map_cons, List.map_nil, hs, hx, hrun]
  exact h v' w' h2 h3 h4

theorem wpList_append_any {ops : Array Oper} {rest : List Oper} {o : Oper} {a : Act} {Q : Exit → Act → World → Prop} (hgd : o.guard = none) (s x : Operand) (t : TypeId)
    (ho : o.op = .call { callee := .builtin .append, args := #[s, x], argTypes := #[t, t] })
    (base : Nat) (e : TypeId) (i : TypeInfo) (z : Value) (size bytes : Nat) (ht : P.underlying t = some (.slice e)) (hi : P.info? e = some i) (hz : i.zero = some z)
    (hsize : i.size = size) (hby : i.bytes = bytes) (hzs : z.cells.size = size) (hsz : 0 < size)
    (v : Value) (n : Nat) (xs : List Value) (hs : a.eval s = v) (hown : w.ownsRow base e size v n xs)
    (B : Nat) (A : Option Addr) (m c : Nat) (news : List Value) (hx : a.eval x = .slice A m c) (hr : Reads w B size A m news) (h1 : ∀ u ∈ news, u.oneCell' = true)
    (h63 : n + m ≤ maxLen) (hbytes : (n + m) * bytes ≤ 140737488355328) (hbase : base ≤ w.heap.size)
    (h : ∀ v' w', w'.ownsRow base e size v' (n + m) (xs ++ news) → w.grownBy w' v.ownBlock → (v'.ownBlock = v.ownBlock ∨ v'.ownBlock = some w.heap.size) → wpList P ops Q rest (a.put o.dst v') w') : wpList P ops Q (o :: rest) a w :=
  wpList_plain hgd fun _ hK => wp_append_any w s x t ho base e i z size bytes ht hi hz hsize hby hzs hsz v n xs hs hown B A m c news hx hr h1 h63 hbytes hbase fun v' w' h2 h3 h4 => hK _ _ (h v' w' h2 h3 h4)

theorem step_append_any {ops : Array Oper} {o : Oper} {a : Act} {K : Act → World → Prop} {Q : Exit → Act → World → Prop} {E : Prop} (hgd : o.guard = none) (s x : Operand) (t : TypeId)
    (ho : o.op = .call { callee := .builtin .append, args := #[s, x], argTypes := #[t, t] })
    (base : Nat) (e : TypeId) (i : TypeInfo) (z : Value) (size bytes : Nat) (ht : P.underlying t = some (.slice e)) (hi : P.info? e = some i) (hz : i.zero = some z)
    (hsize : i.size = size) (hby : i.bytes = bytes) (hzs : z.cells.size = size) (hsz : 0 < size)
    (v : Value) (n : Nat) (xs : List Value) (hs : a.eval s = v) (hown : w.ownsRow base e size v n xs)
    (B : Nat) (A : Option Addr) (m c : Nat) (news : List Value) (hx : a.eval x = .slice A m c) (hr : Reads w B size A m news) (h1 : ∀ u ∈ news, u.oneCell' = true)
    (h63 : n + m ≤ maxLen) (hbytes : (n + m) * bytes ≤ 140737488355328) (hbase : base ≤ w.heap.size)
    (h : ∀ v' w', w'.ownsRow base e size v' (n + m) (xs ++ news) → w.grownBy w' v.ownBlock → (v'.ownBlock = v.ownBlock ∨ v'.ownBlock = some w.heap.size) → K (a.put o.dst v') w') :
    if Region.wanted o (yielded ops a.tmps) = true then Oper.wp P o a w K Q else E := by
  have hw : Region.wanted o (yielded ops a.tmps) = true := by simp [Region.wanted, hgd]
  rw [if_pos hw]
  exact wp_append_any w s x t ho base e i z size bytes ht hi hz hsize hby hzs hsz v n xs hs hown B A m c news hx hr h1 h63 hbytes hbase h
end

theorem addr_add (g o j : Nat) : (⟨g, o, none⟩ : Addr).add j = ⟨g, o + j, none⟩ := by
  by_cases h : j = 0
  · subst h; simp [Addr.add]
  · simp [Addr.add, h]
theorem reads_one (w : World) (t : TypeId) (a : Value) : Reads (w.alloc (.cells #[a] t)) (w.heap.size + 1) 1 (some ⟨w.heap.size, 0, none⟩) 1 [a] := by
  refine ⟨rfl, fun _ => ⟨_, rfl, Nat.lt_succ_self _, fun j u hu => ?_⟩⟩
  have hj : j < 1 := by simpa using (List.getElem?_eq_some_iff.1 hu).1
  rw [addr_add]
  match j, hj with
  | 0, _ => simp at hu; subst hu; simp
theorem same_grown {w w1 w2 : World} {row : Option Nat} (h : Same w w1) (hg : w1.grownBy w2 row) (hr : ∀ g, row = some g → w.heap.size ≤ g) : Same w w2 :=
  ⟨hg.os.trans h.os, hg.tape.trans h.tape, hg.output.trans h.output, Nat.le_trans h.size hg.size, fun i hi hn =>
    (hg.block i (Nat.lt_of_lt_of_le hi h.size) (fun e => by have := hr i e.symm; omega)).trans (h.block i hi hn)⟩
theorem own_base {w : World} {base n g size : Nat} {e : TypeId} {v : Value} {xs : List Value} (h : w.ownsRow base e size v n xs) (hg : v.ownBlock = some g) : base ≤ g := (h.lt g hg).1
theorem one_cellsS (xs : List Bs) : ∀ u ∈ cellsS xs, u.oneCell' = true := by
  intro u hu
  obtain ⟨x, _, rfl⟩ := List.mem_map.1 hu
  rfl

theorem cell_fr {S : Nat → Prop} {w w' : World} {p : Addr} {v : Value} (hf : Fr S w w') (hn : ¬ S p.block) (h : w.cell? p = some v) : w'.cell? p = some v := by
  have hl := World.block_lt_of_cell? _ _ h
  have e := hf.block p.block hl hn
  rw [← h]
  unfold World.cell?
  rw [e]

/-- The slice at A reads as these strings. -/
def RS (w : World) (A : Option Addr) (n : Nat) (xs : List Bs) : Prop :=
  xs.length = n ∧ n ≤ 9223372036854775807 ∧ ∀ k x, xs[k]? = some x → ∃ g o, A = some ⟨g, o, none⟩ ∧ w.cell? ⟨g, o + k, none⟩ = some (.string x) ∧ g < w.heap.size
/-- The block of a slice's address. -/
def InA (A : Option Addr) (i : Nat) : Prop := ∃ o, A = some ⟨i, o, none⟩
theorem InA.none_ {i : Nat} (h : InA none i) : False := by obtain ⟨o, e⟩ := h; cases e

theorem RS.of_own {w : World} {base n : Nat} {xs : List Bs} {v : Value} (h : w.ownsRow base 9 1 v n (cellsS xs)) (hn : xs.length = n) : ∃ A cap, v = .slice A n cap ∧ RS w A n xs ∧ ∀ i, InA A i → v.ownBlock = some i := by
  obtain ⟨A, cap, hv, h1, h2⟩ := row_form h
  refine ⟨A, cap, hv, ⟨hn, h1, fun k x hx => ?_⟩, fun i ⟨o, e⟩ => ?_⟩
  · obtain ⟨gi, e1, e2, _, e3⟩ := h2 k _ (cellsS_get hx)
    exact ⟨gi, 0, e1, by simpa using e2, e3⟩
  · rcases h.2 with ⟨h3, _⟩ | ⟨g', c', cur, h3, _⟩
    · rw [hv] at h3
      cases h3
      cases e
    · rw [h3]
      rw [hv] at h3
      cases h3
      cases e
      rfl
theorem RS.fr {w w' : World} {A : Option Addr} {n : Nat} {xs : List Bs} {S : Nat → Prop} (h : RS w A n xs) (hs : Fr S w w') (hn : ∀ i, InA A i → ¬ S i) : RS w' A n xs := by
  obtain ⟨h1, h2, h3⟩ := h
  refine ⟨h1, h2, fun k x hx => ?_⟩
  obtain ⟨g, o, e1, e2, e3⟩ := h3 k x hx
  exact ⟨g, o, e1, cell_fr hs (hn g ⟨o, e1⟩) e2, Nat.lt_of_lt_of_le e3 hs.size⟩
theorem RS.same {w w' : World} {A : Option Addr} {n : Nat} {xs : List Bs} (h : RS w A n xs) (hs : Same w w') : RS w' A n xs := h.fr hs (fun _ _ x => x)
theorem RS.nil (w : World) (A : Option Addr) : RS w A 0 [] := ⟨rfl, by omega, fun k x hx => by simp at hx⟩
theorem RS.reads {w : World} {A : Option Addr} {n : Nat} {xs : List Bs} (h : RS w A n xs) : Reads w w.heap.size 1 A n (cellsS xs) := by
  obtain ⟨h1, _, h3⟩ := h
  refine ⟨by simp [cellsS, h1], fun hn => ?_⟩
  have hl : 0 < xs.length := by omega
  obtain ⟨g, o, rfl, _, hlt⟩ := h3 0 xs[0] (List.getElem?_eq_getElem hl)
  refine ⟨_, rfl, hlt, fun j u hu => ?_⟩
  simp only [cellsS, List.getElem?_map, Option.map_eq_some_iff] at hu
  obtain ⟨x, hx, rfl⟩ := hu
  obtain ⟨g', o', e, hc, _⟩ := h3 j x hx
  cases e
  rw [addr_add]
  exact hc

theorem info9 : (Try.prog.info? 9).map (fun i => (i.zero, i.size, i.bytes)) = some (some (.string nul), 1, 16) := by kernel_rfl
theorem info67 : (Try.prog.info? 67).map (fun i => (i.zero, i.size, i.bytes)) = some (some (.agg #[.string nul, .int .i64 0]), 2, 24) := by kernel_rfl
theorem info65 : (Try.prog.info? 65).map (fun i => (i.zero, i.size, i.bytes)) = some (some (.agg #[.slice none 0 0]), 1, 24) := by kernel_rfl

/-- What Bay returns. -/
def yBay (ys : Ys) (i : Int) : List Bs := if i < 0 ∨ (ys.length : Int) ≤ i then [] else (ys[i.toNat]?.getD []).map Prod.fst
theorem yBay_out {ys : Ys} {i : Int} (h : i < 0 ∨ (ys.length : Int) ≤ i) : yBay ys i = [] := if_pos h
theorem yBay_in {ys : Ys} {i : Nat} {es : List Ent} (h : ys[i]? = some es) : yBay ys i = es.map Prod.fst := by
  have := (List.getElem?_eq_some_iff.1 h).1
  unfold yBay
  rw [if_neg (by omega), Int.toNat_natCast, h]
  rfl
/-- How Bay ends. -/
def BayE (w : World) (xs : List Bs) (e : Ending) (w' : World) : Prop := ∃ A cap, e = .returned (.slice A xs.length cap) ∧ RS w' A xs.length xs ∧ Same w w' ∧ ∀ i, InA A i → w.heap.size ≤ i ∧ i < w'.heap.size

theorem reads_next (w : World) (o : Obj) (t : TypeId) (a : Value) : Reads ((w.alloc o).alloc (.cells #[a] t)) (w.heap.size + 1 + 1) 1 (some ⟨w.heap.size + 1, 0, none⟩) 1 [a] := by
  have := reads_one (w.alloc o) t a
  simpa using this

set_option maxRecDepth 100000 in
set_option maxHeartbeats 1000000 in
theorem bay_any (g b c p : Nat) (ls : List Bay) (i : Int) (w : World) (h : IsY w g b ls c p) (hi : -9223372036854775808 ≤ i ∧ i ≤ 9223372036854775807) : Calls Try.prog 17 #[.pointer (some ⟨g, 0, none⟩), .int .i64 i] w (BayE w (yBay (ls.map Bay.es) i)) := by
  obtain ⟨i0, hi0, hz0, hz1, hz2⟩ := info_parts info9
  have hl := h.len
  have hc := h.ok.c2
  have H := Lib.hid h
  obtain ⟨n, hn⟩ : ∃ n, ls.length = n := ⟨_, rfl⟩
  have e0 : w.cell? ⟨g, 0, none⟩ = some (.slice (some ⟨b, 0, none⟩) n n) := by rw [← hn]; exact h.blk.cell 0
  rw [hn] at hl
  have HN := Lib.hid hn
  obtain ⟨r, hr⟩ : ∃ r, yBay (ls.map Bay.es) i = r := ⟨_, rfl⟩
  have HR := Lib.hid hr
  rw [hr]
  have out : Hid (i < 0 ∨ (n : Int) ≤ i → r = []) := fun ho => by
    rw [← HR.out]
    exact yBay_out (by rw [List.length_map, HN.out]; exact ho)
  have stay : Hid (r = [] → BayE w r (.returned (.slice none 0 0)) w) := fun e => by
    subst e
    exact ⟨none, 0, rfl, RS.nil _ _, Same.refl _, fun i hi => hi.none_.elim⟩
  clear h hn hr
  by_cases h0 : i < 0
  · go_enter Try.func17, Try.ntmps17
    go_wp2
    go_ret
    exact stay.out (out.out (.inl h0))
  · by_cases h1 : (n : Int) ≤ i
    · go_enter Try.func17, Try.ntmps17
      go_wp2
      go_ret
      exact stay.out (out.out (.inr h1))
    · obtain ⟨k, rfl⟩ : ∃ k : Nat, i = k := ⟨i.toNat, by omega⟩
      have hlt : k < n := by omega
      obtain ⟨y, hy⟩ : ∃ x, ls[k]? = some x := ⟨ls[k]'(by have := HN.out; omega), List.getElem?_eq_getElem _⟩
      have hyl := H.out.le hy
      obtain ⟨A, cap, hv, _, _⟩ := row_formN (H.out.row k y hy)
      have cx : w.cell? ⟨b, k, none⟩ = some (.slice A y.es.length cap) := by rw [← hv]; exact H.out.cell hy
      have HE := Lib.hid (HR.out.symm.trans (yBay_in (bay_get hy)))
      have HV := Lib.hid hv
      have HY := Lib.hid hy
      clear hv hy out stay HR
      go_enter Try.func17, Try.ntmps17
      go_wp2
      go_loopw [5, 32] (fun v i' wr => ∃ m : Nat, m ≤ y.es.length ∧ i' = .int .i64 m ∧ wr.ownsRow w.heap.size 9 1 v m (cellsS ((y.es.take m).map Prod.fst)) ∧ Same w wr) (fun _ i' _ => y.es.length - (intOf i').toNat)
      case atStart => exact ⟨0, by omega, rfl, ⟨by simp [cellsS], .inl ⟨rfl, rfl⟩⟩, Same.refl _⟩
      case round =>
        obtain ⟨m, hm, rfl, hown, hs⟩ := hrel
        by_cases hml : m < y.es.length
        · obtain ⟨e, he⟩ : ∃ e, y.es[m]? = some e := ⟨y.es[m], List.getElem?_eq_getElem hml⟩
          obtain ⟨gi, cap', hv', c0, c1, hgl⟩ := (H.out.same hs).ent HY.out he
          rw [HV.out] at hv'
          cases hv'
          have hml2 : (m : Int) < (y.es.length : Int) := by omega
          have HS := Lib.hid hs
          have HO := Lib.hid hown
          have hsz := hs.size
          have HC : Hid (cellsS ((y.es.take (m + 1)).map Prod.fst) = cellsS ((y.es.take m).map Prod.fst) ++ [.string e.1]) := by
            unfold Hid
            rw [List.take_add_one, he]
            simp [cellsS]
          clear hs hown he
          go_wp2_with ((at_builtin; refine wpList_append_any _ rfl _ _ 31 rfl w.heap.size 9 i0 _ 1 16 Try.underlying31 hi0 hz0 hz1 hz2 rfl (by decide) _ m _ rfl ((HO.out.alloc _).alloc _) (wr.heap.size + 1 + 1) (some ⟨wr.heap.size + 1, 0, none⟩) 1 1 [.string e.1] rfl (reads_next wr _ 9 (.string e.1)) (by simp [Value.oneCell']) (by unfold maxLen; omega) (by omega) (by simp; omega) ?_; intro v' w4 hown4 hgr hat))
          have hs4 : Same w w4 := same_grown (Fr.alloc (Fr.alloc HS.out _) _) hgr (fun g e => own_base HO.out e)
          have HO4 := Lib.hid hown4
          clear hown4 hgr hat
          go_wp2
          go_roundw
          case rel => exact ⟨m + 1, by omega, by go_num, by rw [HC.out]; exact HO4.out, hs4⟩
          case measure => simp [intOf]; omega
        · have hm' : m = y.es.length := by omega
          subst hm'
          obtain ⟨A', cap', rfl, hrs, hin⟩ := RS.of_own hown (by simp)
          have HO := Lib.hid hown
          have HS := Lib.hid hs
          have HRS := Lib.hid hrs
          have HIN := Lib.hid hin
          clear hs hown hrs hin
          go_wp2
          go_ret
          have e1 : r = (y.es.take y.es.length).map Prod.fst := by rw [List.take_length]; exact HE.out
          have e2 : r.length = y.es.length := by rw [e1]; simp
          exact ⟨A', cap', by rw [e2]; rfl, by rw [e2, e1]; exact HRS.out, HS.out, fun i hi => own_lt HO.out (HIN.out i hi)⟩

end Go.Proofs.Ytahommgchnbnjaa
