/-
  Arguments opened to cells: operations, scripts, strings; the walk of small.
-/
import Derived.Test.YteokognbnilkmaaBund
import Derived.ProofKit
import Derived.OpenShut
import Derived.ChangeOld
import Derived.Deep.Slices
import Derived.Deep.Fields
import Derived.ChangeSame
import Derived.Lib.SmallJoins
namespace Go.Proofs.Yteokognbnilkmaa
open Go.ChangeShapes Go.WideShapes Go.ChangeAt Go.RowKit Go.Deep

section
variable {H : Type} {enc : TypeId × Value → H} {P : Program} {w : World} {base : Nat} {spare : Nat → Bool} {held : Bool}
theorem open_slice_fields {t e : TypeId} {fs : Array Field} {fuel : Nat} {cs : List Value} {x : DataW H × List MemPlace} (ht : P.underlying t = some (.slice e)) (he : P.underlying e = some (.struct fs))
    (hone : oneCellFields P fs = true) (hC : P.cellsOf e = fs.size) (h : DataW.trod enc P w base spare held fuel t cs = some x) :
    (cs = [.slice none 0 0] ∧ x = (.nil, [])) ∨
    ∃ (a : Addr) (len cap m : Nat) (D : Nat → DataW H) (Pl : Nat → List MemPlace), cs = [.slice (some a) len cap] ∧ base ≤ a.block ∧ len ≤ cap ∧ cap ≤ maxLen ∧ m = (if spare a.block then cap else len) ∧
      x = (.slice ((List.range len).map D) ((List.range (m - len)).map fun j => D (len + j)), MemPlace.row a (m * fs.size) ++ (List.range m).flatMap Pl) ∧
      ∀ i, i < m → ∃ (ys : List (DataW H × List MemPlace)) (n : Nat), D i = .agg (ys.map (·.1)) ∧ Pl i = ys.flatMap (·.2) ∧ ys.length = fs.size ∧
        ∀ (j : Nat) (f : Field), fs[j]? = some f → ∃ (v : Value) (y : DataW H × List MemPlace), w.cell? (a.add (i * fs.size + j)) = some v ∧ ys[j]? = some y ∧ DataW.trod enc P w base spare held n f.type [v] = some y := by
  rcases open_slice ht h with h0 | ⟨a, len, cap, m, n, D, Pl, hcs, hb, hl, hm, hmm, hx, hi⟩
  · exact .inl h0
  · refine .inr ⟨a, len, cap, m, D, Pl, hcs, hb, hl, hm, hmm, by rw [hC] at hx; exact hx, fun i him => ?_⟩
    obtain ⟨cs', hc, ht'⟩ := hi i him
    rw [hC] at hc
    obtain ⟨ys, n', hn', hy, hlen, hyl, hf⟩ := DataW.trod_struct he ht'
    obtain ⟨_, hcl, hat⟩ := World.cells?_some hc
    simp only [Prod.mk.injEq] at hy
    refine ⟨ys, n', hy.1, hy.2, hyl, fun j f hj => ?_⟩
    obtain ⟨ho, hk⟩ := hone_of hone j f hj
    have hjl : j < fs.size := (Array.getElem?_eq_some_iff.1 hj).1
    have hcell := hat j hjl
    have hv : cs'[j]? = some (cs'[j]'(by omega)) := List.getElem?_eq_getElem (by omega)
    have h1 := hf j f hj
    rw [ho, hk] at h1
    have hone' : (cs'.drop j).take 1 = [cs'[j]'(by omega)] := by
      rw [List.drop_eq_getElem_cons (by omega)]
      rfl
    rw [hone'] at h1
    have hys : ys[j]? = some (ys[j]'(by omega)) := List.getElem?_eq_getElem (by omega)
    refine ⟨_, _, ?_, hys, h1.trans hys⟩
    rw [← Go.Deep.add_add, hcell, hv]
end


/-- An operation as data. -/
structure OpD where
  kind : Int
  key : Bs
  item : Bs
  bin : Int
def OpD.agg (x : OpD) : Value := .agg #[.int .u8 x.kind, .string x.key, .string x.item, .int .i64 x.bin]
def OpD.Wf (x : OpD) : Prop := (0 ≤ x.kind ∧ x.kind ≤ 255) ∧ x.key.size ≤ 9223372036854775807 ∧ x.item.size ≤ 9223372036854775807 ∧ (-9223372036854775808 ≤ x.bin ∧ x.bin ≤ 9223372036854775807)

/-- A slice of operations as it came in. -/
def IsOps (w : World) (A : Option Addr) (len : Nat) (xs : List OpD) : Prop :=
  xs.length = len ∧ len ≤ 9223372036854775807 ∧ ∀ i x, xs[i]? = some x → ∃ b o, A = some ⟨b, o, none⟩ ∧ b < w.heap.size ∧ w.cell? ⟨b, o + i * 4, none⟩ = some (.int .u8 x.kind) ∧ w.cell? ⟨b, o + i * 4 + 1, none⟩ = some (.string x.key) ∧ w.cell? ⟨b, o + i * 4 + 2, none⟩ = some (.string x.item) ∧ w.cell? ⟨b, o + i * 4 + 3, none⟩ = some (.int .i64 x.bin) ∧ x.Wf
theorem IsOps.same {w w' : World} {A : Option Addr} {len : Nat} {xs : List OpD} (h : IsOps w A len xs) (hs : Below w.heap.size w w') : IsOps w' A len xs := by
  obtain ⟨h1, h2, h3⟩ := h
  refine ⟨h1, h2, fun i x hx => ?_⟩
  obtain ⟨b, o, e, hb, c0, c1, c2, c3, hw⟩ := h3 i x hx
  exact ⟨b, o, e, Nat.lt_of_lt_of_le hb hs.size, (hs.cell (p := ⟨b, _, none⟩) hb).trans c0, (hs.cell (p := ⟨b, _, none⟩) hb).trans c1, (hs.cell (p := ⟨b, _, none⟩) hb).trans c2, (hs.cell (p := ⟨b, _, none⟩) hb).trans c3, hw⟩

theorem wfu8 {n : Int} (h : (Lit.int .u8 n).wf = true) : 0 ≤ n ∧ n ≤ 255 := by
  simp only [Lit.wf, Bool.and_eq_true, decide_eq_true_eq] at h
  exact h
theorem wfi64 {n : Int} (h : (Lit.int .i64 n).wf = true) : -9223372036854775808 ≤ n ∧ n ≤ 9223372036854775807 := by
  simp only [Lit.wf, Bool.and_eq_true, decide_eq_true_eq] at h
  exact h
theorem add_of {a : Addr} (h : a.spot = none) (n : Nat) : a.add n = ⟨a.block, a.off + n, none⟩ := by
  obtain ⟨b, o, s⟩ := a
  simp only at h
  subst h
  unfold Addr.add
  split
  · subst n; rfl
  · rfl

theorem open_ops' {H : Type} {enc : TypeId × Value → H} {W : World} {base fuel : Nat} {sp : Nat → Bool} {held : Bool} {v : Value} {y : DataW H × List MemPlace}
    (hf : DataW.trod enc Try.prog W base sp held fuel 22 [v] = some y) : ∃ A len cap xs, v = .slice A len cap ∧ IsOps W A len xs := by
  rcases open_slice_fields Try.underlying22 Try.underlying33 (by kernel_rfl) (by kernel_rfl) hf with ⟨hcs, _⟩ | ⟨a, len, cap, m, D, Pl, hcs, hb, hl, hm, hmm, _, hi⟩
  · simp at hcs
    exact ⟨none, 0, 0, [], hcs, rfl, by omega, by simp⟩
  · simp at hcs
    refine ⟨some a, len, cap, ?_⟩
    unfold maxLen at hm
    have hlm : len ≤ m := by rw [hmm]; split <;> omega
    have key : ∀ i, i < len → ∃ x : OpD, W.cell? (a.add (i * 4)) = some (.int .u8 x.kind) ∧ W.cell? (a.add (i * 4 + 1)) = some (.string x.key) ∧ W.cell? (a.add (i * 4 + 2)) = some (.string x.item) ∧ W.cell? (a.add (i * 4 + 3)) = some (.int .i64 x.bin) ∧ x.Wf := by
      intro i hil
      obtain ⟨ys, n, _, _, _, hfd⟩ := hi i (by omega)
      obtain ⟨v0, y0, hc0, _, ht0⟩ := hfd 0 _ rfl
      obtain ⟨v1, y1, hc1, _, ht1⟩ := hfd 1 _ rfl
      obtain ⟨v2, y2, hc2, _, ht2⟩ := hfd 2 _ rfl
      obtain ⟨v3, y3, hc3, _, ht3⟩ := hfd 3 _ rfl
      obtain ⟨n0, hn0, _, hw0⟩ := DataW.trod_int Try.underlying5 ht0
      obtain ⟨n1, hn1, _, hw1⟩ := DataW.trod_string Try.underlying9 ht1
      obtain ⟨n2, hn2, _, hw2⟩ := DataW.trod_string Try.underlying9 ht2
      obtain ⟨n3, hn3, _, hw3⟩ := DataW.trod_int Try.underlying3 ht3
      simp only [List.cons.injEq, and_true] at hn0 hn1 hn2 hn3
      subst hn0
      subst hn1
      subst hn2
      subst hn3
      unfold maxLen at hw1 hw2
      exact ⟨⟨n0, n1, n2, n3⟩, hc0, hc1, hc2, hc3, wfu8 hw0, by show n1.size ≤ _; omega, by show n2.size ≤ _; omega, wfi64 hw3⟩
    refine ⟨(List.range len).pmap (fun i hi => Classical.choose (key i hi)) (fun i hi => List.mem_range.1 hi), hcs, by simp, by omega, ?_⟩
    intro i x hx
    have hil : i < len := by
      have := (List.getElem?_eq_some_iff.1 hx).1
      simpa using this
    have hxe : x = Classical.choose (key i hil) := by
      have := (List.getElem?_eq_some_iff.1 hx).2
      simpa using this.symm
    obtain ⟨h0, h1, h2, h3, h4⟩ := Classical.choose_spec (key i hil)
    rw [← hxe] at h0 h1 h2 h3 h4
    obtain ⟨x0, h00, _⟩ := key 0 (by omega)
    have hs : a.spot = none := by simpa [Addr.add] using World.cell?_spot h00
    rw [add_of hs] at h0 h1 h2 h3
    have hbl := World.block_lt_of_cell? _ _ h0
    exact ⟨a.block, a.off, by rw [← hs], hbl, h0, h1, h2, h3, h4⟩

theorem open_op {H : Type} {enc : TypeId × Value → H} {W : World} {b0 : Nat} {r : Reach} {base : Nat} {sp : Nat → Bool} {held : Bool} {v : Value} {d : DataW H} {p : List MemPlace} (hv : Value.okWide Try.prog W r b0 33 v)
    (h : DataW.Trod enc Try.prog W base sp held 33 v d p) : ∃ x : OpD, v = x.agg ∧ x.Wf := by
  obtain ⟨cs, rfl, hsz⟩ := okWide_struct Try.underlying33 hv
  obtain ⟨l⟩ := cs
  have hC : Try.prog.cellsOf 33 = 4 := by kernel_rfl
  match l, hsz.trans hC with
  | [c0, c1, c2, c3], _ =>
    obtain ⟨fuel, hf⟩ := h
    obtain ⟨xs, n, _, hx, _, hlen, hg⟩ := DataW.trod_struct Try.underlying33 hf
    have h0 := hg 0 _ rfl
    have h1 := hg 1 _ rfl
    have h2 := hg 2 _ rfl
    have h3 := hg 3 _ rfl
    match xs, hlen with
    | [y0, y1, y2, y3], _ =>
      have k9 : Try.prog.cellsOf 9 = 1 := by kernel_rfl
      have k5 : Try.prog.cellsOf 5 = 1 := by kernel_rfl
      have k3 : Try.prog.cellsOf 3 = 1 := by kernel_rfl
      simp [Value.cells, k9, k5, k3] at h0 h1 h2 h3
      obtain ⟨n0, hn0, _, hw0⟩ := DataW.trod_int Try.underlying5 h0
      obtain ⟨n1, hn1, _, hw1⟩ := DataW.trod_string Try.underlying9 h1
      obtain ⟨n2, hn2, _, hw2⟩ := DataW.trod_string Try.underlying9 h2
      obtain ⟨n3, hn3, _, hw3⟩ := DataW.trod_int Try.underlying3 h3
      simp at hn0 hn1 hn2 hn3
      unfold maxLen at hw1 hw2
      exact ⟨⟨n0, n1, n2, n3⟩, by rw [hn0, hn1, hn2, hn3]; rfl, wfu8 hw0, by show n1.size ≤ _; omega, by show n2.size ≤ _; omega, wfi64 hw3⟩

/-- A script as it came in. -/
structure ScD where
  bins : Int
  cap : Int
  A : Option Addr
  len : Nat
  scap : Nat
  xs : List OpD
def ScD.agg (x : ScD) : Value := .agg #[.int .i64 x.bins, .int .i64 x.cap, .slice x.A x.len x.scap]
structure ScD.Wf (x : ScD) (w : World) : Prop where
  b1 : -9223372036854775808 ≤ x.bins
  b2 : x.bins ≤ 9223372036854775807
  c1 : -9223372036854775808 ≤ x.cap
  c2 : x.cap ≤ 9223372036854775807
  ops : IsOps w x.A x.len x.xs

theorem open_script {H : Type} {enc : TypeId × Value → H} {W : World} {b0 : Nat} {r : Reach} {base : Nat} {sp : Nat → Bool} {held : Bool} {v : Value} {d : DataW H} {p : List MemPlace} (hv : Value.okWide Try.prog W r b0 24 v)
    (h : DataW.Trod enc Try.prog W base sp held 24 v d p) : ∃ x : ScD, v = x.agg ∧ x.Wf W := by
  obtain ⟨cs, rfl, hsz⟩ := okWide_struct Try.underlying24 hv
  obtain ⟨l⟩ := cs
  have hC : Try.prog.cellsOf 24 = 3 := by kernel_rfl
  match l, hsz.trans hC with
  | [c0, c1, c2], _ =>
    obtain ⟨fuel, hf⟩ := h
    obtain ⟨xs, n, _, hx, _, hlen, hg⟩ := DataW.trod_struct Try.underlying24 hf
    have h0 := hg 0 _ rfl
    have h1 := hg 1 _ rfl
    have h2 := hg 2 _ rfl
    match xs, hlen with
    | [y0, y1, y2], _ =>
      have k3 : Try.prog.cellsOf 3 = 1 := by kernel_rfl
      have k22 : Try.prog.cellsOf 22 = 1 := by kernel_rfl
      simp [Value.cells, k3, k22] at h0 h1 h2
      obtain ⟨n0, hn0, _, hw0⟩ := DataW.trod_int Try.underlying3 h0
      obtain ⟨n1, hn1, _, hw1⟩ := DataW.trod_int Try.underlying3 h1
      obtain ⟨A, len, cap, ys, hn2, hops⟩ := open_ops' h2
      simp at hn0 hn1
      exact ⟨⟨n0, n1, A, len, cap, ys⟩, by rw [hn0, hn1, hn2]; rfl, (wfi64 hw0).1, (wfi64 hw0).2, (wfi64 hw1).1, (wfi64 hw1).2, hops⟩

theorem open_str {H : Type} {enc : TypeId × Value → H} {W : World} {b0 : Nat} {r : Reach} {base : Nat} {sp : Nat → Bool} {hd : Bool} {v : Value} {d : DataW H} {p : List MemPlace} (hv : Value.okWide Try.prog W r b0 9 v)
    (h : DataW.Trod enc Try.prog W base sp hd 9 v d p) : ∃ s : Bs, v = .string s ∧ s.size ≤ 9223372036854775807 := by
  obtain ⟨s, rfl⟩ := okWide_string Try.underlying9 hv
  obtain ⟨fuel, hf⟩ := h
  obtain ⟨s', hs, _, hw⟩ := DataW.trod_string Try.underlying9 hf
  simp [Value.cells] at hs
  subst hs
  unfold maxLen at hw
  exact ⟨s, rfl, by omega⟩

/-- How small ends: nothing that was there turns; true only for at most 150 operations. -/
def SmallEnd (w : World) (len : Nat) (e : Ending) (w' : World) : Prop := ∃ b, e = .returned (.bool b) ∧ Same w w' ∧ (b = true → len ≤ 150)

set_option maxRecDepth 100000 in
set_option maxHeartbeats 1000000 in
theorem small_any (x : ScD) (w : World) (hx : x.Wf w) : Calls Try.prog 9 #[x.agg] w (SmallEnd w x.len) := by
  obtain ⟨bn, cp, A, len, scap, xs⟩ := x
  have hops := hx.ops
  simp only at hops
  have hal : Same w (w.alloc (.cells #[.int .i64 bn, .int .i64 cp, .slice A len scap] 24)) := (Fr.refl _ _).alloc _
  have HX := Lib.hid (hops.same hal.below)
  have hml := hops.2.1
  clear hx hops
  unfold ScD.agg
  simp only
  by_cases hlen : (len : Int) > 150
  · go_enter Try.func9, Try.ntmps9
    go_wp2
    go_ret
    exact ⟨false, rfl, hal, fun h => by cases h⟩
  · have hl2 : len ≤ 150 := by omega
    have HL := Lib.hid hl2
    clear hl2
    go_enter Try.func9, Try.ntmps9
    go_wp2
    go_loop [3] (fun i => ∃ k : Nat, k ≤ len ∧ i = .int .i64 k) (fun i => len - (intOf i).toNat)
    case atStart => exact ⟨0, by omega, rfl⟩
    case round =>
      obtain ⟨k, hk, rfl⟩ := hrel
      by_cases hlt : k < len
      · obtain ⟨x, hxk⟩ : ∃ x, xs[k]? = some x := ⟨xs[k]'(by rw [HX.out.1]; exact hlt), List.getElem?_eq_getElem _⟩
        obtain ⟨b, o, rfl, hbl, hc0, hc1, hc2, hc3, hwf⟩ := HX.out.2.2 k x hxk
        obtain ⟨_, s1, s2, _⟩ := hwf
        clear hc0 hxk hc3
        by_cases h1 : (x.key.size : Int) > 100
        · go_wp2
          go_ret
          exact ⟨false, rfl, hal, fun h => by cases h⟩
        · by_cases h2 : (x.item.size : Int) > 100
          · go_wp2
            go_ret
            exact ⟨false, rfl, hal, fun h => by cases h⟩
          · go_wp2
            go_round
            case rel => exact ⟨k + 1, by omega, by go_num⟩
            case measure => simp [intOf]; omega
      · go_wp2
        go_ret
        exact ⟨true, rfl, hal, fun _ => HL.out⟩

end Go.Proofs.Yteokognbnilkmaa
