/-
  Arguments opened to cells: calls, sizes, strings; the walks of short and play.
-/
import Derived.Test.YtahommgchnbnjaaBund
import Derived.ProofKit
import Derived.OpenShut
import Derived.ChangeOld
import Derived.Deep.Slices
import Derived.Deep.Fields
import Derived.ChangeSame
import Derived.Lib.SmallJoins
namespace Go.Proofs.Ytahommgchnbnjaa
open Go.ChangeShapes Go.WideShapes Go.ChangeAt Go.RowKit Go.Deep

section
variable {H : Type} {enc : TypeId × Value → H} {P : Program} {w : World} {base : Nat} {spare : Nat → Bool} {held : Bool}
theorem open_slice_fields {t e : TypeId} {fs : Array Field} {fuel : Nat} {cs : List Value} {x : DataW H × List MemPlace} (ht : P.underlying t = some (.slice e)) (he : P.underlying e = some (.struct fs))
    (hone : oneCellFields P fs = true) (hC : P.cellsOf e = fs.size) (h : DataW.trod enc P w base spare held fuel t cs = some x) :
    (cs = [.slice none 0 0] ∧ x = (.nil, [])) ∨
    ∃ (a : Addr) (len cap m : Nat) (D : Nat → DataW H) (Pl : Nat → List MemPlace), cs = [.slice (some a) len cap] ∧ base ≤ a.block ∧ len ≤ cap ∧ cap ≤ maxLen ∧ m = (if spare a.block then cap else len) ∧
      x = (.slice ((List.range len).map D) ((List.range (m - len)).map fun j => D (len + j)), MemPlace.row a (m * fs.size) ++ (List.range m).flatMap Pl) ∧
      ∀ i, i < m → ∃ (ys : List (DataW H × List MemPlace)) (n : Nat), D i = .agg (ys.map (·.1)) ∧ Pl i = ys.flatMap (·.2) ∧ ys.length = fs.size ∧
        ∀ (j : Nat) (f : Field), fs[j]? = some f → ∃ (v : Value) (y : DataW H × List MemPlace), w.cell? (a.add (i * fs.size + j)) = some v ∧ ys[j]? = some y ∧ DataW.trod enc P w base spare held n f.type [v] = some y := by
  rcases open_slice ht h with h0 | ⟨a, len, cap, m, n, D, Pl, hcs, hb, hl, hm, hmm, hx, hi⟩
  · exact .inl h0
  · refine .inr ⟨a, len, cap, m, D, Pl, hcs, hb, hl, hm, hmm, by rw [hC] at hx; exact hx, fun i him => ?_⟩
    obtain ⟨cs', hc, ht'⟩ := hi i him
    rw [hC] at hc
    obtain ⟨ys, n', hn', hy, hlen, hyl, hf⟩ := DataW.trod_struct he ht'
    obtain ⟨_, hcl, hat⟩ := World.cells?_some hc
    simp only [Prod.mk.injEq] at hy
    refine ⟨ys, n', hy.1, hy.2, hyl, fun j f hj => ?_⟩
    obtain ⟨ho, hk⟩ := hone_of hone j f hj
    have hjl : j < fs.size := (Array.getElem?_eq_some_iff.1 hj).1
    have hcell := hat j hjl
    have hv : cs'[j]? = some (cs'[j]'(by omega)) := List.getElem?_eq_getElem (by omega)
    have h1 := hf j f hj
    rw [ho, hk] at h1
    have hone' : (cs'.drop j).take 1 = [cs'[j]'(by omega)] := by
      rw [List.drop_eq_getElem_cons (by omega)]
      rfl
    rw [hone'] at h1
    have hys : ys[j]? = some (ys[j]'(by omega)) := List.getElem?_eq_getElem (by omega)
    refine ⟨_, _, ?_, hys, h1.trans hys⟩
    rw [← Go.Deep.add_add, hcell, hv]
end


/-- An operation as data. -/
structure OpD where
  kind : Int
  bay : Int
  item : Bs
def OpD.Wf (x : OpD) : Prop := (-9223372036854775808 ≤ x.kind ∧ x.kind ≤ 9223372036854775807) ∧ (-9223372036854775808 ≤ x.bay ∧ x.bay ≤ 9223372036854775807) ∧ x.item.size ≤ 9223372036854775807

/-- A slice of operations as it came in. -/
def IsOps (w : World) (A : Option Addr) (len : Nat) (xs : List OpD) : Prop :=
  xs.length = len ∧ len ≤ 9223372036854775807 ∧ ∀ i x, xs[i]? = some x → ∃ b o, A = some ⟨b, o, none⟩ ∧ b < w.heap.size ∧ w.cell? ⟨b, o + i * 3, none⟩ = some (.int .i64 x.kind) ∧ w.cell? ⟨b, o + i * 3 + 1, none⟩ = some (.int .i64 x.bay) ∧ w.cell? ⟨b, o + i * 3 + 2, none⟩ = some (.string x.item) ∧ x.Wf

theorem wfi64 {n : Int} (h : (Lit.int .i64 n).wf = true) : -9223372036854775808 ≤ n ∧ n ≤ 9223372036854775807 := by
  simp only [Lit.wf, Bool.and_eq_true, decide_eq_true_eq] at h
  exact h
theorem add_of {a : Addr} (h : a.spot = none) (n : Nat) : a.add n = ⟨a.block, a.off + n, none⟩ := by
  obtain ⟨b, o, s⟩ := a
  simp only at h
  subst h
  unfold Addr.add
  split
  · subst n; rfl
  · rfl

theorem open_ops {H : Type} {enc : TypeId × Value → H} {W : World} {b0 : Nat} {r : Reach} {base : Nat} {sp : Nat → Bool} {held : Bool} {v : Value} {d : DataW H} {p : List MemPlace} (hv : Value.okWide Try.prog W r b0 24 v)
    (h : DataW.Trod enc Try.prog W base sp held 24 v d p) : ∃ A len cap xs, v = .slice A len cap ∧ IsOps W A len xs := by
  obtain ⟨A, len, cap, rfl⟩ := okWide_slice Try.underlying24 hv
  refine ⟨A, len, cap, ?_⟩
  obtain ⟨fuel, hf⟩ := h
  rcases open_slice_fields Try.underlying24 Try.underlying34 (by kernel_rfl) (by kernel_rfl) hf with ⟨hcs, _⟩ | ⟨a, len', cap', m, D, Pl, hcs, hb, hl, hm, hmm, _, hi⟩
  · simp [Value.cells] at hcs
    obtain ⟨rfl, rfl, rfl⟩ := hcs
    exact ⟨[], rfl, rfl, by omega, by simp⟩
  · simp [Value.cells] at hcs
    obtain ⟨rfl, rfl, rfl⟩ := hcs
    unfold maxLen at hm
    have hlm : len ≤ m := by rw [hmm]; split <;> omega
    have key : ∀ i, i < len → ∃ x : OpD, W.cell? (a.add (i * 3)) = some (.int .i64 x.kind) ∧ W.cell? (a.add (i * 3 + 1)) = some (.int .i64 x.bay) ∧ W.cell? (a.add (i * 3 + 2)) = some (.string x.item) ∧ x.Wf := by
      intro i hil
      obtain ⟨ys, n, _, _, _, hfd⟩ := hi i (by omega)
      obtain ⟨v0, y0, hc0, _, ht0⟩ := hfd 0 _ rfl
      obtain ⟨v1, y1, hc1, _, ht1⟩ := hfd 1 _ rfl
      obtain ⟨v2, y2, hc2, _, ht2⟩ := hfd 2 _ rfl
      obtain ⟨n0, hn0, _, hw0⟩ := DataW.trod_int Try.underlying3 ht0
      obtain ⟨n1, hn1, _, hw1⟩ := DataW.trod_int Try.underlying3 ht1
      obtain ⟨n2, hn2, _, hw2⟩ := DataW.trod_string Try.underlying9 ht2
      simp only [List.cons.injEq, and_true] at hn0 hn1 hn2
      subst hn0
      subst hn1
      subst hn2
      unfold maxLen at hw2
      exact ⟨⟨n0, n1, n2⟩, hc0, hc1, hc2, wfi64 hw0, wfi64 hw1, by show n2.size ≤ _; omega⟩
    refine ⟨(List.range len).pmap (fun i hi => Classical.choose (key i hi)) (fun i hi => List.mem_range.1 hi), rfl, by simp, by omega, ?_⟩
    intro i x hx
    have hil : i < len := by
      have := (List.getElem?_eq_some_iff.1 hx).1
      simpa using this
    have hxe : x = Classical.choose (key i hil) := by
      have := (List.getElem?_eq_some_iff.1 hx).2
      simpa using this.symm
    obtain ⟨h0, h1, h2, h3⟩ := Classical.choose_spec (key i hil)
    rw [← hxe] at h0 h1 h2 h3
    obtain ⟨x0, h00, _⟩ := key 0 (by omega)
    have hs : a.spot = none := by simpa [Addr.add] using World.cell?_spot h00
    rw [add_of hs] at h0 h1 h2
    have hbl := World.block_lt_of_cell? _ _ h0
    exact ⟨a.block, a.off, by rw [← hs], hbl, h0, h1, h2, h3⟩

theorem IsOps.same {w w' : World} {A : Option Addr} {len : Nat} {xs : List OpD} (h : IsOps w A len xs) (hs : Below w.heap.size w w') : IsOps w' A len xs := by
  obtain ⟨h1, h2, h3⟩ := h
  refine ⟨h1, h2, fun i x hx => ?_⟩
  obtain ⟨b, o, e, hb, c0, c1, c2, hw⟩ := h3 i x hx
  exact ⟨b, o, e, Nat.lt_of_lt_of_le hb hs.size, (hs.cell (p := ⟨b, _, none⟩) hb).trans c0, (hs.cell (p := ⟨b, _, none⟩) hb).trans c1, (hs.cell (p := ⟨b, _, none⟩) hb).trans c2, hw⟩

theorem open_str {H : Type} {enc : TypeId × Value → H} {W : World} {b0 : Nat} {r : Reach} {base : Nat} {sp : Nat → Bool} {hd : Bool} {v : Value} {d : DataW H} {p : List MemPlace} (hv : Value.okWide Try.prog W r b0 9 v)
    (h : DataW.Trod enc Try.prog W base sp hd 9 v d p) : ∃ s : Bs, v = .string s ∧ s.size ≤ 9223372036854775807 := by
  obtain ⟨s, rfl⟩ := okWide_string Try.underlying9 hv
  obtain ⟨fuel, hf⟩ := h
  obtain ⟨s', hs, _, hw⟩ := DataW.trod_string Try.underlying9 hf
  simp [Value.cells] at hs
  subst hs
  unfold maxLen at hw
  exact ⟨s, rfl, by omega⟩
theorem open_i64 {H : Type} {enc : TypeId × Value → H} {W : World} {b0 : Nat} {r : Reach} {base : Nat} {sp : Nat → Bool} {hd : Bool} {v : Value} {d : DataW H} {p : List MemPlace} (hv : Value.okWide Try.prog W r b0 3 v)
    (h : DataW.Trod enc Try.prog W base sp hd 3 v d p) : ∃ n : Int, v = .int .i64 n ∧ -9223372036854775808 ≤ n ∧ n ≤ 9223372036854775807 := by
  obtain ⟨n, rfl⟩ := okWide_int Try.underlying3 hv
  obtain ⟨fuel, hf⟩ := h
  obtain ⟨n', hn, _, hw⟩ := DataW.trod_int Try.underlying3 hf
  simp [Value.cells] at hn
  subst hn
  exact ⟨n, rfl, wfi64 hw⟩
/-- A size as it came in. -/
def SizeV (n c : Int) : Value := .agg #[.int .i64 n, .int .i64 c]
def SizeW (n c : Int) : Prop := (-9223372036854775808 ≤ n ∧ n ≤ 9223372036854775807) ∧ (-9223372036854775808 ≤ c ∧ c ≤ 9223372036854775807)
theorem open_size {H : Type} {enc : TypeId × Value → H} {W : World} {b0 : Nat} {r : Reach} {base : Nat} {sp : Nat → Bool} {held : Bool} {v : Value} {d : DataW H} {p : List MemPlace} (hv : Value.okWide Try.prog W r b0 23 v)
    (h : DataW.Trod enc Try.prog W base sp held 23 v d p) : ∃ n c : Int, v = SizeV n c ∧ SizeW n c := by
  obtain ⟨cs, rfl, hsz⟩ := okWide_struct Try.underlying23 hv
  obtain ⟨l⟩ := cs
  have hC : Try.prog.cellsOf 23 = 2 := by kernel_rfl
  match l, hsz.trans hC with
  | [c0, c1], _ =>
    obtain ⟨fuel, hf⟩ := h
    obtain ⟨xs, n, _, hx, _, hlen, hg⟩ := DataW.trod_struct Try.underlying23 hf
    have h0 := hg 0 _ rfl
    have h1 := hg 1 _ rfl
    match xs, hlen with
    | [y0, y1], _ =>
      have k3 : Try.prog.cellsOf 3 = 1 := by kernel_rfl
      simp [Value.cells, k3] at h0 h1
      obtain ⟨n0, hn0, _, hw0⟩ := DataW.trod_int Try.underlying3 h0
      obtain ⟨n1, hn1, _, hw1⟩ := DataW.trod_int Try.underlying3 h1
      simp at hn0 hn1
      exact ⟨n0, n1, by rw [hn0, hn1]; rfl, wfi64 hw0, wfi64 hw1⟩

/-- How short ends: nothing turns; true only for at most 60 calls. -/
def ShortEnd (w : World) (len : Nat) (e : Ending) (w' : World) : Prop := ∃ b, e = .returned (.bool b) ∧ w = w' ∧ (b = true → len ≤ 60)

set_option maxRecDepth 100000 in
set_option maxHeartbeats 1000000 in
theorem short_any (A : Option Addr) (len cap : Nat) (xs : List OpD) (w : World) (hx : IsOps w A len xs) : Calls Try.prog 9 #[.slice A len cap] w (ShortEnd w len) := by
  have HX := Lib.hid hx
  have hml := hx.2.1
  clear hx
  by_cases hlen : (len : Int) > 60
  · go_enter Try.func9, Try.ntmps9
    go_wp2
    go_ret
    exact ⟨false, rfl, rfl, fun h => by cases h⟩
  · have hl2 : len ≤ 60 := by omega
    have HL := Lib.hid hl2
    clear hl2
    go_enter Try.func9, Try.ntmps9
    go_wp2
    go_loop [3] (fun i => ∃ k : Nat, k ≤ len ∧ i = .int .i64 k) (fun i => len - (intOf i).toNat)
    case atStart => exact ⟨0, by omega, rfl⟩
    case round =>
      obtain ⟨k, hk, rfl⟩ := hrel
      by_cases hlt : k < len
      · obtain ⟨x, hxk⟩ : ∃ x, xs[k]? = some x := ⟨xs[k]'(by rw [HX.out.1]; exact hlt), List.getElem?_eq_getElem _⟩
        obtain ⟨b, o, rfl, hbl, hc0, hc1, hc2, hwf⟩ := HX.out.2.2 k x hxk
        obtain ⟨_, _, s2⟩ := hwf
        clear hc0 hxk hc1
        have hlt2 : (k : Int) < (len : Int) := by omega
        by_cases h2 : (x.item.size : Int) > 20
        · go_wp2
          go_ret
          exact ⟨false, rfl, rfl, fun h => by cases h⟩
        · go_wp2
          go_round
          case rel => exact ⟨k + 1, by omega, by go_num⟩
          case measure => simp [intOf]; omega
      · go_wp2
        go_ret
        exact ⟨true, rfl, rfl, fun _ => HL.out⟩

end Go.Proofs.Ytahommgchnbnjaa
