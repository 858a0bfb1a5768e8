/-
  A script, a sorter and what the law keeps, in one word; the plain law of the fullest bin.
-/
import Derived.Test.YteokognbnilkmaaArgs
namespace Go.Proofs.Yteokognbnilkmaa
open Go.RowKit

/-- The script's cells, as the law boxes them. -/
def ScD.cells (x : ScD) : Array Value := #[.int .i64 x.bins, .int .i64 x.cap, .slice x.A x.len x.scap]

theorem ScD.Wf.same {x : ScD} {w w' : World} (h : x.Wf w) (hs : Same w w') : x.Wf w' := ⟨h.b1, h.b2, h.c1, h.c2, h.ops.same hs.below⟩
theorem beq_nat (a b : Nat) : ((a : Int) == (b : Int)) = decide (a = b) := by
  by_cases e : a = b
  · subst e; simp
  · have h : (a : Int) ≠ b := by omega
    rw [decide_eq_false e]
    exact beq_false_of_ne h

structure SX (w0 : World) (K : Nat → Prop) (x : ScD) (W : World) (g b c : Nat) (bs : Bins) : Prop where
  sb : SB w0 K W g b c bs
  box : Blk W w0.heap.size 24 x.cells
  kh : K w0.heap.size
  wf : x.Wf w0

section
variable {w0 W W' : World} {K : Nat → Prop} {x : ScD} {g b c : Nat} {bs bs' : Bins}
theorem SX.ok (h : SX w0 K x W g b c bs) : BOk c bs := h.sb.ok
theorem SX.same (h : SX w0 K x W g b c bs) (hs : Same W W') : SX w0 K x W' g b c bs := ⟨h.sb.same hs, h.box.fr hs (fun x => x), h.kh, h.wf⟩
theorem SX.drew (h : SX w0 K x W g b c bs) : SX w0 K x W.drew g b c bs := h.same ((Fr.refl _ _).drew)
theorem SX.ops (h : SX w0 K x W g b c bs) : IsOps W x.A x.len x.xs := h.wf.ops.same h.sb.bel
theorem SX.mono {K' : Nat → Prop} (h : SX w0 K x W g b c bs) (hk : ∀ i, K' i → K i) (hh : K' w0.heap.size) : SX w0 K' x W g b c bs := ⟨h.sb.mono hk, h.box, hh, h.wf⟩
theorem SX.at0 (h : SX w0 K x W g b c bs) : W.cell? ⟨w0.heap.size, 0, none⟩ = some (.int .i64 x.bins) := h.box.cell 0
theorem SX.at1 (h : SX w0 K x W g b c bs) : W.cell? ⟨w0.heap.size, 1, none⟩ = some (.int .i64 x.cap) := h.box.cell 1
theorem SX.at2 (h : SX w0 K x W g b c bs) : W.cell? ⟨w0.heap.size, 2, none⟩ = some (.slice x.A x.len x.scap) := h.box.cell 2
/-- An operation's cells. -/
theorem SX.op (h : SX w0 K x W g b c bs) {k : Nat} {y : OpD} (hy : x.xs[k]? = some y) : ∃ bb o, x.A = some ⟨bb, o, none⟩ ∧ bb < w0.heap.size ∧ (W.cell? ⟨bb, o + k * 4, none⟩ = some (.int .u8 y.kind) ∧ W.cell? ⟨bb, o + k * 4 + 1, none⟩ = some (.string y.key) ∧ W.cell? ⟨bb, o + k * 4 + 2, none⟩ = some (.string y.item) ∧ W.cell? ⟨bb, o + k * 4 + 3, none⟩ = some (.int .i64 y.bin)) ∧ y.Wf := by
  obtain ⟨bb, o, e, hb, _⟩ := h.wf.ops.2.2 k y hy
  obtain ⟨bb', o', e', _, c0, c1, c2, c3, hw⟩ := h.ops.2.2 k y hy
  rw [e] at e'
  cases e'
  exact ⟨bb, o, e, hb, ⟨c0, c1, c2, c3⟩, hw⟩
theorem SX.opc (h : SX w0 K x W g b c bs) {k bb o : Nat} {y : OpD} (hy : x.xs[k]? = some y) (e : x.A = some ⟨bb, o, none⟩) : W.cell? ⟨bb, o + k * 4, none⟩ = some (.int .u8 y.kind) ∧ W.cell? ⟨bb, o + k * 4 + 1, none⟩ = some (.string y.key) ∧ W.cell? ⟨bb, o + k * 4 + 2, none⟩ = some (.string y.item) ∧ W.cell? ⟨bb, o + k * 4 + 3, none⟩ = some (.int .i64 y.bin) := by
  obtain ⟨bb', o', e', _, hc, _⟩ := h.op hy
  rw [e] at e'
  cases e'
  exact hc
theorem SX.put {k y : Bs} (h : SX w0 K x W g b c bs) : Calls Try.prog 12 #[.pointer (some ⟨g, 0, none⟩), .string k, .string y] W fun e W' =>
    e = .returned (.tuple #[.int .i64 ((sPut c bs k y).2.1 : Nat), .int .i64 (sPut c bs k y).2.2]) ∧ SX w0 K x W' g b c (sPut c bs k y).1 ∧ Fr (fun i => ¬ K i) W W' :=
  (put_sb h.sb).mono fun e W' ⟨he, hs, hf⟩ => ⟨he, ⟨hs, h.box.fr hf (fun hn => hn h.kh), h.kh, h.wf⟩, hf⟩
theorem SX.take {i : Int} (h : SX w0 K x W g b c bs) : Calls Try.prog 13 #[.pointer (some ⟨g, 0, none⟩), .int .i64 i] W fun e W' =>
    ∃ A cap, e = .returned (.tuple #[.string (sTake bs i).2.1, .slice A (sTake bs i).2.2.1.length cap, .int .i64 (sTake bs i).2.2.2]) ∧ RS W' A (sTake bs i).2.2.1.length (sTake bs i).2.2.1 ∧ Fr (fun i => ¬ K i) W W' ∧
      SX w0 (fun i => K i ∨ InA A i) x W' g b c (sTake bs i).1 ∧ ∀ i, InA A i → ¬ K i :=
  (take_sb h.sb).mono fun e W' ⟨A, cap, he, hr, hf, hs, hn⟩ => ⟨A, cap, he, hr, hf, ⟨hs, h.box.fr hf (fun hn => hn h.kh), .inl h.kh, h.wf⟩, hn⟩
theorem SX.take_to {i : Int} {k : Bs} {xs : List Bs} {e : Int} (h : SX w0 K x W g b c bs) (he : sTake bs i = (bs', k, xs, e)) : Calls Try.prog 13 #[.pointer (some ⟨g, 0, none⟩), .int .i64 i] W fun r W' =>
    ∃ A cap, r = .returned (.tuple #[.string k, .slice A xs.length cap, .int .i64 e]) ∧ RS W' A xs.length xs ∧ Fr (fun i => ¬ K i) W W' ∧ SX w0 (fun i => K i ∨ InA A i) x W' g b c bs' ∧ ∀ i, InA A i → ¬ K i := by
  have := h.take (i := i)
  rwa [he] at this
theorem SX.put_to {k y : Bs} {i : Nat} {e : Int} (h : SX w0 K x W g b c bs) (he : sPut c bs k y = (bs', i, e)) : Calls Try.prog 12 #[.pointer (some ⟨g, 0, none⟩), .string k, .string y] W fun r W' =>
    r = .returned (.tuple #[.int .i64 (i : Nat), .int .i64 e]) ∧ SX w0 K x W' g b c bs' ∧ Fr (fun i => ¬ K i) W W' := by
  have := h.put (k := k) (y := y)
  rwa [he] at this
theorem SX.len (h : SX w0 K x W g b c bs) : Calls Try.prog 14 #[.pointer (some ⟨g, 0, none⟩)] W fun e W' => e = .returned (.int .i64 (tot bs : Nat)) ∧ SX w0 K x W' g b c bs ∧ Same W W' :=
  (len_sb h.sb).mono fun e W' ⟨he, _, hs⟩ => ⟨he, h.same hs, hs⟩
theorem SX.len_to {n : Nat} (h : SX w0 K x W g b c bs) (he : tot bs = n) : Calls Try.prog 14 #[.pointer (some ⟨g, 0, none⟩)] W fun e W' => e = .returned (.int .i64 (n : Nat)) ∧ SX w0 K x W' g b c bs ∧ Same W W' := by
  have := h.len
  rwa [he] at this
theorem SX.full_to {o : Option Nat} (h : SX w0 K x W g b c bs) (he : fnd (pFull c) bs = o) : Calls Try.prog 16 #[.pointer (some ⟨g, 0, none⟩)] W fun e W' => e = .returned (.tuple #[.int .i64 (o.getD 0 : Nat), .bool o.isSome]) ∧ SX w0 K x W' g b c bs ∧ Same W W' :=
  (Go.Proofs.Yteokognbnilkmaa.full_to h.sb he).mono fun e W' ⟨he, _, hs⟩ => ⟨he, h.same hs, hs⟩
theorem SX.fullest_to {i n : Nat} {f : Bool} (h : SX w0 K x W g b c bs) (he : most bs = (i, n)) (hf : decide (0 < n) = f) : Calls Try.prog 17 #[.pointer (some ⟨g, 0, none⟩)] W fun e W' => e = .returned (.tuple #[.int .i64 (i : Nat), .bool f]) ∧ SX w0 K x W' g b c bs ∧ Same W W' :=
  (Go.Proofs.Yteokognbnilkmaa.fullest_to h.sb he hf).mono fun e W' ⟨he, _, hs⟩ => ⟨he, h.same hs, hs⟩
end
theorem sx_new {w W : World} (x : ScD) (hx : x.Wf w) (hs : Same (w.alloc (.cells x.cells 24)) W) (n c : Nat) (h1 : 1 ≤ n) (h2 : n ≤ 16) (h3 : 1 ≤ c) (h4 : c ≤ 32) : Calls Try.prog 11 #[.int .i64 n, .int .i64 c] W fun e w' =>
    e = .returned (.tuple #[.pointer (some ⟨W.heap.size + 1, 0, none⟩), .int .i64 0]) ∧ SX w (fun i => i = w.heap.size) x w' (W.heap.size + 1) W.heap.size c (List.replicate n emp) := by
  have hz := hs.size
  have hz0 : (w.alloc (.cells x.cells 24)).heap.size = w.heap.size + 1 := by simp
  refine (new_any n c W h1 h2 h3 h4).mono ?_
  rintro e w' ⟨he, ls, hS, hb, ho, hbel⟩
  have hbz := hbel.size
  have sW : Same w W := Fr.trans ((Fr.refl _ _).alloc _) hs
  have b0 := (Blk.new w 24 x.cells).fr hs (fun x => x)
  exact ⟨he, ⟨⟨ls, hS, hb, fun i hi => by have := ho i hi; exact ⟨by omega, by omega⟩⟩, sW.below.trans (hbel.mono sW.size), fun i hi => by omega⟩, b0.below hbel b0.lt, rfl, hx⟩

/-! ### The plain law of the fullest bin -/
theorem most_spec {bs : Bins} : ∀ k, k ≤ bs.length → (∀ b ∈ bs.take k, b.items.length ≤ (most (bs.take k)).2) ∧ (0 < (most (bs.take k)).2 → ∃ b, bs[(most (bs.take k)).1]? = some b ∧ b.items.length = (most (bs.take k)).2)
  | 0, _ => by simp [most]
  | k + 1, hk => by
    obtain ⟨i1, i2⟩ := most_spec (bs := bs) k (by omega)
    have hb : bs[k]? = some bs[k] := List.getElem?_eq_getElem (by omega)
    rw [most_take hb]
    rw [List.take_add_one, hb]
    by_cases h : (most (bs.take k)).2 < bs[k].items.length
    · rw [if_pos h]
      refine ⟨fun b hm => ?_, fun _ => ⟨bs[k], hb, rfl⟩⟩
      rcases List.mem_append.1 hm with hm | hm
      · have := i1 b hm; simp only; omega
      · simp at hm; subst hm; exact Nat.le_refl _
    · rw [if_neg h]
      refine ⟨fun b hm => ?_, i2⟩
      rcases List.mem_append.1 hm with hm | hm
      · exact i1 b hm
      · simp at hm; subst hm; omega
theorem most_max {bs : Bins} : (∀ b ∈ bs, b.items.length ≤ (most bs).2) ∧ (0 < (most bs).2 → ∃ b, bs[(most bs).1]? = some b ∧ b.items.length = (most bs).2) := by
  have := most_spec (bs := bs) bs.length (Nat.le_refl _)
  rwa [List.take_length] at this
theorem tot_zero {bs : Bins} (h : ∀ b ∈ bs, b.items.length = 0) : tot bs = 0 := by
  have := tot_le (c := 0) bs (fun b hb => by rw [h b hb]; exact Nat.le_refl _)
  omega
theorem tot_mem : ∀ {bs : Bins} {i : Nat} {b : Bin}, bs[i]? = some b → b.items.length ≤ tot bs ∧ tot (bs.set i ⟨nul, []⟩) + b.items.length = tot bs
  | [], _, _, h => by simp at h
  | a :: bs, 0, b, h => by
    simp at h
    subst h
    simp [tot]
    omega
  | a :: bs, i + 1, b, h => by
    obtain ⟨h1, h2⟩ := tot_mem (bs := bs) (i := i) (b := b) (by simpa using h)
    simp only [tot, List.set_cons_succ, List.map_cons, List.sum_cons] at h1 h2 ⊢
    omega
theorem tot_pos {bs : Bins} (h : 0 < tot bs) : 0 < (most bs).2 := by
  rcases Nat.eq_zero_or_pos (most bs).2 with e | e
  · have h1 := (most_max (bs := bs)).1
    rw [e] at h1
    have := tot_zero (bs := bs) (fun b hb => Nat.le_zero.1 (h1 b hb))
    omega
  · exact e
theorem tot_none {bs : Bins} (h : tot bs = 0) {b : Bin} (hb : b ∈ bs) : b.items = [] := by
  obtain ⟨i, hi⟩ := List.getElem?_of_mem hb
  have := (tot_mem hi).1
  exact List.eq_nil_of_length_eq_zero (by omega)
theorem most_zero {bs : Bins} (h : tot bs = 0) : most bs = (0, 0) := by
  have key : ∀ k, k ≤ bs.length → most (bs.take k) = (0, 0) := by
    intro k
    induction k with
    | zero => intro _; simp [most]
    | succ k ih =>
      intro hk
      have hb : bs[k]? = some bs[k] := List.getElem?_eq_getElem (by omega)
      rw [most_take hb, ih (by omega), tot_none h (List.getElem_mem _)]
      rfl
  have := key bs.length (Nat.le_refl _)
  rwa [List.take_length] at this
theorem take_most {bs : Bins} {i n : Nat} (hm : most bs = (i, n)) (hn : 0 < n) : ∃ b, bs[i]? = some b ∧ b.items.length = n ∧ sTake bs (i : Int) = (bs.set i ⟨nul, []⟩, b.key, b.items, 0) := by
  obtain ⟨b, hb, hl⟩ := (most_max (bs := bs)).2 (by rw [hm]; exact hn)
  rw [hm] at hb hl
  have hi := (List.getElem?_eq_some_iff.1 hb).1
  refine ⟨b, hb, hl, ?_⟩
  unfold sTake
  rw [if_neg (by omega), Int.toNat_natCast, hb]
  have : b.items ≠ [] := fun e => by rw [e] at hl; simp at hl; omega
  simp [this]

end Go.Proofs.Yteokognbnilkmaa
