/-
  The reference's sorter in memory; the walk of its New.
-/
import Derived.Test.YteokognbnilkmaaArgs
namespace Go.Proofs.Yteokognbnilkmaa
open Go.RowKit

/-- A slice of the reference's bins reads as these bins; all its blocks are among K. -/
def RB (K : Nat → Prop) (w : World) (A : Option Addr) (n : Nat) (bs : Bins) : Prop :=
  bs.length = n ∧ n ≤ 16 ∧ (∀ i, InA A i → K i) ∧ ∀ k b, bs[k]? = some b → ∃ g o B cap, A = some ⟨g, o, none⟩ ∧ w.cell? ⟨g, o + k * 2, none⟩ = some (.string b.key) ∧ w.cell? ⟨g, o + k * 2 + 1, none⟩ = some (.slice B b.items.length cap) ∧ g < w.heap.size ∧
    RS w B b.items.length b.items ∧ ∀ i, InA B i → K i
theorem RB.fr {K S : Nat → Prop} {w w' : World} {A : Option Addr} {n : Nat} {bs : Bins} (h : RB K w A n bs) (hf : Fr S w w') (hn : ∀ i, K i → ¬ S i) : RB K w' A n bs := by
  obtain ⟨h1, h2, h3, h4⟩ := h
  refine ⟨h1, h2, h3, fun k b hb => ?_⟩
  obtain ⟨g, o, B, cap, e, c0, c1, hg, hr, hk⟩ := h4 k b hb
  have hng := hn g (h3 g ⟨o, e⟩)
  exact ⟨g, o, B, cap, e, cell_fr hf hng c0, cell_fr hf hng c1, Nat.lt_of_lt_of_le hg hf.size, hr.fr hf (fun i hi => hn i (hk i hi)), hk⟩
theorem RB.same {K : Nat → Prop} {w w' : World} {A : Option Addr} {n : Nat} {bs : Bins} (h : RB K w A n bs) (hs : Same w w') : RB K w' A n bs := h.fr hs (fun _ _ x => x)
theorem RB.keep {K : Nat → Prop} {w w' : World} {A : Option Addr} {n : Nat} {bs : Bins} (h : RB K w A n bs) (hf : Fr (fun i => ¬ K i) w w') : RB K w' A n bs := h.fr hf (fun _ hi hn => hn hi)
theorem RB.mono {K K' : Nat → Prop} {w : World} {A : Option Addr} {n : Nat} {bs : Bins} (h : RB K w A n bs) (hk : ∀ i, K i → K' i) : RB K' w A n bs := by
  obtain ⟨h1, h2, h3, h4⟩ := h
  refine ⟨h1, h2, fun i hi => hk i (h3 i hi), fun k b hb => ?_⟩
  obtain ⟨g, o, B, cap, e, c0, c1, hg, hr, hk'⟩ := h4 k b hb
  exact ⟨g, o, B, cap, e, c0, c1, hg, hr, fun i hi => hk i (hk' i hi)⟩

/-- A reference's sorter as a value. -/
def rv (c : Nat) (A : Option Addr) (n cap : Nat) : Value := .agg #[.int .i64 c, .slice A n cap]

theorem info72 : (Try.prog.info? 72).map (fun i => (i.zero, i.size, i.bytes)) = some (some (.agg #[.string nul, .slice none 0 0]), 2, 40) := by kernel_rfl
theorem made2 (n : Nat) {k : Nat} (hk : k < n) : (madeCells (Value.agg #[.string nul, .slice none 0 0]).cells (n * 2))[k * 2]? = some (.string nul) ∧ (madeCells (Value.agg #[.string nul, .slice none 0 0]).cells (n * 2))[k * 2 + 1]? = some (.slice none 0 0) := by
  have key : ∀ j, j < n * 2 → (madeCells (Value.agg #[.string nul, .slice none 0 0]).cells (n * 2))[j]? = some ((Value.agg #[.string nul, .slice none 0 0]).cells[j % 2]!) := by
    intro j hj
    unfold madeCells
    rw [Array.getElem?_map, Array.getElem?_range, if_pos hj]
    rfl
  constructor
  · rw [key _ (by omega), show k * 2 % 2 = 0 by omega]; rfl
  · rw [key _ (by omega), show (k * 2 + 1) % 2 = 1 by omega]; rfl
theorem InA.none_ {i : Nat} (h : InA none i) : False := by obtain ⟨o, e⟩ := h; cases e

/-- How the reference's New ends. -/
def RNew (w : World) (n c : Nat) (e : Ending) (w' : World) : Prop :=
  ∃ A, e = .returned (.tuple #[rv c A n n, .int .i64 0]) ∧ Same w w' ∧ RB (fun i => w.heap.size ≤ i ∧ i < w'.heap.size) w' A n (List.replicate n emp)

set_option maxRecDepth 100000 in
set_option maxHeartbeats 1000000 in
theorem rnew_any (n c : Nat) (w : World) (h1 : 1 ≤ n) (h2 : n ≤ 16) (h3 : 1 ≤ c) (h4 : c ≤ 32) : Calls Try.prog 15 #[.int .i64 n, .int .i64 c] w (RNew w n c) := by
  obtain ⟨i0, hi0, hz0, hz1, hz2⟩ := info_parts info72
  have hmk := fun W => run_make_rowN (P := Try.prog) 43 72 i0 _ Try.underlying43 hi0 hz0 .i64 .i64 n n (Nat.le_refl _) (by rw [hz2]; omega) (by omega) W
  rw [hz1] at hmk
  have g1 : (1 : Int) ≤ (n : Int) := by omega
  have g2 : (n : Int) ≤ 16 := by omega
  have g3 : (1 : Int) ≤ (c : Int) := by omega
  have g4 : (c : Int) ≤ 32 := by omega
  have HM := Lib.hid (fun k (hk : k < n) => made2 n hk)
  generalize madeCells (Value.agg #[.string nul, .slice none 0 0]).cells (n * 2) = cs at hmk HM
  clear hz1
  go_enter Try.func15, Try.ntmps15
  go_wp2
  refine bodyPost_ret (v := .tuple #[rv c (some ⟨w.heap.size + 1, 0, none⟩) n n, .int .i64 0]) (by simp [results, Try.results15, go_sem, rv]) rfl ?_
  have bk := Blk.new (w.alloc (.cells #[.int .i64 c, .slice (some ⟨w.heap.size + 1, 0, none⟩) n n] 45)) 72 cs
  have hal : Same w ((w.alloc (.cells #[.int .i64 c, .slice (some ⟨w.heap.size + 1, 0, none⟩) n n] 45)).alloc (.cells cs 72)) := ((Fr.refl _ _).alloc _).alloc _
  rw [World.size_alloc] at bk
  refine ⟨_, rfl, hal, by simp, h2, fun i ⟨o, e⟩ => ?_, fun k b hb => ?_⟩
  · cases e
    simp
  · have hk : k < n := by have := (List.getElem?_eq_some_iff.1 hb).1; simpa using this
    have hbe : b = emp := by
      rw [List.getElem?_replicate, if_pos hk] at hb
      exact (Option.some.inj hb).symm
    subst hbe
    obtain ⟨m0, m1⟩ := HM.out k hk
    refine ⟨w.heap.size + 1, 0, none, 0, rfl, ?_, ?_, by simp, RS.nil _ _, fun i hi => hi.none_.elim⟩
    · rw [Nat.zero_add, bk.cell]; exact m0
    · rw [Nat.zero_add, bk.cell]; exact m1

set_option maxHeartbeats 1000000 in
theorem rnew_bad (n c : Int) (w : World) (h : NewBad n c) : Calls Try.prog 15 #[.int .i64 n, .int .i64 c] w fun e w' => e = .returned (.tuple #[rv 0 none 0 0, .int .i64 9]) ∧ Same w w' := by
  by_cases h1 : n < 1
  · clear h
    go_enter Try.func15, Try.ntmps15
    go_wp2
    exact bodyPost_ret (v := .tuple #[rv 0 none 0 0, .int .i64 9]) (by simp [results, Try.results15, go_sem, rv]) rfl ⟨rfl, (Fr.refl _ _).alloc _⟩
  · by_cases h2 : 16 < n
    · clear h
      go_enter Try.func15, Try.ntmps15
      go_wp2
      exact bodyPost_ret (v := .tuple #[rv 0 none 0 0, .int .i64 9]) (by simp [results, Try.results15, go_sem, rv]) rfl ⟨rfl, (Fr.refl _ _).alloc _⟩
    · by_cases h3 : c < 1
      · clear h
        go_enter Try.func15, Try.ntmps15
        go_wp2
        exact bodyPost_ret (v := .tuple #[rv 0 none 0 0, .int .i64 9]) (by simp [results, Try.results15, go_sem, rv]) rfl ⟨rfl, (Fr.refl _ _).alloc _⟩
      · have h4 : 32 < c := by unfold NewBad at h; omega
        clear h
        go_enter Try.func15, Try.ntmps15
        go_wp2
        exact bodyPost_ret (v := .tuple #[rv 0 none 0 0, .int .i64 9]) (by simp [results, Try.results15, go_sem, rv]) rfl ⟨rfl, (Fr.refl _ _).alloc _⟩

end Go.Proofs.Yteokognbnilkmaa
