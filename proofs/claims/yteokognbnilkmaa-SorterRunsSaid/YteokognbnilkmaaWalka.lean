/-
  The walks of New, Len, Fullest, Full and Take.
-/
import Derived.Test.YteokognbnilkmaaFind
import Derived.Laws.MakeOwn
namespace Go.Proofs.Yteokognbnilkmaa
open Go.RowKit

theorem run_make_rowN {P : Program} (t e : TypeId) (i : TypeInfo) (z : Value) (ht : P.underlying t = some (.slice e)) (hi : P.info? e = some i) (hz : i.zero = some z)
    (kl kc : IntKind) (n c : Nat) (hnc : n ≤ c) (hbytes : i.bytes * c ≤ 281474976710656) (h63 : c ≤ 9223372036854775807) (w : World) :
    (Instr.makeSlice t (.int kl (n : Int)) (.int kc (c : Int))).run P w = .ok (.slice (some ⟨w.heap.size, 0, none⟩) n c) (w.alloc (.cells (madeCells z.cells (c * i.size)) e)) := by
  have hb : (i.bytes : Int) * (c : Int) ≤ 281474976710656 := by
    have h : ((i.bytes * c : Nat) : Int) ≤ 281474976710656 := by omega
    rwa [Int.natCast_mul] at h
  have hr := run_make (P := P) w t e i z ht hi hz kl kc n c (by omega) (by omega) hb (by omega)
  simp only [Int.toNat_natCast] at hr
  exact hr

theorem info9 : (Try.prog.info? 9).map (fun i => (i.zero, i.size, i.bytes)) = some (some (.string nul), 1, 16) := by kernel_rfl
theorem info64 : (Try.prog.info? 64).map (fun i => (i.zero, i.size, i.bytes)) = some (some (.agg #[.string nul, .slice none 0 0, .map none]), 3, 48) := by kernel_rfl

/-- The bins of a new sorter, the maps of the first k of them made. -/
def newL (h n k : Nat) : List Cl := (List.range n).map fun j => ⟨nul, [], .slice none 0 0, if j < k then .map (some (h + 2 + j)) else .map none⟩
theorem newL_len (h n k : Nat) : (newL h n k).length = n := by simp [newL]
theorem newL_get {h n k j : Nat} (hj : j < n) : (newL h n k)[j]? = some ⟨nul, [], .slice none 0 0, if j < k then .map (some (h + 2 + j)) else .map none⟩ := by
  unfold newL
  rw [List.getElem?_map, List.getElem?_range hj]
  rfl
theorem newL_step {h n k : Nat} : (newL h n k).modify k (fun x => { x with m := .map (some (h + 2 + k)) }) = newL h n (k + 1) := by
  apply List.ext_getElem?
  intro j
  rw [List.getElem?_modify]
  by_cases hj : j < n
  · rw [newL_get hj, newL_get hj]
    by_cases e : k = j
    · subst e; simp
    · have : (j < k + 1) ↔ (j < k) := by omega
      simp [e, this]
  · rw [List.getElem?_eq_none (by rw [newL_len]; omega), List.getElem?_eq_none (by rw [newL_len]; omega)]
    rfl
theorem made_newL (h n : Nat) : madeCells (Value.agg #[.string nul, .slice none 0 0, .map none]).cells (n * 3) = (cells3 (newL h n 0)).toArray := by
  apply Array.ext'
  apply List.ext_getElem?
  intro j
  by_cases hj : j < n * 3
  · have hk : j / 3 < n := by omega
    obtain ⟨h0, h1, h2⟩ := cells3_get (newL h n 0) (j / 3) _ (newL_get hk)
    have hl : (madeCells (Value.agg #[.string nul, .slice none 0 0, .map none]).cells (n * 3)).toList[j]? = some ((Value.agg #[.string nul, .slice none 0 0, .map none]).cells[j % 3]!) := by
      unfold madeCells
      rw [Array.getElem?_toList, Array.getElem?_map, Array.getElem?_range, if_pos hj]
      rfl
    rw [hl]
    show _ = (cells3 (newL h n 0))[j]?
    have hm : j % 3 = 0 ∨ j % 3 = 1 ∨ j % 3 = 2 := by omega
    rcases hm with hm | hm | hm
    · rw [hm, show j = j / 3 * 3 by omega, h0]; rfl
    · rw [hm, show j = j / 3 * 3 + 1 by omega, h1]; rfl
    · rw [hm, show j = j / 3 * 3 + 2 by omega, h2]; rfl
  · rw [List.getElem?_eq_none, List.getElem?_eq_none]
    · show (cells3 (newL h n 0)).length ≤ j
      rw [cells3_len, newL_len]; omega
    · rw [Array.length_toList, size_madeCells]; omega
def emp : Bin := ⟨nul, []⟩
theorem newL_bins (h n k : Nat) : (newL h n k).map Cl.bin = List.replicate n emp := by
  apply List.ext_getElem?
  intro j
  by_cases hj : j < n
  · rw [List.getElem?_map, newL_get hj, List.getElem?_replicate, if_pos hj]; rfl
  · rw [List.getElem?_eq_none (by rw [List.length_map, newL_len]; omega), List.getElem?_eq_none (by rw [List.length_replicate]; omega)]
theorem new_ok {n c : Nat} (h1 : 1 ≤ n) (h2 : n ≤ 16) (h3 : 1 ≤ c) (h4 : c ≤ 32) : BOk c (List.replicate n emp) :=
  ⟨h3, h4, by simpa using h1, by simpa using h2, fun b hb => by rw [List.eq_of_mem_replicate hb]; exact Nat.zero_le _, fun b hb _ => by rw [List.eq_of_mem_replicate hb]; rfl⟩

/-- What holds at the head of each round of New. -/
def NRel (w : World) (n c : Nat) (i : Value) (wr : World) : Prop :=
  ∃ k : Nat, k ≤ n ∧ i = .int .i64 k ∧ wr.heap.size = w.heap.size + 2 + k ∧ Blk wr (w.heap.size + 1) 61 #[.slice (some ⟨w.heap.size, 0, none⟩) n n, .int .i64 c] ∧ Blk wr w.heap.size 64 (cells3 (newL w.heap.size n k)).toArray ∧
    (∀ j, j < k → Mp wr (w.heap.size + 2 + j) #[] 0) ∧ Below w.heap.size w wr
theorem nrel_next {w wr : World} {n c k : Nat} (hk : k < n) (hz : wr.heap.size = w.heap.size + 2 + k) (h1 : Blk wr (w.heap.size + 1) 61 #[.slice (some ⟨w.heap.size, 0, none⟩) n n, .int .i64 c]) (h2 : Blk wr w.heap.size 64 (cells3 (newL w.heap.size n k)).toArray)
    (h3 : ∀ j, j < k → Mp wr (w.heap.size + 2 + j) #[] 0) (h4 : Below w.heap.size w wr) : NRel w n c (.int .i64 ((k : Int) + 1)) ((wr.alloc (.map #[] 0)).setCell ⟨w.heap.size, k * 3 + 2, none⟩ (.map (some wr.heap.size))) := by
  have a2 := arr_set2 (h2.alloc (.map #[] 0)) k (.map (some wr.heap.size))
  rw [hz, newL_step] at a2
  have fs : Fr (fun i => i = w.heap.size) (wr.alloc (.map #[] 0)) ((wr.alloc (.map #[] 0)).setCell ⟨w.heap.size, k * 3 + 2, none⟩ (.map (some wr.heap.size))) := (Fr.refl _ _).setCell _ _ (.inl rfl)
  have fa : Fr (fun i => i = w.heap.size) wr (wr.alloc (.map #[] 0)) := (Fr.refl _ _).alloc _
  refine ⟨k + 1, by omega, by simp, ?_, (h1.fr fa (by omega)).fr fs (by omega), by rw [hz]; exact a2, fun j hj => ?_, ?_⟩
  · simp [World.setCell, hz]; omega
  · by_cases e : j = k
    · subst e
      have := (Mp.new wr #[] 0).fr fs (by omega)
      rw [hz] at this ⊢
      exact this
    · exact ((h3 j (by omega)).fr fa (by omega)).fr fs (by omega)
  · exact (h4.alloc h4.size _).setCell (Nat.le_refl _) _

/-- How New ends. -/
def NewE (w : World) (n c : Nat) (e : Ending) (w' : World) : Prop :=
  e = .returned (.tuple #[.pointer (some ⟨w.heap.size + 1, 0, none⟩), .int .i64 0]) ∧ ∃ ls, IsSo w' (w.heap.size + 1) w.heap.size ls c ∧ ls.map Cl.bin = List.replicate n emp ∧ (∀ i, Own (w.heap.size + 1) w.heap.size ls i → w.heap.size ≤ i) ∧ Below w.heap.size w w'
theorem new_end {w wr : World} {n c : Nat} (h1 : 1 ≤ n) (h2 : n ≤ 16) (h3 : 1 ≤ c) (h4 : c ≤ 32) (b1 : Blk wr (w.heap.size + 1) 61 #[.slice (some ⟨w.heap.size, 0, none⟩) n n, .int .i64 c]) (b2 : Blk wr w.heap.size 64 (cells3 (newL w.heap.size n n)).toArray)
    (b3 : ∀ j, j < n → Mp wr (w.heap.size + 2 + j) #[] 0) (b4 : Below w.heap.size w wr) : NewE w n c (.returned (.tuple #[.pointer (some ⟨w.heap.size + 1, 0, none⟩), .int .i64 0])) wr := by
  have key : ∀ (i : Nat) (x : Cl), (newL w.heap.size n n)[i]? = some x → i < n ∧ x = ⟨nul, [], .slice none 0 0, .map (some (w.heap.size + 2 + i))⟩ := by
    intro i x hx
    have hi : i < n := by have := (List.getElem?_eq_some_iff.1 hx).1; rwa [newL_len] at this
    rw [newL_get hi, if_pos hi] at hx
    exact ⟨hi, (Option.some.inj hx).symm⟩
  refine ⟨rfl, newL w.heap.size n n, ⟨by rw [newL_len]; exact b1, b2, fun i x hx => ?_, fun i j x y a hx hy ha hb => ?_, by rw [newL_bins]; exact new_ok h1 h2 h3 h4⟩, newL_bins _ _ _, fun i hi => ?_, b4⟩
  · obtain ⟨hi, rfl⟩ := key i x hx
    exact ⟨⟨by simp [cellsS], .inl ⟨rfl, rfl⟩⟩, _, [], rfl, ⟨#[], 0, b3 i hi, rfl, by simp⟩, fun q => by simp [getG]⟩
  · obtain ⟨hi, rfl⟩ := key i x hx
    obtain ⟨hj, rfl⟩ := key j y hy
    simp [Cl.In, Value.ownBlock] at ha hb
    omega
  · rcases hi with e | e | ⟨k, x, hx, hi⟩
    · omega
    · omega
    · obtain ⟨hk, rfl⟩ := key k x hx
      simp [Cl.In, Value.ownBlock] at hi
      omega

set_option maxRecDepth 100000 in
set_option maxHeartbeats 1000000 in
theorem new_any (n c : Nat) (w : World) (h1 : 1 ≤ n) (h2 : n ≤ 16) (h3 : 1 ≤ c) (h4 : c ≤ 32) : Calls Try.prog 11 #[.int .i64 n, .int .i64 c] w (NewE w n c) := by
  obtain ⟨i0, hi0, hz0, hz1, hz2⟩ := info_parts info64
  have hmk := fun W => run_make_rowN (P := Try.prog) 59 64 i0 _ Try.underlying59 hi0 hz0 .i64 .i64 n n (Nat.le_refl _) (by rw [hz2]; omega) (by omega) W
  rw [hz1] at hmk
  have HM := Lib.hid (fun W : World => (made_newL W.heap.size n))
  have hmk2 : ∀ W : World, (Instr.makeSlice 59 (.int .i64 (n : Int)) (.int .i64 (n : Int))).run Try.prog W = .ok (.slice (some ⟨W.heap.size, 0, none⟩) n n) (W.alloc (.cells (cells3 (newL W.heap.size n 0)).toArray 64)) := fun W => by rw [hmk W, HM.out W]
  clear hmk
  have hmm := @run_makeMap Try.prog
  have g1 : (1 : Int) ≤ (n : Int) := by omega
  have g2 : (n : Int) ≤ 16 := by omega
  have g3 : (1 : Int) ≤ (c : Int) := by omega
  have g4 : (c : Int) ≤ 32 := by omega
  have HZ := Lib.hid hz1
  have hR : NRel w n c (.int .i64 0) ((w.alloc (.cells (cells3 (newL w.heap.size n 0)).toArray 64)).alloc (.cells #[.slice (some ⟨w.heap.size, 0, none⟩) n n, .int .i64 c] 61)) := by
    have b0 := Blk.new w 64 (cells3 (newL w.heap.size n 0)).toArray
    have b1 := Blk.new (w.alloc (.cells (cells3 (newL w.heap.size n 0)).toArray 64)) 61 #[.slice (some ⟨w.heap.size, 0, none⟩) n n, .int .i64 c]
    refine ⟨0, by omega, rfl, by simp, by simpa using b1, b0.alloc _, fun j hj => by omega, ((Below.refl _ _).alloc (Nat.le_refl _) _).alloc (by simp) _⟩
  clear hz1
  go_enter Try.func11, Try.ntmps11
  go_wp2
  go_loopw [32] (fun i wr => NRel w n c i wr) (fun i _ => n - (intOf i).toNat)
  case atStart => exact hR
  case round =>
    obtain ⟨k, hk, rfl, hz, b1, b2, b3, b4⟩ := hrel
    clear hR
    have HB3 := Lib.hid b3
    clear b3
    have d0 := b1.cell 0
    simp at d0
    by_cases hlt : k < n
    · have HN := Lib.hid (nrel_next hlt hz b1 b2 HB3.out b4)
      obtain ⟨_, _, c2⟩ := arr_cells (b2.alloc (.map #[] 0)) (newL_get hlt)
      have f2 := (b2.alloc (.map #[] 0)).frozen (k * 3 + 2)
      have d1 := (b1.alloc (.map #[] 0)).cell 0
      simp at c2 d1
      have i2 : (k : Int) < (n : Int) := by omega
      have HZ2 := Lib.hid hz
      clear hz
      go_wp2
      go_roundw
      case rel => exact HN.out
      case measure => simp [intOf]; omega
    · have hk2 : k = n := by omega
      subst hk2
      have HE := Lib.hid (new_end h1 h2 h3 h4 b1 b2 HB3.out b4)
      clear hz
      go_wp2
      refine bodyPost_ret (results_tmp2 rfl _ _ _) rfl ?_
      exact HE.out

def NewBad (n c : Int) : Prop := n < 1 ∨ 16 < n ∨ c < 1 ∨ 32 < c
set_option maxHeartbeats 1000000 in
theorem new_bad (n c : Int) (w : World) (h : NewBad n c) : Calls Try.prog 11 #[.int .i64 n, .int .i64 c] w fun e w' => e = .returned (.tuple #[.pointer none, .int .i64 9]) ∧ w = w' := by
  by_cases h1 : n < 1
  · clear h
    go_enter Try.func11, Try.ntmps11
    go_wp2
    go_ret2
    exact ⟨rfl, rfl⟩
  · by_cases h2 : 16 < n
    · clear h
      go_enter Try.func11, Try.ntmps11
      go_wp2
      go_ret2
      exact ⟨rfl, rfl⟩
    · by_cases h3 : c < 1
      · clear h
        go_enter Try.func11, Try.ntmps11
        go_wp2
        go_ret2
        exact ⟨rfl, rfl⟩
      · have h4 : 32 < c := by unfold NewBad at h; omega
        clear h
        go_enter Try.func11, Try.ntmps11
        go_wp2
        go_ret2
        exact ⟨rfl, rfl⟩

end Go.Proofs.Yteokognbnilkmaa
