/-
  The walks of the reference's with, without and New.
-/
import Derived.Test.YtahommgchnbnjaaRefa
namespace Go.Proofs.Ytahommgchnbnjaa
open Go.RowKit

/-- A new slice of items is returned; nothing that was there has turned. -/
def NewS (w : World) (xs : List Bs) (e : Ending) (w' : World) : Prop := ∃ v, e = .returned v ∧ PV (fun i => w.heap.size ≤ i ∧ i < w'.heap.size) w' xs v ∧ Same w w'
theorem NewS.of {w w' : World} {xs : List Bs} {v : Value} (h : w'.ownsRow w.heap.size 9 1 v xs.length (cellsS xs)) (hs : Same w w') : NewS w xs (.returned v) w' := by
  obtain ⟨A, cap, rfl, hr, hi⟩ := RS.of_own h rfl
  obtain ⟨h1, h2⟩ := row_cap h
  exact ⟨_, rfl, ⟨A, cap, rfl, h1, h2, hr, fun i hi' => own_lt h (hi i hi')⟩, hs⟩
theorem own_nil (w : World) (b e s : Nat) : w.ownsRow b e s (.slice none 0 0) 0 [] := ⟨by simp, .inl ⟨rfl, rfl⟩⟩

set_option maxRecDepth 100000 in
set_option maxHeartbeats 1000000 in
theorem with_any (A : Option Addr) (n cap : Nat) (xs : List Bs) (x : Bs) (w : World) (h : RS w A n xs) (hn : n ≤ 1000) : Calls Try.prog 35 #[.slice A n cap, .string x] w (NewS w (xs ++ [x])) := by
  obtain ⟨i0, hi0, hz0, hz1, hz2⟩ := info_parts info9
  have hl := h.1
  have HR := Lib.hid h.reads
  obtain ⟨ys, hys⟩ : ∃ ys, xs ++ [x] = ys := ⟨_, rfl⟩
  have HY := Lib.hid hys
  rw [hys]
  clear h hys
  go_enter Try.func35, Try.ntmps35
  go_upto_region 3 with ((at_builtin; refine wpList_append_any _ rfl (.tmp 6) (.tmp 7) 31 rfl w.heap.size 9 i0 _ 1 16 Try.underlying31 hi0 hz0 hz1 hz2 rfl (by decide) (.slice none 0 0) 0 [] rfl (own_nil _ _ _ _) w.heap.size A n cap (cellsS xs) rfl HR.out (one_cellsS _) (by unfold maxLen; omega) (by omega) (Nat.le_refl _) ?_; intro v1 w1 hown1 hgr1 hat1))
  have hs1 : Same w w1 := same_grown (Same.refl w) hgr1 (fun g e => by cases e)
  have HO := Lib.hid hown1
  have HS := Lib.hid hs1
  have hsz := hs1.size
  clear hown1 hgr1 hat1 hs1
  go_wp2_with ((at_builtin; refine wpList_append_any _ rfl (.tmp 9) (.tmp 11) 31 rfl w.heap.size 9 i0 _ 1 16 Try.underlying31 hi0 hz0 hz1 hz2 rfl (by decide) v1 (0 + n) ([] ++ cellsS xs) rfl (HO.out.alloc _) (w1.heap.size + 1) (some ⟨w1.heap.size, 0, none⟩) 1 1 [.string x] rfl (reads_one w1 9 (.string x)) (by simp [Value.oneCell']) (by unfold maxLen; omega) (by omega) (by simp; omega) ?_; intro v2 w2 hown2 hgr2 hat2))
  have hs2 : Same w w2 := same_grown (Fr.alloc HS.out _) hgr2 (fun g e => own_base HO.out e)
  have HO2 := Lib.hid hown2
  have HS2 := Lib.hid hs2
  clear hown2 hgr2 hat2 hs2
  go_wp2
  go_ret
  refine NewS.of ?_ HS2.out
  have e1 : ys.length = 0 + n + 1 := by rw [← HY.out]; simp; omega
  have e2 : cellsS ys = [] ++ cellsS xs ++ [.string x] := by rw [← HY.out]; simp [cellsS]
  rw [e1, e2]
  exact HO2.out

theorem RS.take {w : World} {A : Option Addr} {n k : Nat} {xs : List Bs} (h : RS w A n xs) (hk : k ≤ n) : RS w A k (xs.take k) := by
  obtain ⟨h1, h2, h3⟩ := h
  refine ⟨by rw [List.length_take]; omega, by omega, fun j x hx => ?_⟩
  rw [List.getElem?_take] at hx
  split at hx
  · exact h3 j x hx
  · cases hx
theorem RS.drop {w : World} {g o n k : Nat} {xs : List Bs} (h : RS w (some ⟨g, o, none⟩) n xs) (hk : k ≤ n) : RS w (some ⟨g, o + k, none⟩) (n - k) (xs.drop k) := by
  obtain ⟨h1, h2, h3⟩ := h
  refine ⟨by rw [List.length_drop]; omega, by omega, fun j x hx => ?_⟩
  rw [List.getElem?_drop] at hx
  obtain ⟨g', o', e, hc, hg⟩ := h3 (k + j) x hx
  cases e
  exact ⟨g, o + k, rfl, by rw [Nat.add_assoc]; exact hc, hg⟩

set_option maxRecDepth 100000 in
set_option maxHeartbeats 1000000 in
theorem without_any (A : Option Addr) (n cap k : Nat) (xs : List Bs) (w : World) (h : RS w A n xs) (hk : k < n) (hn : n ≤ 1000) (hc : n ≤ cap) (hc2 : cap ≤ 9223372036854775807) : Calls Try.prog 37 #[.slice A n cap, .int .i64 k] w (NewS w (xs.eraseIdx k)) := by
  obtain ⟨i0, hi0, hz0, hz1, hz2⟩ := info_parts info9
  have hl := h.1
  obtain ⟨g, o, hA, _, _⟩ := h.2.2 0 xs[0] (List.getElem?_eq_getElem (by omega))
  subst hA
  have HT := Lib.hid (h.take (k := k) (by omega)).reads
  have HD := Lib.hid (h.drop (k := k + 1) (by omega))
  obtain ⟨ys, hys⟩ : ∃ ys, xs.eraseIdx k = ys := ⟨_, rfl⟩
  have HY := Lib.hid hys
  rw [hys]
  have i1 : (0 : Int) ≤ (k : Int) := by omega
  have i2 : (k : Int) ≤ (cap : Int) := by omega
  have i3 : (k : Int) + 1 ≤ (n : Int) := by omega
  have i4 : (n : Int) ≤ (cap : Int) := by omega
  clear h hys
  have fin : Hid (∀ (v : Value) (W : World), Same w W → W.ownsRow w.heap.size 9 1 v (0 + k + (n - (k + 1))) ([] ++ cellsS (xs.take k) ++ cellsS (xs.drop (k + 1))) → NewS w ys (.returned v) W) := fun v W hs ho => by
    refine NewS.of ?_ hs
    have e1 : ys.length = 0 + k + (n - (k + 1)) := by rw [← HY.out, List.length_eraseIdx, if_pos (by omega)]; omega
    have e2 : cellsS ys = [] ++ cellsS (xs.take k) ++ cellsS (xs.drop (k + 1)) := by rw [← HY.out, List.eraseIdx_eq_take_drop_succ]; simp [cellsS]
    rw [e1, e2]
    exact ho
  by_cases hcap : cap = k + 1
  · obtain rfl : n = k + 1 := by omega
    subst hcap
    have hz : xs.drop (k + 1) = [] := List.drop_eq_nil_of_le (by omega)
    rw [hz] at fin
    simp only [Nat.sub_self] at fin
    clear hz HD
    go_enter Try.func37, Try.ntmps37
    go_upto_region 3 with ((at_builtin; refine wpList_append_any _ rfl (.tmp 6) (.tmp 9) 31 rfl w.heap.size 9 i0 _ 1 16 Try.underlying31 hi0 hz0 hz1 hz2 rfl (by decide) (.slice none 0 0) 0 [] rfl (own_nil _ _ _ _) w.heap.size _ k _ (cellsS (xs.take k)) rfl HT.out (one_cellsS _) (by unfold maxLen; omega) (by omega) (Nat.le_refl _) ?_; intro v1 w1 hown1 hgr1 hat1))
    have hs1 : Same w w1 := same_grown (Same.refl w) hgr1 (fun g e => by cases e)
    have HO := Lib.hid hown1
    have HS := Lib.hid hs1
    have hsz := hs1.size
    clear hown1 hgr1 hat1 hs1
    go_wp2_with ((at_builtin; refine wpList_append_any _ rfl (.tmp 11) (.tmp 15) 31 rfl w.heap.size 9 i0 _ 1 16 Try.underlying31 hi0 hz0 hz1 hz2 rfl (by decide) v1 (0 + k) ([] ++ cellsS (xs.take k)) rfl HO.out w.heap.size _ 0 _ [] rfl Reads.none_ (by simp) (by unfold maxLen; omega) (by omega) hsz ?_; intro v2 w2 hown2 hgr2 hat2))
    have hs2 : Same w w2 := same_grown HS.out hgr2 (fun g e => own_base HO.out e)
    have HO2 := Lib.hid hown2
    have HS2 := Lib.hid hs2
    clear hown2 hgr2 hat2 hs2
    go_wp2
    go_ret
    exact fin.out _ _ HS2.out HO2.out
  · have hcap2 : ((cap : Int) == (k : Int) + 1) = false := by
      have : (cap : Int) ≠ (k : Int) + 1 := by omega
      simp [this]
    go_enter Try.func37, Try.ntmps37
    go_upto_region 3 with ((at_builtin; refine wpList_append_any _ rfl (.tmp 6) (.tmp 9) 31 rfl w.heap.size 9 i0 _ 1 16 Try.underlying31 hi0 hz0 hz1 hz2 rfl (by decide) (.slice none 0 0) 0 [] rfl (own_nil _ _ _ _) w.heap.size _ k _ (cellsS (xs.take k)) rfl HT.out (one_cellsS _) (by unfold maxLen; omega) (by omega) (Nat.le_refl _) ?_; intro v1 w1 hown1 hgr1 hat1))
    have hs1 : Same w w1 := same_grown (Same.refl w) hgr1 (fun g e => by cases e)
    have HO := Lib.hid hown1
    have HS := Lib.hid hs1
    have hsz := hs1.size
    have HD1 := Lib.hid (HD.out.same hs1).reads
    clear hown1 hgr1 hat1 hs1
    go_wp2_with ((at_builtin; refine wpList_append_any _ rfl (.tmp 11) (.tmp 15) 31 rfl w.heap.size 9 i0 _ 1 16 Try.underlying31 hi0 hz0 hz1 hz2 rfl (by decide) v1 (0 + k) ([] ++ cellsS (xs.take k)) rfl HO.out w1.heap.size _ (n - (k + 1)) _ (cellsS (xs.drop (k + 1))) rfl HD1.out (one_cellsS _) (by unfold maxLen; omega) (by omega) hsz ?_; intro v2 w2 hown2 hgr2 hat2))
    have hs2 : Same w w2 := same_grown HS.out hgr2 (fun g e => own_base HO.out e)
    have HO2 := Lib.hid hown2
    have HS2 := Lib.hid hs2
    clear hown2 hgr2 hat2 hs2
    go_wp2
    go_ret
    exact fin.out _ _ HS2.out HO2.out

/-- How the reference's New ends. -/
def RNewE (w : World) (n c : Nat) (e : Ending) (w' : World) : Prop :=
  ∃ A, e = .returned (.tuple #[rv c A n n none 0 0, .int .i64 0]) ∧ Same w w' ∧ RY (fun i => w.heap.size ≤ i ∧ i < w'.heap.size) w' A n none 0 0 (List.replicate n []) []
theorem made31 (n : Nat) : madeCells (Value.slice none 0 0).cells (n * 1) = (List.replicate n (Value.slice none 0 0)).toArray := by
  apply Array.ext
  · simp [madeCells]
  · intro i h1 h2
    simp [madeCells, Value.cells, Nat.mod_one]
set_option maxRecDepth 100000 in
set_option maxHeartbeats 1000000 in
theorem rnew_any (n c : Nat) (w : World) (h1 : 1 ≤ n) (h2 : n ≤ 16) (h3 : 1 ≤ c) (h4 : c ≤ 32) : Calls Try.prog 18 #[.int .i64 n, .int .i64 c] w (RNewE w n c) := by
  obtain ⟨i0, hi0, hz0, hz1, hz2⟩ := info_parts info31
  have hmk := fun W => run_make_rowN (P := Try.prog) 45 31 i0 _ Try.underlying45 hi0 hz0 .i64 .i64 n n (Nat.le_refl _) (by rw [hz2]; omega) (by omega) W
  rw [hz1, made31] at hmk
  have g1 : (1 : Int) ≤ (n : Int) := by omega
  have g2 : (n : Int) ≤ 16 := by omega
  have g3 : (1 : Int) ≤ (c : Int) := by omega
  have g4 : (c : Int) ≤ 32 := by omega
  have HM : Hid (∀ k, k < n → (List.replicate n (Value.slice none 0 0)).toArray[k]? = some (.slice none 0 0)) := fun k hk => by simp [hk]
  generalize (List.replicate n (Value.slice none 0 0)).toArray = cs at hmk HM
  clear hz1
  go_enter Try.func18, Try.ntmps18
  go_wp2
  refine bodyPost_ret (v := .tuple #[rv c (some ⟨w.heap.size + 1, 0, none⟩) n n none 0 0, .int .i64 0]) (by simp [results, Try.results18, go_sem, rv]) rfl ?_
  have bk := Blk.new (w.alloc (.cells #[.int .i64 c, .slice (some ⟨w.heap.size + 1, 0, none⟩) n n, .slice none 0 0] 47)) 31 cs
  have hal : Same w ((w.alloc (.cells #[.int .i64 c, .slice (some ⟨w.heap.size + 1, 0, none⟩) n n, .slice none 0 0] 47)).alloc (.cells cs 31)) := ((Fr.refl _ _).alloc _).alloc _
  rw [World.size_alloc] at bk
  refine ⟨_, rfl, hal, ⟨by simp, h2, fun i ⟨o, e⟩ => ?_, fun k b hb => ?_⟩, RS.nil _ _, Nat.le_refl _, by omega, fun i hi => hi.none_.elim⟩
  · cases e
    simp
  · have hk : k < n := by have := (List.getElem?_eq_some_iff.1 hb).1; simpa using this
    have hbe : b = [] := List.eq_of_mem_replicate (List.mem_of_getElem? hb)
    subst hbe
    exact ⟨w.heap.size + 1, 0, .slice none 0 0, rfl, by rw [Nat.zero_add, bk.cell]; exact HM.out k hk, by simp, PV.nil _ _⟩
set_option maxHeartbeats 1000000 in
theorem rnew_bad (n c : Int) (w : World) (h : NewBad n c) : Calls Try.prog 18 #[.int .i64 n, .int .i64 c] w fun e w' => e = .returned (.tuple #[rv 0 none 0 0 none 0 0, .int .i64 9]) ∧ Same w w' := by
  by_cases h1 : n < 1
  · clear h
    go_enter Try.func18, Try.ntmps18
    go_wp2
    exact bodyPost_ret (v := .tuple #[rv 0 none 0 0 none 0 0, .int .i64 9]) (by simp [results, Try.results18, go_sem, rv]) rfl ⟨rfl, (Fr.refl _ _).alloc _⟩
  · by_cases h2 : 16 < n
    · clear h
      go_enter Try.func18, Try.ntmps18
      go_wp2
      exact bodyPost_ret (v := .tuple #[rv 0 none 0 0 none 0 0, .int .i64 9]) (by simp [results, Try.results18, go_sem, rv]) rfl ⟨rfl, (Fr.refl _ _).alloc _⟩
    · by_cases h3 : c < 1
      · clear h
        go_enter Try.func18, Try.ntmps18
        go_wp2
        exact bodyPost_ret (v := .tuple #[rv 0 none 0 0 none 0 0, .int .i64 9]) (by simp [results, Try.results18, go_sem, rv]) rfl ⟨rfl, (Fr.refl _ _).alloc _⟩
      · have h4 : 32 < c := by unfold NewBad at h; omega
        clear h
        go_enter Try.func18, Try.ntmps18
        go_wp2
        exact bodyPost_ret (v := .tuple #[rv 0 none 0 0 none 0 0, .int .i64 9]) (by simp [results, Try.results18, go_sem, rv]) rfl ⟨rfl, (Fr.refl _ _).alloc _⟩

end Go.Proofs.Ytahommgchnbnjaa
