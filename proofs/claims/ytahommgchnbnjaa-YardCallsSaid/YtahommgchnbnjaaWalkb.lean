/-
  The walks of room and first.
-/
import Derived.Test.YtahommgchnbnjaaWalka
import Derived.Deep.DeepCutAuto
namespace Go.Proofs.Ytahommgchnbnjaa
open Go.RowKit

/-- What a row of elements gives. -/
theorem row_formN {w : World} {base n size : Nat} {e : TypeId} {v : Value} {xs : List Value} (h : w.ownsRow base e size v n xs) :
    ∃ A cap, v = .slice A n cap ∧ n ≤ 9223372036854775807 ∧ ∀ k u, xs[k]? = some u → ∃ gi, A = some ⟨gi, 0, none⟩ ∧ w.cell? ⟨gi, k, none⟩ = some u ∧ base ≤ gi ∧ gi < w.heap.size := by
  obtain ⟨hl, ⟨rfl, rfl⟩ | ⟨g, cap, cur, rfl, hb, hh, h1, h2, h3, h4⟩⟩ := h
  · exact ⟨none, 0, rfl, by omega, fun k u hu => by
      have : xs = [] := List.eq_nil_of_length_eq_zero (by omega)
      subst this
      simp at hu⟩
  · unfold maxLen at h2
    refine ⟨_, cap, rfl, by omega, fun k u hu => ⟨g, rfl, ?_, hb, ?_⟩⟩
    · rw [cell_of_row w g k cur e (0, 0) hh, ← Array.getElem?_toList]
      rw [← h4] at hu
      rw [List.getElem?_take] at hu
      split at hu
      · exact hu
      · cases hu
    · rcases Nat.lt_or_ge g w.heap.size with hlt | hge
      · exact hlt
      · rw [Array.getElem?_eq_none hge] at hh; cases hh
/-- What a call that only reads ends in. -/
def Still (w : World) (v : Value) (e : Ending) (w' : World) : Prop := e = .returned v ∧ ∃ n, w' = w.drewN n
def QRel (w : World) (wr : World) : Prop := ∃ m, wr = w.drewN m
theorem drewN_add (w : World) (a b : Nat) : (w.drewN a).drewN b = w.drewN (a + b) := by unfold World.drewN; simp [Nat.add_assoc]

set_option maxRecDepth 100000 in
set_option maxHeartbeats 1000000 in
theorem room_any (g b c p i : Nat) (ls : List Bay) (w : World) (h : IsY w g b ls c p) (hi : i < ls.length) : Calls Try.prog 27 #[.pointer (some ⟨g, 0, none⟩), .int .i64 i] w (Still w (.int .i64 (roomK c (ls.map Bay.es) i ls.length : Nat))) := by
  have hl := h.len
  have hc := h.ok.c2
  have H := Lib.hid h
  obtain ⟨n, hn⟩ : ∃ n, ls.length = n := ⟨_, rfl⟩
  have d0 : ∀ m, (w.drewN m).cell? ⟨g, 0, none⟩ = some (.slice (some ⟨b, 0, none⟩) n n) := fun m => by rw [← hn]; exact h.blk.cell 0
  have d1 : ∀ m, (w.drewN m).cell? ⟨g, 1, none⟩ = some (.int .i64 c) := fun m => h.blk.cell 1
  rw [hn] at hl hi ⊢
  have HN := Lib.hid hn
  have D0 := Lib.hid d0
  have D1 := Lib.hid d1
  have e0 := d0 0
  have e0' : w.cell? ⟨g, 0, none⟩ = some (.slice (some ⟨b, 0, none⟩) n n) := e0
  have e1' : w.cell? ⟨g, 1, none⟩ = some (.int .i64 c) := d1 0
  clear h d0 d1 e0 hn
  go_enter Try.func27, Try.ntmps27
  go_wp2
  go_loopw [5, 12] (fun t i' wr => ∃ k : Nat, k ≤ n ∧ i' = .int .i64 k ∧ t = .int .i64 (roomK c (ls.map Bay.es) i k : Nat) ∧ ∃ m, wr = w.drewN m) (fun _ i' _ => n - (intOf i').toNat)
  case atStart => exact ⟨0, by omega, rfl, rfl, 0, rfl⟩
  case round =>
    obtain ⟨k, hk, rfl, rfl, m, rfl⟩ := hrel
    by_cases hlt : k < n
    · obtain ⟨x, hx⟩ : ∃ x, ls[k]? = some x := ⟨ls[k]'(by have := HN.out; omega), List.getElem?_eq_getElem _⟩
      have hrl := roomK_le c (ls.map Bay.es) i k
      have hr2 : roomK c (ls.map Bay.es) i k ≤ 512 := Nat.le_trans hrl (Nat.mul_le_mul (show k ≤ 16 by omega) hc)
      have hxl := H.out.le hx
      obtain ⟨A, cap, hv, _, _⟩ := row_formN (H.out.row k x hx)
      have cx : ∀ m', (w.drewN m').cell? ⟨b, k, none⟩ = some (.slice A x.es.length cap) := fun m' => by rw [← hv]; exact H.out.cell hx
      have CX := Lib.hid cx
      have f0 := D0.out m
      have f1 := D1.out m
      have hlt2 : (k : Int) < (n : Int) := by omega
      have hst : roomK c (ls.map Bay.es) i (k + 1) = roomK c (ls.map Bay.es) i k + (if k = i then 0 else c - x.es.length) := by
        rw [roomK, lenAt_bay hx]
      have HST := Lib.hid hst
      clear hst hrl hx hv cx
      generalize roomK c (ls.map Bay.es) i k = r at HST hr2 ⊢
      by_cases hki : k = i
      · have t : ((k : Int) == (i : Int)) = true := by simp [hki]
        have HE : Hid (roomK c (ls.map Bay.es) i (k + 1) = r) := by rw [HST.out, if_pos hki]; exact Nat.add_zero _
        clear HST
        go_wp2
        go_roundw
        case rel => exact ⟨k + 1, by omega, by go_num, by rw [HE.out], m, rfl⟩
        case measure => simp [intOf]; omega
      · have t : ((k : Int) == (i : Int)) = false := by
          have : (k : Int) ≠ i := by omega
          simp [this]
        have HE : Hid (roomK c (ls.map Bay.es) i (k + 1) = r + (c - x.es.length)) := by rw [HST.out, if_neg hki]; rfl
        clear HST
        go_upto_region 6 with fail
        go_quiet (first | (go_at_call 25; exact (size_any b k x.es.length cap A _ (by exact CX.out 0)).mono fun _ _ ⟨he, hw⟩ => ⟨he, _, hw.symm⟩))
        go_wp2
        go_roundw
        case rel =>
          refine ⟨k + 1, by omega, by go_num, ?_, m + nq, rfl⟩
          rw [HE.out]
          have hi3 : (r : Int) + ((c : Int) - (x.es.length : Int)) = ((r + (c - x.es.length) : Nat) : Int) := by omega
          rw [hi3]
        case measure => simp [intOf]; omega
    · have hkn : k = n := by omega
      subst hkn
      go_wp2
      go_ret
      exact ⟨rfl, m, rfl⟩

theorem firstS_hit {c i k : Nat} {ys : List (List Ent)} (hk : k < ys.length) (h0 : ∀ j, j < k → firstK c ys i j = false) (h : firstK c ys i k = true) : firstS c ys i = k := by
  unfold firstS
  have : (List.range ys.length).find? (firstK c ys i) = some k := by
    rw [List.find?_eq_some_iff_getElem]
    refine ⟨h, k, by simpa using hk, by simp, fun j hj => ?_⟩
    simp [h0 j hj]
  rw [this]
  rfl
theorem firstS_none {c i : Nat} {ys : List (List Ent)} (h0 : ∀ j, j < ys.length → firstK c ys i j = false) : firstS c ys i = i := by
  unfold firstS
  have : (List.range ys.length).find? (firstK c ys i) = none := by
    rw [List.find?_eq_none]
    intro j hj
    rw [h0 j (List.mem_range.1 hj)]
    simp
  rw [this]
  rfl

set_option maxRecDepth 100000 in
set_option maxHeartbeats 1000000 in
theorem first_any (g b c p i : Nat) (ls : List Bay) (w : World) (h : IsY w g b ls c p) : Calls Try.prog 28 #[.pointer (some ⟨g, 0, none⟩), .int .i64 i] w (Still w (.int .i64 (firstS c (ls.map Bay.es) i : Nat))) := by
  have hl := h.len
  have hc := h.ok.c2
  have H := Lib.hid h
  obtain ⟨n, hn⟩ : ∃ n, ls.length = n := ⟨_, rfl⟩
  have e0 : w.cell? ⟨g, 0, none⟩ = some (.slice (some ⟨b, 0, none⟩) n n) := by rw [← hn]; exact h.blk.cell 0
  have e1 : w.cell? ⟨g, 1, none⟩ = some (.int .i64 c) := h.blk.cell 1
  rw [hn] at hl
  have HN := Lib.hid hn
  obtain ⟨r, hr⟩ : ∃ r, firstS c (ls.map Bay.es) i = r := ⟨_, rfl⟩
  have HR := Lib.hid hr
  rw [hr]
  clear h hn hr
  go_enter Try.func28, Try.ntmps28
  go_wp2
  go_loopw [11] (fun i' wr => ∃ k : Nat, k ≤ n ∧ i' = .int .i64 k ∧ Hid (∀ j, j < k → firstK c (ls.map Bay.es) i j = false) ∧ ∃ m, wr = w.drewN m) (fun i' _ => n - (intOf i').toNat)
  case atStart => exact ⟨0, by omega, rfl, fun j hj => by omega, 0, rfl⟩
  case round =>
    obtain ⟨k, hk, rfl, hno, m, rfl⟩ := hrel
    by_cases hlt : k < n
    · obtain ⟨x, hx⟩ : ∃ x, ls[k]? = some x := ⟨ls[k]'(by have := HN.out; omega), List.getElem?_eq_getElem _⟩
      have hxl := H.out.le hx
      obtain ⟨A, cap, hv, _, _⟩ := row_formN (H.out.row k x hx)
      have cx : w.cell? ⟨b, k, none⟩ = some (.slice A x.es.length cap) := by rw [← hv]; exact H.out.cell hx
      have CX := Lib.hid cx
      have hfk : firstK c (ls.map Bay.es) i k = (decide (k ≠ i) && decide (x.es.length < c)) := by unfold firstK; rw [lenAt_bay hx]
      have HFK := Lib.hid hfk
      have hlt2 : (k : Int) < (n : Int) := by omega
      clear hfk hx hv cx
      by_cases hki : k = i
      · have t : ((k : Int) != (i : Int)) = false := by simp [hki]
        have HE : Hid (∀ j, j < k + 1 → firstK c (ls.map Bay.es) i j = false) := fun j hj => by
          rcases Nat.lt_or_ge j k with h1 | h1
          · exact hno.out j h1
          · have : j = k := by omega
            subst this
            rw [HFK.out]
            simp [hki]
        clear HFK
        go_upto_region 4 with fail
        go_quiet (fail)
        go_wp2
        go_roundw
        case rel => exact ⟨k + 1, by omega, by go_num, HE, m + nq, rfl⟩
        case measure => simp [intOf]; omega
      · have t : ((k : Int) != (i : Int)) = true := by
          have : (k : Int) ≠ i := by omega
          simp [this]
        by_cases hlc : x.es.length < c
        · have t2 : (x.es.length : Int) < (c : Int) := by omega
          have HE : Hid (r = k) := by
            unfold Hid
            rw [← HR.out]
            exact firstS_hit (by rw [List.length_map, HN.out]; exact hlt) hno.out (by rw [HFK.out]; simp [hki, hlc])
          clear HFK
          go_upto_region 4 with fail
          go_quiet (first | (go_at_call 25; exact (size_any b k x.es.length cap A _ (by exact CX.out)).mono fun _ _ ⟨he, hw⟩ => ⟨he, _, hw.symm⟩))
          go_wp2
          go_ret
          exact ⟨by rw [HE.out]; rfl, m + nq, drewN_add w m nq⟩
        · have t2 : ¬ (x.es.length : Int) < (c : Int) := by omega
          have HE : Hid (∀ j, j < k + 1 → firstK c (ls.map Bay.es) i j = false) := fun j hj => by
            rcases Nat.lt_or_ge j k with h1 | h1
            · exact hno.out j h1
            · have : j = k := by omega
              subst this
              rw [HFK.out]
              simp [hlc]
          clear HFK
          go_upto_region 4 with fail
          go_quiet (first | (go_at_call 25; exact (size_any b k x.es.length cap A _ (by exact CX.out)).mono fun _ _ ⟨he, hw⟩ => ⟨he, _, hw.symm⟩))
          go_wp2
          go_roundw
          case rel => exact ⟨k + 1, by omega, by go_num, HE, m + nq, rfl⟩
          case measure => simp [intOf]; omega
    · have hkn : k = n := by omega
      subst hkn
      have HE : Hid (r = i) := by
        unfold Hid
        rw [← HR.out]
        exact firstS_none (fun j hj => hno.out j (by simpa [HN.out] using hj))
      go_wp2
      go_ret
      exact ⟨by rw [HE.out]; rfl, m, rfl⟩

end Go.Proofs.Ytahommgchnbnjaa
