/-
  The walks of Len and Find.
-/
import Derived.Test.YtahommgchnbnjaaWalkb
namespace Go.Proofs.Ytahommgchnbnjaa
open Go.RowKit

def totK (ys : List (List Ent)) : Nat → Nat
  | 0 => 0
  | k + 1 => totK ys k + lenAt ys k
theorem totK_le {c : Nat} {ys : List (List Ent)} (h : ∀ b ∈ ys, b.length ≤ c) : ∀ k, totK ys k ≤ k * c
  | 0 => by simp [totK]
  | k + 1 => by
    have := totK_le h k
    have h2 : lenAt ys k ≤ c := by
      unfold lenAt
      cases e : ys[k]? with
      | none => simp
      | some b => exact h b (List.mem_of_getElem? e)
    unfold totK
    rw [Nat.succ_mul]
    omega

set_option maxRecDepth 100000 in
set_option maxHeartbeats 1000000 in
theorem len_any (g b c p : Nat) (ls : List Bay) (w : World) (h : IsY w g b ls c p) : Calls Try.prog 15 #[.pointer (some ⟨g, 0, none⟩)] w fun e w' => e = .returned (.int .i64 (totK (ls.map Bay.es) ls.length : Nat)) ∧ Same w w' := by
  have hl := h.len
  have hc := h.ok.c2
  have H := Lib.hid h
  obtain ⟨n, hn⟩ : ∃ n, ls.length = n := ⟨_, rfl⟩
  have e0 : w.cell? ⟨g, 0, none⟩ = some (.slice (some ⟨b, 0, none⟩) n n) := by rw [← hn]; exact h.blk.cell 0
  rw [hn] at hl ⊢
  have HN := Lib.hid hn
  clear h hn
  go_enter Try.func15, Try.ntmps15
  go_wp2
  go_loopw [3, 13] (fun t i' wr => ∃ k : Nat, k ≤ n ∧ i' = .int .i64 k ∧ t = .int .i64 (totK (ls.map Bay.es) k : Nat) ∧ Same w wr) (fun _ i' _ => n - (intOf i').toNat)
  case atStart => exact ⟨0, by omega, rfl, rfl, Same.refl w⟩
  case round =>
    obtain ⟨k, hk, rfl, rfl, hs⟩ := hrel
    by_cases hlt : k < n
    · obtain ⟨x, hx⟩ : ∃ x, ls[k]? = some x := ⟨ls[k]'(by have := HN.out; omega), List.getElem?_eq_getElem _⟩
      have htl := totK_le H.out.ok.le k
      have ht2 : totK (ls.map Bay.es) k ≤ 512 := Nat.le_trans htl (Nat.mul_le_mul (show k ≤ 16 by omega) hc)
      have hxl := H.out.le hx
      obtain ⟨A, cap, hv, _, _⟩ := row_formN (H.out.row k x hx)
      have cx : wr.cell? ⟨b, k, none⟩ = some (.slice A x.es.length cap) := by rw [← hv]; exact (H.out.same hs).cell hx
      have hlt2 : (k : Int) < (n : Int) := by omega
      have hst : totK (ls.map Bay.es) (k + 1) = totK (ls.map Bay.es) k + x.es.length := by rw [totK, lenAt_bay hx]
      have HST := Lib.hid hst
      have HS := Lib.hid hs
      clear hst htl hx hv hs
      generalize totK (ls.map Bay.es) k = r at HST ht2 ⊢
      go_wp2_with fail
      refine (size_any wr.heap.size 0 x.es.length cap A _ (by simp)).mono ?_
      rintro e w1 ⟨rfl, rfl⟩
      go_wp2
      go_roundw
      case rel => exact ⟨k + 1, by omega, by go_num, by rw [HST.out]; simp, Fr.alloc HS.out _⟩
      case measure => simp [intOf]; omega
    · have hkn : k = n := by omega
      subst hkn
      go_wp2
      go_ret
      exact ⟨rfl, hs⟩

end Go.Proofs.Ytahommgchnbnjaa
