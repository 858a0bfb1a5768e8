/-
  The walks of the reference's Fullest, Len and Same.
-/
import Derived.Test.YteokognbnilkmaaRefb
namespace Go.Proofs.Yteokognbnilkmaa
open Go.RowKit

set_option maxRecDepth 100000 in
set_option maxHeartbeats 1000000 in
theorem rlen_any (K : Nat → Prop) (c : Nat) (A : Option Addr) (n cap : Nat) (bs : Bins) (w : World) (h : RB K w A n bs) (ok : BOk c bs) : Calls Try.prog 23 #[rv c A n cap] w (Still w (.int .i64 (tot bs : Nat))) := by
  have hs := box45 w c A n cap
  have h1 := h.same hs
  have hn := h.2.1
  have hbl := h.1
  have H := Lib.hid h1
  have OK := Lib.hid ok
  have hc2 := ok.c2
  unfold rv
  have hn2 : (n : Int) ≤ 16 := by omega
  clear h h1 ok
  go_enter Try.func23, Try.ntmps23
  go_wp2
  go_loop [3, 4] (fun t i => ∃ k : Nat, k ≤ n ∧ i = .int .i64 k ∧ t = .int .i64 (tot (bs.take k) : Nat)) (fun _ i => n - (intOf i).toNat)
  case atStart => exact ⟨0, by omega, rfl, by simp [tot]⟩
  case round =>
    obtain ⟨k, hk, rfl, rfl⟩ := hrel
    have htl := tot_le (bs.take k) (c := c) (fun b hb => OK.out.le b (List.mem_of_mem_take hb))
    have htl2 : tot (bs.take k) ≤ 512 := by
      have h16 : (bs.take k).length ≤ 16 := by rw [List.length_take]; omega
      exact Nat.le_trans htl (Nat.mul_le_mul h16 hc2)
    clear htl
    by_cases hlt : k < n
    · obtain ⟨b, hb⟩ : ∃ b, bs[k]? = some b := ⟨bs[k]'(by omega), List.getElem?_eq_getElem _⟩
      obtain ⟨g, o, B, capB, hA, c0, c1, _, _, _⟩ := H.out.2.2.2 k b hb
      subst hA
      have hlt2 : (k : Int) < (n : Int) := by omega
      have hil := OK.out.le b (List.mem_of_getElem? hb)
      have HT := Lib.hid (tot_take hb)
      clear hb
      go_wp2
      go_round
      case rel => exact ⟨k + 1, by omega, by go_num, by rw [HT.out]; simp⟩
      case measure => simp [intOf]; omega
    · have hE : bs.take k = bs := List.take_of_length_le (by omega)
      rw [hE] at htl2 ⊢
      clear hE
      go_wp2
      go_ret
      exact ⟨rfl, hs⟩

set_option maxRecDepth 100000 in
set_option maxHeartbeats 1000000 in
theorem rfullest_any (K : Nat → Prop) (c : Nat) (A : Option Addr) (n cap : Nat) (bs : Bins) (w : World) (h : RB K w A n bs) (ok : BOk c bs) : Calls Try.prog 22 #[rv c A n cap] w (Still w (mostV bs)) := by
  have hs := box45 w c A n cap
  have h1 := h.same hs
  have hn := h.2.1
  have hbl := h.1
  have H := Lib.hid h1
  have OK := Lib.hid ok
  have hc2 := ok.c2
  unfold rv
  have hn2 : (n : Int) ≤ 16 := by omega
  have bx := Blk.new w 45 #[.int .i64 c, .slice A n cap]
  generalize hW : w.alloc (.cells #[.int .i64 c, .slice A n cap] 45) = W at hs H bx
  have HW := Lib.hid hW
  clear h h1 ok hW
  have hR : ∃ k : Nat, k ≤ n ∧ (Value.int .i64 0) = .int .i64 k ∧ (Value.int .i64 0) = .int .i64 ((most (bs.take k)).1 : Nat) ∧ (Value.int .i64 0) = .int .i64 ((most (bs.take k)).2 : Nat) ∧ ∃ m, W = W.drewN m := ⟨0, by omega, rfl, by simp [most], by simp [most], 0, rfl⟩
  go_enter Try.func22, Try.ntmps22
  go_wp2_with fail
  rw [HW.out]
  have d1 := bx.cell 1
  simp at d1
  go_loopw [4, 5, 6] (fun bt mt i wr => ∃ k : Nat, k ≤ n ∧ i = .int .i64 k ∧ bt = .int .i64 ((most (bs.take k)).1 : Nat) ∧ mt = .int .i64 ((most (bs.take k)).2 : Nat) ∧ ∃ m, wr = W.drewN m) (fun _ _ i _ => n - (intOf i).toNat)
  case atStart => exact hR
  case round =>
    obtain ⟨k, hk, rfl, rfl, rfl, m, rfl⟩ := hrel
    clear hR
    obtain ⟨hm1, hm2⟩ := most_le (bs := bs) OK.out.le k (by omega)
    by_cases hlt : k < n
    · obtain ⟨b, hb⟩ : ∃ b, bs[k]? = some b := ⟨bs[k]'(by omega), List.getElem?_eq_getElem _⟩
      obtain ⟨g, o, B, capB, hA, c0, c1, _, _, _⟩ := H.out.2.2.2 k b hb
      subst hA
      have hlt2 : (k : Int) < (n : Int) := by omega
      have hlt3 : (0 : Int) ≤ (k : Int) := by omega
      have hil := OK.out.le b (List.mem_of_getElem? hb)
      by_cases hp : (most (bs.take k)).2 < b.items.length
      · have HT : Hid (most (bs.take (k + 1)) = (k, b.items.length)) := by unfold Hid; rw [most_take hb, if_pos hp]
        clear hb
        go_wp2
        go_quiet (fail)
        go_wp2
        go_roundw
        case rel => exact ⟨k + 1, by omega, by simp, by rw [HT.out], by rw [HT.out], _, rfl⟩
        case measure => simp [intOf]; omega
      · have HT : Hid (most (bs.take (k + 1)) = most (bs.take k)) := by unfold Hid; rw [most_take hb, if_neg hp]
        clear hb
        go_wp2
        go_roundw
        case rel => exact ⟨k + 1, by omega, by simp, by rw [HT.out], by rw [HT.out], _, rfl⟩
        case measure => simp [intOf]; omega
    · have HE := Lib.hid (show mostV bs = mostV (bs.take k) by rw [List.take_of_length_le (by omega)])
      go_wp2
      refine bodyPost_ret (results_tmp2 rfl _ _ _) rfl ?_
      exact ⟨by rw [HE.out]; rfl, Fr.drewN hs m⟩

/-- What holds at the head of each round of Same. -/
def SRel (w : World) (n : Nat) (i : Value) (wr : World) : Prop := ∃ k : Nat, k ≤ n ∧ i = .int .i64 k ∧ ∃ m, wr = w.drewN m
set_option maxHeartbeats 1000000 in
theorem same_any (A B : Option Addr) (n cA cB : Nat) (xs : List Bs) (w : World) (ha : RS w A n xs) (hb : RS w B n xs) : Calls Try.prog 20 #[.slice A n cA, .slice B n cB] w fun e w' => e = .returned (.bool true) ∧ ∃ m, w' = w.drewN m := by
  have hn := ha.2.1
  have hR : SRel w n (.int .i64 0) w := ⟨0, by omega, rfl, 0, rfl⟩
  have HA := Lib.hid ha
  have HB := Lib.hid hb
  clear ha hb
  go_enter Try.func20, Try.ntmps20
  go_wp2
  go_loopw [5] (fun i wr => SRel w n i wr) (fun i _ => n - (intOf i).toNat)
  case atStart => exact hR
  case round =>
    obtain ⟨k, hk, rfl, m, rfl⟩ := hrel
    clear hR
    by_cases hlt : k < n
    · obtain ⟨x, hx⟩ : ∃ x, xs[k]? = some x := ⟨xs[k]'(by rw [HA.out.1]; exact hlt), List.getElem?_eq_getElem _⟩
      obtain ⟨g, o, rfl, ca, _⟩ := HA.out.2.2 k x hx
      obtain ⟨g', o', rfl, cb, _⟩ := HB.out.2.2 k x hx
      have i1 : (0 : Int) ≤ (k : Int) := by omega
      have i2 : (k : Int) < (n : Int) := by omega
      clear hx
      go_wp2
      go_quiet (fail)
      go_wp2
      go_roundw
      case rel => exact ⟨k + 1, by omega, by simp, _, rfl⟩
      case measure => simp [intOf]; omega
    · go_wp2
      go_ret
      exact ⟨rfl, m, rfl⟩
theorem same_rs {w : World} {A B : Option Addr} {n cA cB : Nat} {xs : List Bs} (ha : RS w A n xs) (hb : RS w B n xs) : Calls Try.prog 20 #[.slice A n cA, .slice B n cB] w fun e w' => e = .returned (.bool true) ∧ Same w w' :=
  (same_any A B n cA cB xs w ha hb).mono fun _ _ ⟨he, m, hm⟩ => ⟨he, by rw [hm]; exact (Fr.refl _ _).drewN m⟩

end Go.Proofs.Yteokognbnilkmaa
