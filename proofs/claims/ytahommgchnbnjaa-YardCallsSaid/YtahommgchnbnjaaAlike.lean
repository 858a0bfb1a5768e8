/-
  The walk of alike: a yard beside the reference's.
-/
import Derived.Test.YtahommgchnbnjaaRefb
namespace Go.Proofs.Ytahommgchnbnjaa
open Go.RowKit
attribute [local go_sem ↓] Go.wp_at_zero Go.wp_at_succ

/-- A yard and a reference's yard that are alike. -/
structure Twin (w0 : World) (K : Nat → Prop) (w : World) (g b c p n : Nat) (A G : Option Addr) (m capG : Nat) (ys : Ys) (al : List Ent) : Prop where
  y : YB w0 K w g b c p ys
  inv : Inv ys p al
  r : RY K w A n G m capG (strs ys) (al.map Prod.fst)
section
variable {w0 w w' : World} {K K' : Nat → Prop} {g b c p n m capG : Nat} {A G : Option Addr} {ys : Ys} {al : List Ent}
theorem Twin.same (h : Twin w0 K w g b c p n A G m capG ys al) (hs : Same w w') : Twin w0 K w' g b c p n A G m capG ys al := ⟨h.y.same hs, h.inv, h.r.same hs⟩
theorem Twin.len (h : Twin w0 K w g b c p n A G m capG ys al) : ys.length = n := by have := h.r.rb.1; simpa [strs] using this
theorem Twin.n16 (h : Twin w0 K w g b c p n A G m capG ys al) : n ≤ 16 := h.r.rb.2.1
theorem Twin.m_ (h : Twin w0 K w g b c p n A G m capG ys al) : al.length = m := by have := h.r.ag.1; simpa using this
theorem Twin.old (h : Twin w0 K w g b c p n A G m capG ys al) : oldV (yOld ys) = .tuple #[.string ((al.map Prod.fst).head?.getD nul), .bool (al.map Prod.fst).head?.isSome] := by
  rw [h.inv.old]
  cases al <;> rfl
theorem bay_tw {i : Int} {xs : List Bs} {N : Nat} (h : Twin w0 K w g b c p n A G m capG ys al) (hi : -9223372036854775808 ≤ i ∧ i ≤ 9223372036854775807) (hx : yBay ys i = xs) (hN : xs.length = N) : Calls Try.prog 17 #[.pointer (some ⟨g, 0, none⟩), .int .i64 i] w fun e w' => ∃ B cap, e = .returned (.slice B N cap) ∧ RS w' B N xs ∧ Same w w' := by
  have := bay_to h.y hx hi
  rw [hN] at this
  exact this.mono fun _ _ ⟨B, cap, he, hr, _, hs, _⟩ => ⟨B, cap, he, hr, hs⟩
theorem rbay_tw {i : Int} {xs : List Bs} {N cap : Nat} (h : Twin w0 K w g b c p n A G m capG ys al) (hi : -9223372036854775808 ≤ i ∧ i ≤ 9223372036854775807) (hx : yBay ys i = xs) (hN : xs.length = N) : Calls Try.prog 31 #[rv c A n cap G m capG, .int .i64 i] w fun e w' => ∃ B cap, e = .returned (.slice B N cap) ∧ RS w' B N xs ∧ Same w w' := by
  have := rbay_any K c A n cap G m capG (strs ys) i w h.r.rb hi
  rw [tBay_strs, hx] at this
  unfold RBayE at this
  rw [hN] at this
  exact this
end

set_option maxRecDepth 100000 in
set_option maxHeartbeats 2000000 in
theorem alike_any (w0 : World) (K : Nat → Prop) (g b c p n cap : Nat) (A G : Option Addr) (m capG : Nat) (ys : Ys) (al : List Ent) (w : World) (h : Twin w0 K w g b c p n A G m capG ys al) : Calls Try.prog 19 #[.pointer (some ⟨g, 0, none⟩), rv c A n cap G m capG] w fun e w' => e = .returned (.bool true) ∧ Same w w' := by
  have hn := h.n16
  have hs0 := box47 w (.int .i64 c) (.slice A n cap) (.slice G m capG)
  have b0 := Blk.new w 47 #[.int .i64 c, .slice A n cap, .slice G m capG]
  have HT := Lib.hid (h.same hs0)
  have HS0 := Lib.hid hs0
  obtain ⟨W0, hW0⟩ : ∃ W0, w.alloc (.cells #[.int .i64 c, .slice A n cap, .slice G m capG] 47) = W0 := ⟨_, rfl⟩
  rw [hW0] at b0 HT HS0
  have HC : Hid (∀ W, Same W0 W → W.cell? ⟨w.heap.size, 0, none⟩ = some (.int .i64 c) ∧ W.cell? ⟨w.heap.size, 1, none⟩ = some (.slice A n cap) ∧ W.cell? ⟨w.heap.size, 2, none⟩ = some (.slice G m capG)) := fun W hW => by
    have b1 := b0.fr hW (fun x => x)
    exact ⟨b1.cell 0, b1.cell 1, b1.cell 2⟩
  have HW0 := Lib.hid hW0
  have hml : m ≤ 512 := by
    have e := h.inv.len
    have := totK_le h.y.ok.le ys.length
    rw [h.len] at this e
    rw [← h.m_, ← e]
    exact Nat.le_trans this (Nat.mul_le_mul hn h.y.ok.c2)
  clear h hs0 b0 hW0
  unfold rv
  go_enter Try.func19, Try.ntmps19
  go_wp2
  rw [HW0.out]
  clear HW0
  go_loopw [5] (fun i wr => ∃ k : Int, -1 ≤ k ∧ k ≤ (n : Int) + 1 ∧ i = .int .i64 k ∧ Same W0 wr) (fun i _ => ((n : Int) + 1 - intOf i).toNat)
  case atStart => exact ⟨-1, by omega, by omega, rfl, Same.refl _⟩
  case round =>
    obtain ⟨k, hk1, hk2, rfl, hs⟩ := hrel
    obtain ⟨d0, d1, d2⟩ := HC.out _ hs
    by_cases hlt : k ≤ (n : Int)
    · obtain ⟨xs, hxs⟩ : ∃ xs, yBay ys k = xs := ⟨_, rfl⟩
      obtain ⟨N, hN⟩ : ∃ N, xs.length = N := ⟨_, rfl⟩
      have H17 := Lib.hid (fun W (hW : Same W0 W) => bay_tw (HT.out.same hW) (by omega) hxs hN)
      have H31 := Lib.hid (fun W (hW : Same W0 W) => rbay_tw (cap := cap) (HT.out.same hW) (by omega) hxs hN)
      unfold rv at H31
      clear hxs hN
      go_upto_region 4 with fail
      go_region_held3 (fun W => W.cell? ⟨w.heap.size, 0, none⟩ = some (.int .i64 c) ∧ W.cell? ⟨w.heap.size, 1, none⟩ = some (.slice A n cap) ∧ W.cell? ⟨w.heap.size, 2, none⟩ = some (.slice G m capG))
        (first | exact ⟨d0, d1, d2⟩ | exact HC.out _ tC | exact HC.out _ tB | exact HC.out _ tA)
        (first | (go_at_call 17; (first | refine (H17.out _ hs).mono ?_ | refine (H17.out _ (Fr.drew hs)).mono ?_); rintro e wA ⟨A1, cap1, rfl, r1, s1⟩; have tA : Same W0 wA := Fr.trans hs ⟨s1.os, s1.tape, s1.output, s1.size, s1.block⟩) | (go_at_call 31; (first | refine (H31.out _ tA).mono ?_ | refine (H31.out _ (Fr.drew tA)).mono ?_); rintro e wB ⟨A2, cap2, rfl, r2, s2⟩; have tB : Same W0 wB := Fr.trans tA ⟨s2.os, s2.tape, s2.output, s2.size, s2.block⟩; have r1' := r1.same s2) | (go_at_call 30; refine (rsame_any A1 A2 N cap1 cap2 xs _ r1' r2).mono ?_; rintro e wC ⟨rfl, s3⟩; have tC : Same W0 wC := Fr.trans tB ⟨s3.os, s3.tape, s3.output, s3.size, s3.block⟩))
      have HTC := Lib.hid tC
      clear tA tB tC s1 s2 s3 r1 r1' r2 H17 H31 d0 d1 d2 hs
      go_wp2
      go_roundw
      case rel => exact ⟨k + 1, by omega, by omega, rfl, HTC.out⟩
      case measure => simp [intOf]; omega
    · have hT := HT.out.same hs
      have hold := hT.old
      have HL := Lib.hid hT.len
      obtain ⟨os, hos⟩ : ∃ os, (al.map Prod.fst).head?.getD nul = os := ⟨_, rfl⟩
      obtain ⟨ob, hob⟩ : ∃ ob, (al.map Prod.fst).head?.isSome = ob := ⟨_, rfl⟩
      rw [hos, hob] at hold
      have H13 : Hid (∀ W, Same W0 W → Calls Try.prog 13 #[.pointer (some ⟨g, 0, none⟩)] W fun e W' => e = .returned (.tuple #[.string os, .bool ob]) ∧ Same W W') := fun W hW => by
        have := oldest_yb (HT.out.same hW).y
        rw [hold] at this
        exact this.mono fun _ _ ⟨he, _, hs⟩ => ⟨he, hs⟩
      have H21 : Hid (∀ W, Same W0 W → Calls Try.prog 21 #[rv c A n cap G m capG] W fun e W' => e = .returned (.tuple #[.string os, .bool ob]) ∧ Same W W') := fun W hW => by
        have := roldest_any c A n cap G m capG _ W (HT.out.same hW).r.ag
        rw [hos, hob] at this
        exact this
      have H15 : Hid (∀ W, Same W0 W → Calls Try.prog 15 #[.pointer (some ⟨g, 0, none⟩)] W fun e W' => e = .returned (.int .i64 (m : Nat)) ∧ Same W W') := fun W hW => by
        have h1 := HT.out.same hW
        exact (len_to h1.y (h1.inv.len.trans h1.m_)).mono fun _ _ ⟨he, _, hs⟩ => ⟨he, hs⟩
      have H32 := Lib.hid (fun W => rlen_any c A n cap G m capG W)
      unfold rv at H21 H32
      clear hos hob hold hT
      go_wp2_with fail
      refine (H13.out _ hs).mono ?_
      rintro e w2 ⟨rfl, s2⟩
      have t2 : Same W0 w2 := Fr.trans hs s2
      clear d0 d1 d2
      obtain ⟨d0, d1, d2⟩ := HC.out _ t2
      clear hs s2 H13
      go_wp2_with fail
      refine (H21.out _ t2).mono ?_
      rintro e w3 ⟨rfl, s3⟩
      have t3 : Same W0 w3 := Fr.trans t2 s3
      clear d0 d1 d2
      obtain ⟨d0, d1, d2⟩ := HC.out _ t3
      clear t2 s3 H21
      go_upto_region 8 with fail
      have tb : (ob == ob) = true := by simp
      have ts : (os.toList == os.toList) = true := by simp
      go_region_held3 (fun W => W.cell? ⟨w.heap.size, 0, none⟩ = some (.int .i64 c) ∧ W.cell? ⟨w.heap.size, 1, none⟩ = some (.slice A n cap) ∧ W.cell? ⟨w.heap.size, 2, none⟩ = some (.slice G m capG))
        (first | exact ⟨d0, d1, d2⟩ | exact HC.out _ tB | exact HC.out _ tA)
        (first | (go_at_call 15; (first | refine (H15.out _ t3).mono ?_ | refine (H15.out _ (Fr.drew t3)).mono ?_); rintro e wA ⟨rfl, s1⟩; have tA : Same W0 wA := Fr.trans t3 ⟨s1.os, s1.tape, s1.output, s1.size, s1.block⟩) | (go_at_call 32; refine (H32.out _).mono ?_; rintro e wB ⟨rfl, s2⟩; have tB : Same W0 wB := Fr.trans tA ⟨s2.os, s2.tape, s2.output, s2.size, s2.block⟩))
      have HTC := Lib.hid tB
      clear tA tB s1 s2 H15 H32 d0 d1 d2 t3 tb ts
      go_wp2
      go_ret
      exact ⟨rfl, Fr.trans HS0.out HTC.out⟩

end Go.Proofs.Ytahommgchnbnjaa
