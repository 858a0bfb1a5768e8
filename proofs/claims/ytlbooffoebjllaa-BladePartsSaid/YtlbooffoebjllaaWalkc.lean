/-
  The walks of Cut.
-/
import Derived.Test.YtlbooffoebjllaaWalkb
namespace Go.Proofs.Ytlbooffoebjllaa
open Go.RowKit

set_option maxHeartbeats 400000 in
theorem cutfn_bad (ga gb gm : Nat) (a : Int) (w : World) (h1 : Blk w ga 3 #[.int .i64 a]) (ha : a < 0 ∨ a > 10000000000) :
    Calls Try.prog 25 #[.pointer (some ⟨ga, 0, none⟩), .pointer (some ⟨gb, 0, none⟩), .pointer (some ⟨gm, 0, none⟩)] w fun e w' => e = .returned (.int .i64 9) ∧ w = w' := by
  have ca := h1.cell 0
  clear h1
  simp at ca
  by_cases b : a < 0
  · clear ha
    go_enter Try.func25, Try.ntmps25
    go_wp2
    go_ret
    exact ⟨rfl, rfl⟩
  · have hb : a > 10000000000 := by omega
    clear ha
    go_enter Try.func25, Try.ntmps25
    go_wp2
    go_ret
    exact ⟨rfl, rfl⟩

/-- What the closure leaves. -/
def Left2 (g gm : Nat) (w : World) (s : St) (m : Int) (w' : World) : Prop := IsB w' g s ∧ Blk w' gm 3 #[.int .i64 m] ∧ Fr (fun i => i = g ∨ i = gm) w w'

theorem Left2.drew {g gm : Nat} {w w' : World} {s : St} {m : Int} (h : Left2 g gm w s m w') : Left2 g gm w s m w'.drew := ⟨h.1, h.2.1, h.2.2.drew⟩
theorem left2_mk {g gm : Nat} {w : World} {L S W N m S' W' N' : Int} (h : IsB w g ⟨L, S, W, N⟩) (hm : Blk w gm 3 #[.int .i64 0]) :
    Left2 g gm w ⟨L, S, W', N'⟩ m (((w.setCell ⟨gm, 0, none⟩ (.int .i64 m)).setCell ⟨g, 2, none⟩ (.int .i64 W')).setCell ⟨g, 3, none⟩ (.int .i64 N')) ∧
    Left2 g gm w ⟨L, S', W', N'⟩ m ((((w.setCell ⟨gm, 0, none⟩ (.int .i64 m)).setCell ⟨g, 2, none⟩ (.int .i64 W')).setCell ⟨g, 3, none⟩ (.int .i64 N')).setCell ⟨g, 1, none⟩ (.int .i64 S')) := by
  have n1 : g ≠ gm := h.blk.ne_ hm (by decide)
  have f : Fr (fun i => i = g ∨ i = gm) w (((w.setCell ⟨gm, 0, none⟩ (.int .i64 m)).setCell ⟨g, 2, none⟩ (.int .i64 W')).setCell ⟨g, 3, none⟩ (.int .i64 N')) :=
    (((Fr.refl _ _).setCell _ _ (.inl (.inr rfl))).setCell _ _ (.inl (.inl rfl))).setCell _ _ (.inl (.inl rfl))
  have b := Blk.set_ (Blk.set_ (Blk.far h.blk (p := ⟨gm, 0, none⟩) n1 (.int .i64 m)) 2 (.int .i64 W')) 3 (.int .i64 N')
  have c := Blk.far (Blk.far (Blk.set_ hm 0 (.int .i64 m)) (p := ⟨g, 2, none⟩) (Ne.symm n1) (.int .i64 W')) (p := ⟨g, 3, none⟩) (Ne.symm n1) (.int .i64 N')
  exact ⟨⟨b, c, f⟩, Blk.set_ b 1 _, Blk.far c (p := ⟨g, 1, none⟩) (Ne.symm n1) _, f.setCell _ _ (.inl (.inl rfl))⟩

/-- How a cut ends. -/
def CutEnd (g gm : Nat) (w : World) (L W N a : Int) (e : Ending) (w' : World) : Prop :=
  e = .returned (.int .i64 0) ∧ Left2 g gm w ⟨L, if W + min a (L - W) = L then 4 else 2, W + min a (L - W), N + min a (L - W)⟩ (min a (L - W)) w'

set_option maxHeartbeats 1000000 in
theorem cutfn_all (g ga gb gm : Nat) (a L W N : Int) (w : World) (h : IsB w g ⟨L, 2, W, N⟩) (h1 : Blk w ga 3 #[.int .i64 a]) (h2 : Blk w gb 22 #[.pointer (some ⟨g, 0, none⟩)])
    (h3 : Blk w gm 3 #[.int .i64 0]) (a1 : 0 ≤ a) (a2 : a ≤ 10000000000) (l1 : 1 ≤ L) (l2 : L ≤ 1000000000000) (w1 : 0 ≤ W) (w2 : W ≤ L) (n1 : 0 ≤ N) (n2 : N ≤ 1000000000000000) (b : L - W < a) :
    Calls Try.prog 25 #[.pointer (some ⟨ga, 0, none⟩), .pointer (some ⟨gb, 0, none⟩), .pointer (some ⟨gm, 0, none⟩)] w (CutEnd g gm w L W N a) := by
  have HL := Lib.hid (fun m S' W' N' => left2_mk (m := m) (S' := S') (W' := W') (N' := N') h h3)
  have c0 := h.blk.cell 0
  have c1 := h.blk.cell 1
  have c2 := h.blk.cell 2
  have c3 := h.blk.cell 3
  have z1 := h.blk.frozen 1
  have z2 := h.blk.frozen 2
  have z3 := h.blk.frozen 3
  have ca := h1.cell 0
  have cb := h2.cell 0
  have cm := h3.cell 0
  have zm := h3.frozen 0
  have n1 := h.blk.ne_ h3 (by decide)
  have n2 := h2.ne_ h3 (by decide)
  have n3 := h.blk.ne_ h2 (by decide)
  clear h h1 h2 h3
  simp at c0 c1 c2 c3 ca cb cm
  have e1 : Hid (min a (L - W) = L - W) := by show min a (L - W) = L - W; omega
  have e2 : Hid (W + (L - W) = L) := by show W + (L - W) = L; omega
  have e3 : (W + (L - W) == L) = true := by simp; omega
  go_enter Try.func25, Try.ntmps25
  go_wp2
  go_region
  go_wp2
  go_region
  go_wp2
  go_region
  go_wp2
  go_region
  go_wp2
  go_ret
  unfold CutEnd
  exact ⟨rfl, by rw [e1.out, if_pos e2.out]; exact (HL.out _ _ _ _).2.drew.drew.drew.drew⟩

set_option maxHeartbeats 1000000 in
theorem cutfn_just (g ga gb gm : Nat) (a L W N : Int) (w : World) (h : IsB w g ⟨L, 2, W, N⟩) (h1 : Blk w ga 3 #[.int .i64 a]) (h2 : Blk w gb 22 #[.pointer (some ⟨g, 0, none⟩)])
    (h3 : Blk w gm 3 #[.int .i64 0]) (a1 : 0 ≤ a) (a2 : a ≤ 10000000000) (l1 : 1 ≤ L) (l2 : L ≤ 1000000000000) (w1 : 0 ≤ W) (w2 : W ≤ L) (n1 : 0 ≤ N) (n2 : N ≤ 1000000000000000) (b : W + a = L) :
    Calls Try.prog 25 #[.pointer (some ⟨ga, 0, none⟩), .pointer (some ⟨gb, 0, none⟩), .pointer (some ⟨gm, 0, none⟩)] w (CutEnd g gm w L W N a) := by
  have HL := Lib.hid (fun m S' W' N' => left2_mk (m := m) (S' := S') (W' := W') (N' := N') h h3)
  have c0 := h.blk.cell 0
  have c1 := h.blk.cell 1
  have c2 := h.blk.cell 2
  have c3 := h.blk.cell 3
  have z1 := h.blk.frozen 1
  have z2 := h.blk.frozen 2
  have z3 := h.blk.frozen 3
  have ca := h1.cell 0
  have cb := h2.cell 0
  have cm := h3.cell 0
  have zm := h3.frozen 0
  have n1 := h.blk.ne_ h3 (by decide)
  have n2 := h2.ne_ h3 (by decide)
  have n3 := h.blk.ne_ h2 (by decide)
  clear h h1 h2 h3
  simp at c0 c1 c2 c3 ca cb cm
  have e1 : Hid (min a (L - W) = a) := by show min a (L - W) = a; omega
  have e2 := Lib.hid b
  have e3 : (W + a == L) = true := by simp; omega
  have e4 : a ≤ L - W := by omega
  clear b
  go_enter Try.func25, Try.ntmps25
  go_wp2
  go_region
  go_wp2
  go_region
  go_wp2
  go_region
  go_wp2
  go_region
  go_wp2
  go_ret
  unfold CutEnd
  exact ⟨rfl, by rw [e1.out, if_pos e2.out]; exact (HL.out _ _ _ _).2.drew.drew.drew.drew⟩

set_option maxHeartbeats 1000000 in
theorem cutfn_part (g ga gb gm : Nat) (a L W N : Int) (w : World) (h : IsB w g ⟨L, 2, W, N⟩) (h1 : Blk w ga 3 #[.int .i64 a]) (h2 : Blk w gb 22 #[.pointer (some ⟨g, 0, none⟩)])
    (h3 : Blk w gm 3 #[.int .i64 0]) (a1 : 0 ≤ a) (a2 : a ≤ 10000000000) (l1 : 1 ≤ L) (l2 : L ≤ 1000000000000) (w1 : 0 ≤ W) (w2 : W ≤ L) (n1 : 0 ≤ N) (n2 : N ≤ 1000000000000000) (b : W + a < L) :
    Calls Try.prog 25 #[.pointer (some ⟨ga, 0, none⟩), .pointer (some ⟨gb, 0, none⟩), .pointer (some ⟨gm, 0, none⟩)] w (CutEnd g gm w L W N a) := by
  have HL := Lib.hid (fun m S' W' N' => left2_mk (m := m) (S' := S') (W' := W') (N' := N') h h3)
  have c0 := h.blk.cell 0
  have c1 := h.blk.cell 1
  have c2 := h.blk.cell 2
  have c3 := h.blk.cell 3
  have z1 := h.blk.frozen 1
  have z2 := h.blk.frozen 2
  have z3 := h.blk.frozen 3
  have ca := h1.cell 0
  have cb := h2.cell 0
  have cm := h3.cell 0
  have zm := h3.frozen 0
  have n1 := h.blk.ne_ h3 (by decide)
  have n2 := h2.ne_ h3 (by decide)
  have n3 := h.blk.ne_ h2 (by decide)
  clear h h1 h2 h3
  simp at c0 c1 c2 c3 ca cb cm
  have e1 : Hid (min a (L - W) = a) := by show min a (L - W) = a; omega
  have e2 : Hid (¬ W + a = L) := by show ¬ W + a = L; omega
  have e3 : (W + a == L) = false := by simp; omega
  have e4 : a ≤ L - W := by omega
  go_enter Try.func25, Try.ntmps25
  go_wp2
  go_region
  go_wp2
  go_region
  go_wp2
  go_region
  go_wp2
  go_region
  go_wp2
  go_ret
  unfold CutEnd
  exact ⟨rfl, by rw [e1.out, if_neg e2.out]; exact (HL.out _ 0 _ _).1.drew.drew.drew.drew⟩

end Go.Proofs.Ytlbooffoebjllaa
