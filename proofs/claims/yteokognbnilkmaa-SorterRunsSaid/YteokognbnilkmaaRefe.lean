/-
  The walk of the reference's Take.
-/
import Derived.Test.YteokognbnilkmaaRefd
namespace Go.Proofs.Yteokognbnilkmaa
open Go.RowKit

/-- How the reference's Take ends. -/
def RTakeE (w : World) (K : Nat → Prop) (c n : Nat) (y : Bins × Bs × List Bs × Int) (e : Ending) (w' : World) : Prop :=
  ∃ A cap B capB, e = .returned (.tuple #[rv c A n cap, .string y.2.1, .slice B y.2.2.1.length capB, .int .i64 y.2.2.2]) ∧ Same w w' ∧ RB (fun i => K i ∨ (w.heap.size ≤ i ∧ i < w'.heap.size)) w' A n y.1 ∧ RS w' B y.2.2.1.length y.2.2.1 ∧ ∀ i, InA B i → K i
theorem sTake_out {bs : Bins} {i : Int} (h : i < 0 ∨ (bs.length : Int) ≤ i) : sTake bs i = (bs, nul, [], 9) := by unfold sTake; rw [if_pos h]
theorem sTake_none {bs : Bins} {i : Nat} {b : Bin} (hb : bs[i]? = some b) (h : b.items = []) : sTake bs i = (bs, nul, [], 18) := by
  have := (List.getElem?_eq_some_iff.1 hb).1
  unfold sTake
  rw [if_neg (by omega), Int.toNat_natCast, hb]
  simp [h]
theorem sTake_some {bs : Bins} {i : Nat} {b : Bin} (hb : bs[i]? = some b) (h : b.items ≠ []) : sTake bs i = (bs.set i ⟨nul, []⟩, b.key, b.items, 0) := by
  have := (List.getElem?_eq_some_iff.1 hb).1
  unfold sTake
  rw [if_neg (by omega), Int.toNat_natCast, hb]
  simp [h]

theorem fr_two (w : World) (h : Nat) (u v : Value) : Fr (fun i => i = h) w ((w.setCell ⟨h, 0, none⟩ u).setCell ⟨h, 1, none⟩ v) :=
  Fr.setCell (Fr.setCell (Fr.refl (fun i => i = h) w) ⟨h, 0, none⟩ u (.inl rfl)) ⟨h, 1, none⟩ v (.inl rfl)
theorem take_keep {W3 w4 : World} {h : Nat} {x0 x1 y0 y1 : Value} (b0 : Blk W3 h 45 #[x0, x1]) (b2 : Blk W3 (h + 1 + 1) 72 #[y0, y1]) (hs : Same W3 w4) (W : World) (hf : Fr (fun i => i = h + 1) w4 W) :
    W.cell? ⟨h, 0, none⟩ = some x0 ∧ W.cell? ⟨h, 1, none⟩ = some x1 ∧ W.cell? ⟨h + 1 + 1, 0, none⟩ = some y0 ∧ W.cell? ⟨h + 1 + 1, 1, none⟩ = some y1 := by
  have c0 := (b0.fr hs (fun x => x)).fr hf (by omega)
  have c2 := (b2.fr hs (fun x => x)).fr hf (by omega)
  exact ⟨c0.cell 0, c0.cell 1, c2.cell 0, c2.cell 1⟩
set_option maxRecDepth 100000 in
set_option maxHeartbeats 1000000 in
theorem rtake_any (K : Nat → Prop) (c : Nat) (A : Option Addr) (n cap : Nat) (bs : Bins) (i : Int) (w : World) (h : RB K w A n bs) (hK : ∀ i, K i → i < w.heap.size) (ok : BOk c bs) (hi : -9223372036854775808 ≤ i ∧ i ≤ 9223372036854775807) :
    Calls Try.prog 19 #[rv c A n cap, .int .i64 i] w (RTakeE w K c n (sTake bs i)) := by
  have hn := h.2.1
  have hn2 : (n : Int) ≤ 16 := by omega
  have hbl := h.1
  have H := Lib.hid h
  have HK := Lib.hid hK
  have OK := Lib.hid ok
  clear h hK ok
  unfold rv
  have out : Hid (∀ k : Int, i < 0 ∨ (n : Int) ≤ i → RTakeE w K c n (sTake bs i) (.returned (.tuple #[rv c A n cap, .string nul, .slice none 0 0, .int .i64 9])) ((w.alloc (.cells #[.int .i64 c, .slice A n cap] 45)).alloc (.cells #[.int .i64 c, .slice A n cap] 45))) := fun _ ho => by
    rw [sTake_out (by rw [hbl]; exact ho)]
    have hs : Same w ((w.alloc (.cells #[.int .i64 c, .slice A n cap] 45)).alloc (.cells #[.int .i64 c, .slice A n cap] 45)) := ((Fr.refl _ _).alloc _).alloc _
    exact ⟨A, cap, none, 0, rfl, hs, (H.out.same hs).mono fun i hi => .inl hi, RS.nil _ _, fun i hi => hi.none_.elim⟩
  by_cases h0 : i < 0
  · go_enter Try.func19, Try.ntmps19
    go_wp2
    exact bodyPost_ret (v := .tuple #[rv c A n cap, .string nul, .slice none 0 0, .int .i64 9]) (by simp [results, Try.results19, go_sem, rv, nul]) rfl (out.out 0 (.inl h0))
  · by_cases h1 : (n : Int) ≤ i
    · go_enter Try.func19, Try.ntmps19
      go_wp2
      exact bodyPost_ret (v := .tuple #[rv c A n cap, .string nul, .slice none 0 0, .int .i64 9]) (by simp [results, Try.results19, go_sem, rv, nul]) rfl (out.out 0 (.inr h1))
    · clear out
      obtain ⟨k, rfl⟩ : ∃ k : Nat, i = k := ⟨i.toNat, by omega⟩
      have hlt : k < n := by omega
      obtain ⟨b, hb⟩ : ∃ b, bs[k]? = some b := ⟨bs[k]'(by omega), List.getElem?_eq_getElem _⟩
      have hil := OK.out.le b (List.mem_of_getElem? hb)
      have hc2 := OK.out.c2
      obtain ⟨g, o, B, capB, hA, c0, c1, hg, hrs, hkB⟩ := H.out.2.2.2 k b hb
      subst hA
      by_cases hz : b.items = []
      · have E := Lib.hid (sTake_none hb hz)
        have hz2 : b.items.length = 0 := by rw [hz]; rfl
        rw [hz2] at c1
        clear hz hb hrs hkB
        go_enter Try.func19, Try.ntmps19
        go_wp2
        refine bodyPost_ret (v := .tuple #[rv c (some ⟨g, o, none⟩) n cap, .string nul, .slice none 0 0, .int .i64 18]) (by simp [results, Try.results19, go_sem, rv, nul]) rfl ?_
        rw [E.out]
        have hs := (((Fr.refl (fun _ => False) w).alloc (.cells #[.int .i64 c, .slice (some ⟨g, o, none⟩) n cap] 45)).alloc (.cells #[.int .i64 c, .slice (some ⟨g, o, none⟩) n cap] 45)).alloc (.cells #[.string b.key, .slice B 0 capB] 72)
        exact ⟨_, cap, none, 0, rfl, hs, (H.out.same hs).mono fun i hi => .inl hi, RS.nil _ _, fun i hi => hi.none_.elim⟩
      · have E := Lib.hid (sTake_some hb hz)
        have hz2 : b.items.length ≠ 0 := fun e => hz (List.eq_nil_of_length_eq_zero e)
        have hz3 : (b.items.length : Int) ≠ 0 := by omega
        have HRS := Lib.hid hrs
        have HKB := Lib.hid hkB
        clear hz hb hrs hkB
        go_enter Try.func19, Try.ntmps19
        go_upto_region 6 with fail
        have hs3 : Same w (((w.alloc (.cells #[.int .i64 c, .slice (some ⟨g, o, none⟩) n cap] 45)).alloc (.cells #[.int .i64 0, .slice none 0 0] 45)).alloc (.cells #[.string b.key, .slice B b.items.length capB] 72)) := (((Fr.refl _ _).alloc _).alloc _).alloc _
        have b0 := ((Blk.new w 45 #[.int .i64 c, .slice (some ⟨g, o, none⟩) n cap]).alloc (.cells #[.int .i64 0, .slice none 0 0] 45)).alloc (.cells #[.string b.key, .slice B b.items.length capB] 72)
        have b1 := (Blk.new (w.alloc (.cells #[.int .i64 c, .slice (some ⟨g, o, none⟩) n cap] 45)) 45 #[.int .i64 0, .slice none 0 0]).alloc (.cells #[.string b.key, .slice B b.items.length capB] 72)
        have b2 := Blk.new ((w.alloc (.cells #[.int .i64 c, .slice (some ⟨g, o, none⟩) n cap] 45)).alloc (.cells #[.int .i64 0, .slice none 0 0] 45)) 72 #[.string b.key, .slice B b.items.length capB]
        simp only [World.size_alloc] at b1 b2
        have hz3 : (((w.alloc (.cells #[.int .i64 c, .slice (some ⟨g, o, none⟩) n cap] 45)).alloc (.cells #[.int .i64 0, .slice none 0 0] 45)).alloc (.cells #[.string b.key, .slice B b.items.length capB] 72)).heap.size = w.heap.size + 1 + 1 + 1 := by simp
        generalize ((w.alloc (.cells #[.int .i64 c, .slice (some ⟨g, o, none⟩) n cap] 45)).alloc (.cells #[.int .i64 0, .slice none 0 0] 45)).alloc (.cells #[.string b.key, .slice B b.items.length capB] 72) = W3 at hs3 b0 b1 b2 hz3
        clear c0 c1 hg
        have d0 := b0.cell 0
        have d1 := b0.cell 1
        have d2 := b2.cell 0
        have d3 := b2.cell 1
        simp at d0 d1 d2 d3
        have HW : Hid (∀ W : World, Same W3 W → Calls Try.prog 31 #[rv c (some ⟨g, o, none⟩) n cap, .int .i64 k, .agg #[.string nul, .slice none 0 0]] W (WithE W K c n (bs.set k ⟨nul, []⟩))) := fun W hW =>
          with_any K c _ n cap k bs nul none [] 0 W ((H.out.same hs3).same hW) hlt (RS.nil _ _) (fun i hi => hi.none_.elim)
        unfold rv at HW
        go_region_held3 (fun W => W.cell? ⟨w.heap.size, 0, none⟩ = some (.int .i64 c) ∧ W.cell? ⟨w.heap.size, 1, none⟩ = some (.slice (some ⟨g, o, none⟩) n cap) ∧ W.cell? ⟨w.heap.size + 1 + 1, 0, none⟩ = some (.string b.key) ∧ W.cell? ⟨w.heap.size + 1 + 1, 1, none⟩ = some (.slice B b.items.length capB))
          (first | exact ⟨d0, d1, d2, d3⟩ | exact HS4.out _ (Fr.refl _ _) | exact HS4.out _ (fr_two _ _ _ _))
          ((go_at_call 31; refine (HW.out _ (Fr.drewN (Fr.refl _ _) _)).mono ?_; rintro e w4 ⟨A4, cap4, rfl, hs4, hR4⟩; have hs5 : Same W3 w4 := ⟨hs4.os, hs4.tape, hs4.output, hs4.size, hs4.block⟩; have HS4 := Lib.hid (take_keep b0 b2 hs5); have p0 := (b1.fr hs5 (fun x => x)).cell 0; have p1 := (b1.fr hs5 (fun x => x)).cell 1; have p2 := (b1.fr hs5 (fun x => x)).frozen 0; have p3 := (b1.fr hs5 (fun x => x)).frozen 1; simp at p0 p1; have HR4 : Hid (RB (fun i => K i ∨ W3.heap.size ≤ i ∧ i < w4.heap.size) w4 A4 n (bs.set k ⟨nul, []⟩)) := hR4; clear hs4 hR4; unfold rv))
        have f7 := fr_two w4 (w.heap.size + 1) (.int .i64 c) (.slice A4 n cap4)
        have n7 := ((b1.fr hs5 (fun x => x)).set_ 0 (.int .i64 c)).set_ 1 (.slice A4 n cap4)
        have z4 := hs5.size
        generalize (w4.setCell ⟨w.heap.size + 1, 0, none⟩ (.int .i64 c)).setCell ⟨w.heap.size + 1, 1, none⟩ (.slice A4 n cap4) = W7 at f7 n7 ⊢
        have f8 : Same w W7 := fr_trans2 (Fr.trans hs3 hs5) f7 (fun i hi e => by omega)
        have z0 := n7.cell 0
        have z1 := n7.cell 1
        simp at z0 z1
        have hR := (HR4.out.fr f7 (fun i hi e => by
          subst e
          rcases hi with hi | ⟨hi, _⟩
          · have := HK.out _ hi
            omega
          · omega)).mono (K' := fun i => K i ∨ (w.heap.size ≤ i ∧ i < W7.heap.size)) (fun i hi => by
          have := f7.size
          rcases hi with hi | ⟨h1, h2⟩
          · exact .inl hi
          · exact .inr ⟨by omega, by omega⟩)
        have HRR := Lib.hid hR
        have F8 := Lib.hid f8
        clear hR f8 f7 n7 HR4 HS4 HW d0 d1 d2 d3 b0 b1 b2 hs3 hs5 p0 p1 p2 p3
        go_wp2
        refine bodyPost_ret (v := .tuple #[rv c A4 n cap4, .string b.key, .slice B b.items.length capB, .int .i64 0]) (by simp [results, Try.results19, go_sem, rv, z0, z1]) rfl ?_
        rw [E.out]
        exact ⟨A4, cap4, B, capB, rfl, F8.out, HRR.out, HRS.out.fr F8.out (fun _ _ x => x), HKB.out⟩

end Go.Proofs.Yteokognbnilkmaa
