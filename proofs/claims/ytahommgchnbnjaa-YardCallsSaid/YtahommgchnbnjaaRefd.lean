/-
  The walk of the reference's Put.
-/
import Derived.Test.YtahommgchnbnjaaRefc
namespace Go.Proofs.Ytahommgchnbnjaa
open Go.RowKit
attribute [local go_sem ↓] Go.wp_at_zero Go.wp_at_succ

/-- A reference's call has returned this yard. -/
def REnd (w : World) (K : Nat → Prop) (c n : Nat) (ts : List (List Bs)) (ages : List Bs) (rest : List Value) (e : Ending) (w' : World) : Prop :=
  ∃ A cap G m capG, e = .returned (.tuple (rv c A n cap G m capG :: rest).toArray) ∧ Same w w' ∧ RY (fun i => K i ∨ (w.heap.size ≤ i ∧ i < w'.heap.size)) w' A n G m capG ts ages
theorem REnd.stay {w w' : World} {K : Nat → Prop} {c n cap m capG : Nat} {A G : Option Addr} {ts : List (List Bs)} {ages : List Bs} (h : RY K w A n G m capG ts ages) (hs : Same w w') (rest : List Value) : REnd w K c n ts ages rest (.returned (.tuple (rv c A n cap G m capG :: rest).toArray)) w' :=
  ⟨A, cap, G, m, capG, rfl, hs, (h.same hs).mono fun i hi => .inl hi⟩
theorem fr3 (w : World) (h : Nat) (x y z : Value) : Fr (fun i => i = h) w (((w.setCell ⟨h, 0, none⟩ x).setCell ⟨h, 1, none⟩ y).setCell ⟨h, 2, none⟩ z) :=
  Fr.setCell (Fr.setCell (Fr.setCell (Fr.refl (fun i => i = h) w) ⟨h, 0, none⟩ x (.inl rfl)) ⟨h, 1, none⟩ y (.inl rfl)) ⟨h, 2, none⟩ z (.inl rfl)
theorem Blk.set3 {w : World} {h : Nat} {x y z x' y' z' : Value} (b : Blk w h 47 #[x, y, z]) : Blk (((w.setCell ⟨h, 0, none⟩ x').setCell ⟨h, 1, none⟩ y').setCell ⟨h, 2, none⟩ z') h 47 #[x', y', z'] := ((b.set_ 0 x').set_ 1 y').set_ 2 z'
/-- The cells of a block of three. -/
theorem Blk.three {w : World} {h : Nat} {x y z : Value} (b : Blk w h 47 #[x, y, z]) : (w.cell? ⟨h, 0, none⟩ = some x ∧ w.cell? ⟨h, 1, none⟩ = some y ∧ w.cell? ⟨h, 2, none⟩ = some z) ∧ (w.frozen? ⟨h, 0, none⟩ = false ∧ w.frozen? ⟨h, 1, none⟩ = false ∧ w.frozen? ⟨h, 2, none⟩ = false) ∧ h < w.heap.size :=
  ⟨⟨b.cell 0, b.cell 1, b.cell 2⟩, ⟨b.frozen 0, b.frozen 1, b.frozen 2⟩, b.lt⟩

/-- The ages behind a Put. -/
def alPut (c : Nat) (ys : Ys) (p : Nat) (i : Int) (x : Bs) (al : List Ent) : List Ent := if (yPut c ys p i x).2.2 = 0 then al ++ [(x, p)] else al
theorem strs_set (ys : Ys) (i : Nat) (es : List Ent) : strs (ys.set i es) = (strs ys).set i (es.map Prod.fst) := by unfold strs; rw [List.map_set]

/-- The program's variable and the result of a reference's function, in two blocks. -/
structure RBox (w : World) (W : World) (h : Nat) (x y z : Value) : Prop where
  b0 : Blk W h 47 #[x, y, z]
  b1 : Blk W (h + 1) 47 #[.int .i64 0, .slice none 0 0, .slice none 0 0]
  same : Same w W
  hw : w.heap.size ≤ h
theorem RBox.to {w W W' : World} {h : Nat} {x y z : Value} (b : RBox w W h x y z) (hs : Same W W') : RBox w W' h x y z := ⟨b.b0.fr hs (fun x => x), b.b1.fr hs (fun x => x), Fr.trans b.same hs, b.hw⟩
theorem RBox.put {w W : World} {h : Nat} {x y z : Value} (b : RBox w W h x y z) (x' y' z' : Value) : RBox w (((W.setCell ⟨h, 0, none⟩ x').setCell ⟨h, 1, none⟩ y').setCell ⟨h, 2, none⟩ z') h x' y' z' :=
  ⟨b.b0.set3, b.b1.fr (fr3 W h x' y' z') (by omega), fr_trans2 b.same (fr3 W h x' y' z') (fun i hi e => by have := b.hw; omega), b.hw⟩
theorem RBox.put2 {w W : World} {h : Nat} {x y z : Value} (b : RBox w W h x y z) (z' : Value) : RBox w (W.setCell ⟨h, 2, none⟩ z') h x y z' := by
  have f : Fr (fun i => i = h) W (W.setCell ⟨h, 2, none⟩ z') := (Fr.refl _ _).setCell _ _ (.inl rfl)
  exact ⟨b.b0.set_ 2 z', b.b1.fr f (by omega), fr_trans2 b.same f (fun i hi e => by have := b.hw; omega), b.hw⟩
theorem RBox.done {w W : World} {h : Nat} {x y z : Value} (b : RBox w W h x y z) (x' y' z' : Value) : Same w (((W.setCell ⟨h + 1, 0, none⟩ x').setCell ⟨h + 1, 1, none⟩ y').setCell ⟨h + 1, 2, none⟩ z') :=
  fr_trans2 b.same (fr3 W (h + 1) x' y' z') (fun i hi e => by have := b.hw; omega)

set_option maxRecDepth 100000 in
set_option maxHeartbeats 2000000 in
theorem rput_any (K : Nat → Prop) (c : Nat) (A : Option Addr) (n cap : Nat) (G : Option Addr) (m capG p : Nat) (ys : Ys) (al : List Ent) (i : Int) (x : Bs) (w : World) (h : RY K w A n G m capG (strs ys) (al.map Prod.fst)) (hK : ∀ i, K i → i < w.heap.size) (ok : YOk c ys) (hm : m ≤ 600) (hi : -9223372036854775808 ≤ i ∧ i ≤ 9223372036854775807) :
    Calls Try.prog 20 #[rv c A n cap G m capG, .int .i64 i, .string x] w (REnd w K c n (strs (yPut c ys p i x).1) ((alPut c ys p i x al).map Prod.fst) [.int .i64 (yPut c ys p i x).2.2]) := by
  have hn := h.rb.2.1
  have hl : ys.length = n := by have := h.rb.1; simpa [strs] using this
  have hc2 := ok.c2
  have H := Lib.hid h
  have HK := Lib.hid hK
  have OK := Lib.hid ok
  have stay : Hid (∀ (e : Int) (W : World), e ≠ 0 → yPut c ys p i x = (ys, p, e) → Same w W → REnd w K c n (strs (yPut c ys p i x).1) ((alPut c ys p i x al).map Prod.fst) [.int .i64 (yPut c ys p i x).2.2] (.returned (.tuple #[rv c A n cap G m capG, .int .i64 e])) W) := fun e W he hp hs => by
    unfold alPut
    rw [hp]
    simp only
    rw [if_neg he]
    exact REnd.stay H.out hs _
  have bx : RBox w ((w.alloc (.cells #[.int .i64 c, .slice A n cap, .slice G m capG] 47)).alloc (.cells #[.int .i64 0, .slice none 0 0, .slice none 0 0] 47)) w.heap.size (.int .i64 c) (.slice A n cap) (.slice G m capG) := by
    have b1 := Blk.new (w.alloc (.cells #[.int .i64 c, .slice A n cap, .slice G m capG] 47)) 47 #[.int .i64 0, .slice none 0 0, .slice none 0 0]
    rw [World.size_alloc] at b1
    exact ⟨(Blk.new w 47 _).alloc _, b1, ((Fr.refl _ _).alloc _).alloc _, Nat.le_refl _⟩
  have BX := Lib.hid bx
  clear h hK ok bx
  generalize hPost : REnd w K c n (strs (yPut c ys p i x).1) ((alPut c ys p i x al).map Prod.fst) [.int .i64 (yPut c ys p i x).2.2] = Post at stay ⊢
  have HPost := Lib.hid hPost
  clear hPost
  unfold rv
  by_cases h0 : i < 0
  · go_enter Try.func20, Try.ntmps20
    go_wp2
    exact bodyPost_ret (v := .tuple #[rv c A n cap G m capG, .int .i64 9]) (by simp [results, Try.results20, go_sem, rv]) rfl (stay.out 9 _ (by omega) (yPut_out (.inl h0)) (((Fr.refl _ _).alloc _).alloc _))
  · by_cases h1 : (n : Int) ≤ i
    · go_enter Try.func20, Try.ntmps20
      go_wp2
      exact bodyPost_ret (v := .tuple #[rv c A n cap G m capG, .int .i64 9]) (by simp [results, Try.results20, go_sem, rv]) rfl (stay.out 9 _ (by omega) (yPut_out (.inr (by rw [hl]; exact h1))) (((Fr.refl _ _).alloc _).alloc _))
    · obtain ⟨k, rfl⟩ : ∃ k : Nat, i = k := ⟨i.toNat, by omega⟩
      have hlt : k < n := by omega
      obtain ⟨es, hes⟩ : ∃ es, ys[k]? = some es := ⟨ys[k]'(by omega), List.getElem?_eq_getElem _⟩
      by_cases hx : x = nul
      · have t := eq_of hx
        have HE := Lib.hid (yPut_nul (c := c) (p := p) (by rw [hl]; exact hlt) hx)
        clear hx hes
        go_enter Try.func20, Try.ntmps20
        go_wp2
        exact bodyPost_ret (v := .tuple #[rv c A n cap G m capG, .int .i64 6]) (by simp [results, Try.results20, go_sem, rv]) rfl (stay.out 6 _ (by omega) HE.out (((Fr.refl _ _).alloc _).alloc _))
      · have t := ne_of hx
        have HX := Lib.hid hx
        have HES := Lib.hid hes
        have h33 := Lib.hid (fun W (hW : Same w W) => rfind_any K c A n cap G m capG ys x W (H.out.rb.same hW) (fun es he => Nat.le_trans (OK.out.le es he) hc2))
        unfold rv at h33
        clear hx hes
        go_enter Try.func20, Try.ntmps20
        go_wp2_with fail
        refine (h33.out _ BX.out.same).mono ?_
        rintro e w3 ⟨rfl, hs3⟩
        have hff := yFind_is ys x
        generalize yFind ys x = f at hff ⊢
        obtain ⟨f1, f2, f3⟩ := f
        simp only at hff
        unfold findV
        simp only
        have b3 := BX.out.to hs3
        clear hs3 h33 BX
        obtain ⟨⟨d0, d1, d2⟩, ⟨d3, d4, d5⟩, d6⟩ := b3.b0.three
        obtain ⟨⟨q0, q1, q2⟩, ⟨q3, q4, q5⟩, q6⟩ := b3.b1.three
        have B3 := Lib.hid b3
        clear b3
        cases f3 with
        | true =>
          have HE := Lib.hid (yPut_has (c := c) (p := p) (by rw [hl]; exact hlt) HX.out hff.symm)
          clear hff
          go_wp2
          have hs9 := B3.out.done (.int .i64 c) (.slice A n cap) (.slice G m capG)
          have n9 := (B3.out.b1.set3 (x' := .int .i64 c) (y' := .slice A n cap) (z' := .slice G m capG)).three.1
          generalize (((w3.setCell ⟨w.heap.size + 1, 0, none⟩ (.int .i64 c)).setCell ⟨w.heap.size + 1, 1, none⟩ (.slice A n cap)).setCell ⟨w.heap.size + 1, 2, none⟩ (.slice G m capG)) = W9 at hs9 n9 ⊢
          obtain ⟨y0, y1, y2⟩ := n9
          exact bodyPost_ret (v := .tuple #[rv c A n cap G m capG, .int .i64 7]) (by simp [results, Try.results20, go_sem, rv, y0, y1, y2]) rfl (stay.out 7 _ (by omega) HE.out hs9)
        | false =>
          have HF := Lib.hid hff.symm
          have hel := OK.out.le es (List.mem_of_getElem? HES.out)
          obtain ⟨g, o, v, hA, c0, hg, hpv⟩ := (H.out.rb.same B3.out.same).2.2.2 k _ (strs_get HES.out)
          subst hA
          obtain ⟨B, capB, hv, _, _, hrs, _⟩ := hpv
          rw [List.length_map] at hv hrs
          obtain ⟨N, hN⟩ : ∃ N, es.length = N := ⟨_, rfl⟩
          rw [hN] at hv hrs hel
          subst hv
          have HN := Lib.hid hN
          have HRS := Lib.hid hrs
          have i1 : (0 : Int) ≤ (k : Int) := by omega
          have i2 : (k : Int) < (n : Int) := by omega
          clear hff hrs hN
          by_cases hfull : c ≤ N
          · have hfull2 : (c : Int) ≤ (N : Int) := by omega
            have HE := Lib.hid (yPut_full (c := c) (p := p) HES.out HX.out HF.out (by rw [HN.out]; exact hfull))
            clear hfull
            go_upto_region 8 with fail
            go_quiet (fail)
            go_wp2
            have hs9 := (B3.out.to (Same.drewN w3 nq)).done (.int .i64 c) (.slice (some ⟨g, o, none⟩) n cap) (.slice G m capG)
            have n9 := ((B3.out.to (Same.drewN w3 nq)).b1.set3 (x' := .int .i64 c) (y' := .slice (some ⟨g, o, none⟩) n cap) (z' := .slice G m capG)).three.1
            generalize ((((w3.drewN nq).setCell ⟨w.heap.size + 1, 0, none⟩ (.int .i64 c)).setCell ⟨w.heap.size + 1, 1, none⟩ (.slice (some ⟨g, o, none⟩) n cap)).setCell ⟨w.heap.size + 1, 2, none⟩ (.slice G m capG)) = W9 at hs9 n9 ⊢
            obtain ⟨y0, y1, y2⟩ := n9
            exact bodyPost_ret (v := .tuple #[rv c (some ⟨g, o, none⟩) n cap G m capG, .int .i64 12]) (by simp [results, Try.results20, go_sem, rv, y0, y1, y2]) rfl (stay.out 12 _ (by omega) HE.out hs9)
          · have hfull2 : ¬ (c : Int) ≤ (N : Int) := by omega
            have HE := Lib.hid (yPut_ok (c := c) (p := p) HES.out HX.out HF.out (by rw [HN.out]; omega))
            clear hfull
            go_upto_region 8 with fail
            go_quiet (fail)
            go_upto_region 10 with fail
            have b4 := B3.out.to (Same.drewN w3 nq)
            have c4 := c0
            have z4 : w3.heap.size = (w3.drewN nq).heap.size := rfl
            rw [show w3.cell? ⟨g, o + k, none⟩ = (w3.drewN nq).cell? ⟨g, o + k, none⟩ from rfl] at c4
            have r4 := HRS.out.same (Same.drewN w3 nq)
            generalize w3.drewN nq = w4 at b4 c4 r4 ⊢
            clear d0 d1 d2 d3 d4 d5 d6 q0 q1 q2 q3 q4 q5 q6 B3 c0 HRS z4 hg
            obtain ⟨⟨d0, d1, d2⟩, ⟨d3, d4, d5⟩, d6⟩ := b4.b0.three
            have B4 := Lib.hid b4
            have R4 := Lib.hid r4
            clear b4 r4
            have H34 : Hid (∀ (W W' : World) (u : Value), Same w4 W → PV (fun i => W'.heap.size ≤ i ∧ i < W.heap.size) W (es.map Prod.fst ++ [x]) u → W'.heap.size = w4.heap.size → Calls Try.prog 34 #[rv c (some ⟨g, o, none⟩) n cap G m capG, .int .i64 k, u] W (ChE W (fun i => K i ∨ (w4.heap.size ≤ i ∧ i < W.heap.size)) c n G m capG (strs (ys.set k (es ++ [(x, p)]))))) := fun W W' u hW hp hz => by
              rw [strs_set, List.map_append]
              rw [hz] at hp
              exact changed_any (fun i => K i ∨ (w4.heap.size ≤ i ∧ i < W.heap.size)) c _ n cap G m capG (strs ys) k _ u W (((H.out.rb.same B4.out.same).same hW).mono fun i hi => .inl hi) hlt (hp.mono fun i hi => .inr hi)
            unfold rv at H34
            go_region_with (first | (go_at_call 35; (first | refine (with_any B N capB _ x w4.drew R4.out (by omega)).mono ?_ | refine (with_any B N capB _ x w4 R4.out (by omega)).mono ?_); rintro e w5 ⟨v5, rfl, hp5, hs5⟩; have s5 : Same w4 w5 := ⟨hs5.os, hs5.tape, hs5.output, hs5.size, hs5.block⟩; have HP5 := Lib.hid hp5; obtain ⟨B5, cap5, hv5, _⟩ := hp5; generalize (es.map Prod.fst ++ [x]).length = N5 at hv5; subst hv5; obtain ⟨⟨f0, f1, f2⟩, _⟩ := (B4.out.to s5).b0.three; clear hs5) | (go_at_call 34; refine (H34.out _ w4.drew _ s5 HP5.out rfl).mono ?_; rintro e w6 ⟨A6, cap6, rfl, hs6, hR6⟩; have s6 : Same w4 w6 := Fr.trans s5 hs6; obtain ⟨⟨f0', f1', f2'⟩, ⟨f3', f4', f5'⟩, f6'⟩ := (B4.out.to s6).b0.three; have HR6 := Lib.hid hR6; have HS6 := Lib.hid hs6; clear hs6 hR6; unfold rv))
            all_goals
              have b7 := (B4.out.to s6).put (.int .i64 c) (.slice A6 n cap6) (.slice G m capG)
              have hz4 := B4.out.b1.lt
              have hR7 := HR6.out.fr (fr3 w6 w.heap.size (.int .i64 c) (.slice A6 n cap6) (.slice G m capG)) (fun j hj e => by
                rcases hj with (hj | ⟨hj, _⟩) | ⟨hj, _⟩
                · have := HK.out j hj; omega
                · omega
                · have := s5.size; omega)
              have z67 := (fr3 w6 w.heap.size (.int .i64 c) (.slice A6 n cap6) (.slice G m capG)).size
              generalize (((w6.setCell ⟨w.heap.size, 0, none⟩ (.int .i64 c)).setCell ⟨w.heap.size, 1, none⟩ (.slice A6 n cap6)).setCell ⟨w.heap.size, 2, none⟩ (.slice G m capG)) = W7 at b7 hR7 z67 ⊢
              have hR7' := hR7.mono (K' := fun i => K i ∨ (w.heap.size + 1 + 1 ≤ i ∧ i < W7.heap.size)) (fun j hj => by
                have e1 := s5.size
                have e2 := s6.size
                rcases hj with (hj | ⟨hj, hj'⟩) | ⟨hj, hj'⟩
                · exact .inl hj
                · exact .inr ⟨by omega, by have := HS6.out.size; omega⟩
                · exact .inr ⟨by omega, by omega⟩)
              have HR7 := Lib.hid hR7'
              have hag := (H.out.same b7.same).ag
              have B7 := Lib.hid b7
              clear hR7 hR7' HR6 HS6 s5 s6 H34 d0 d1 d2 d3 d4 d5 d6 f0 f1 f2 f0' f1' f2' f3' f4' f5' f6' HP5 c4
              obtain ⟨⟨d0, d1, d2⟩, ⟨d3, d4, d5⟩, d6⟩ := b7.b0.three
              clear b7
              go_wp2_with fail
              refine (with_any G m capG (al.map Prod.fst) x _ hag (by omega)).mono ?_
              rintro e w8 ⟨v8, rfl, hp8, hs8⟩
              have HP8 := Lib.hid hp8
              obtain ⟨G8, capG8, hv8, hc8, hc8', hr8, hk8⟩ := hp8
              have hl8 : (al.map Prod.fst ++ [x]).length = m + 1 := by rw [List.length_append, hag.1]; rfl
              rw [hl8] at hv8 hc8 hr8
              subst hv8
              have b8 := B7.out.to hs8
              have B8 := Lib.hid b8
              have HR8 := Lib.hid (HR7.out.same hs8)
              have HRS8 := Lib.hid hr8
              have HK8 := Lib.hid hk8
              have hz8 := hs8.size
              clear d0 d1 d2 d3 d4 d5 d6 hag hr8 hk8 hs8 hl8 HP8
              obtain ⟨⟨d0, d1, d2⟩, ⟨d3, d4, d5⟩, d6⟩ := b8.b0.three
              obtain ⟨⟨q0, q1, q2⟩, ⟨q3, q4, q5⟩, q6⟩ := b8.b1.three
              clear b8
              go_wp2
              have hb9 := B8.out.put2 (.slice G8 (m + 1) capG8)
              have hs9 := hb9.done (.int .i64 c) (.slice A6 n cap6) (.slice G8 (m + 1) capG8)
              have n9 := (hb9.b1.set3 (x' := .int .i64 c) (y' := .slice A6 n cap6) (z' := .slice G8 (m + 1) capG8)).three.1
              have f9 : Fr (fun j => j = w.heap.size ∨ j = w.heap.size + 1) w8 ((((w8.setCell ⟨w.heap.size, 2, none⟩ (.slice G8 (m + 1) capG8)).setCell ⟨w.heap.size + 1, 0, none⟩ (.int .i64 c)).setCell ⟨w.heap.size + 1, 1, none⟩ (.slice A6 n cap6)).setCell ⟨w.heap.size + 1, 2, none⟩ (.slice G8 (m + 1) capG8)) :=
                Fr.trans ((Fr.refl _ _).setCell _ _ (.inl (.inl rfl))) ((fr3 (w8.setCell ⟨w.heap.size, 2, none⟩ (.slice G8 (m + 1) capG8)) (w.heap.size + 1) (.int .i64 c) (.slice A6 n cap6) (.slice G8 (m + 1) capG8)).mono fun j _ e => .inr e)
              generalize ((((w8.setCell ⟨w.heap.size, 2, none⟩ (.slice G8 (m + 1) capG8)).setCell ⟨w.heap.size + 1, 0, none⟩ (.int .i64 c)).setCell ⟨w.heap.size + 1, 1, none⟩ (.slice A6 n cap6)).setCell ⟨w.heap.size + 1, 2, none⟩ (.slice G8 (m + 1) capG8)) = W9 at hs9 n9 f9 ⊢
              obtain ⟨y0, y1, y2⟩ := n9
              refine bodyPost_ret (v := .tuple #[rv c A6 n cap6 G8 (m + 1) capG8, .int .i64 0]) (by simp [results, Try.results20, go_sem, rv, y0, y1, y2]) rfl ?_
              rw [← HPost.out]
              unfold alPut
              rw [HE.out]
              simp only [if_true]
              have z7 := B7.out.b1.lt
              have z9 := f9.size
              refine ⟨A6, cap6, G8, m + 1, capG8, rfl, hs9, ⟨(HR8.out.fr f9 (fun j hj e => ?_)).mono fun j hj => ?_, ?_, hc8, hc8', fun j hj => ?_⟩⟩
              · rcases hj with hj | ⟨hj, _⟩
                · have := HK.out j hj; omega
                · omega
              · rcases hj with hj | ⟨hj, hj'⟩
                · exact .inl hj
                · exact .inr ⟨by omega, by omega⟩
              · rw [List.map_append]
                exact HRS8.out.fr f9 (fun j hj e => by have := HK8.out j hj; omega)
              · have := HK8.out j hj
                exact .inr ⟨by omega, by omega⟩

end Go.Proofs.Ytahommgchnbnjaa
