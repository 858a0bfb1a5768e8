/-
  The walk of the reference's Put.
-/
import Derived.Test.YteokognbnilkmaaRefe
namespace Go.Proofs.Yteokognbnilkmaa
open Go.RowKit

/-- How the reference's Put ends. -/
def RPutE (w : World) (K : Nat → Prop) (c n : Nat) (y : Bins × Nat × Int) (e : Ending) (w' : World) : Prop :=
  ∃ A cap, e = .returned (.tuple #[rv c A n cap, .int .i64 (y.2.1 : Nat), .int .i64 y.2.2]) ∧ Same w w' ∧ RB (fun i => K i ∨ (w.heap.size ≤ i ∧ i < w'.heap.size)) w' A n y.1
theorem sPut_nul {c : Nat} {bs : Bins} {k x : Bs} (h : k = nul ∨ x = nul) : sPut c bs k x = (bs, 0, 6) := by unfold sPut; rw [if_pos h]
theorem sPut_has {c : Nat} {bs : Bins} {k x : Bs} (hk : k ≠ nul) (hx : x ≠ nul) (h : (fnd (pHas x) bs).isSome = true) : sPut c bs k x = (bs, 0, 7) := by
  unfold sPut
  rw [if_neg (fun e => e.elim hk hx), if_pos h]
theorem binI_or (c : Nat) (k : Bs) (bs : Bins) (hc : 1 ≤ c) : (binI c k bs = -1 ∧ ∀ x, k ≠ nul → x ≠ nul → (fnd (pHas x) bs).isSome = false → sPut c bs k x = (bs, 0, 12)) ∨
    ∃ i b, binI c k bs = (i : Nat) ∧ bs[i]? = some b ∧ b.items.length < c ∧ ∀ x, k ≠ nul → x ≠ nul → (fnd (pHas x) bs).isSome = false → sPut c bs k x = (putAt bs i k x, i, 0) := by
  unfold binI
  cases h1 : fnd (pKey c k) bs with
  | some i =>
    right
    obtain ⟨b, hb, hp, _⟩ := fnd_some h1
    unfold pKey at hp
    simp at hp
    refine ⟨i, b, rfl, hb, by omega, fun x hk hx h => ?_⟩
    unfold sPut
    rw [if_neg (fun e => e.elim hk hx), h, h1]
    rfl
  | none =>
    cases h2 : fnd pEmpty bs with
    | some i =>
      right
      obtain ⟨b, hb, hp, _⟩ := fnd_some h2
      unfold pEmpty at hp
      simp at hp
      refine ⟨i, b, rfl, hb, by rw [hp]; simp; omega, fun x hk hx h => ?_⟩
      unfold sPut
      rw [if_neg (fun e => e.elim hk hx), h, h1, h2]
      rfl
    | none =>
      left
      refine ⟨rfl, fun x hk hx h => ?_⟩
      unfold sPut
      rw [if_neg (fun e => e.elim hk hx), h, h1, h2]
      rfl
theorem putAt_set {bs : Bins} {i : Nat} {b : Bin} (h : bs[i]? = some b) (k x : Bs) : putAt bs i k x = bs.set i ⟨k, b.items ++ [x]⟩ := by
  unfold putAt
  apply List.ext_getElem?
  intro j
  rw [List.getElem?_modify, List.getElem?_set]
  obtain ⟨hk2, hg2⟩ := List.getElem?_eq_some_iff.1 h
  by_cases e : i = j
  · subst e; simp [hk2, hg2]
  · simp [e]

theorem put_keep {w4 : World} {h g j : Nat} {x0 x1 y : Value} (b0 : Blk w4 h 45 #[x0, x1]) (c1 : w4.cell? ⟨g, j, none⟩ = some y) (hg : g ≠ h + 1) (W : World) (hf : Fr (fun i => i = h + 1) w4 W) :
    W.cell? ⟨h, 0, none⟩ = some x0 ∧ W.cell? ⟨h, 1, none⟩ = some x1 ∧ W.cell? ⟨g, j, none⟩ = some y := by
  have c0 := b0.fr hf (by omega)
  exact ⟨c0.cell 0, c0.cell 1, cell_fr hf hg c1⟩
theorem own_emp (w : World) (base : Nat) (h : base ≤ w.heap.size) : (w.alloc (.cells #[] 9)).ownsRow base 9 1 (.slice (some ⟨w.heap.size, 0, none⟩) 0 0) 0 [] := World.ownsRow_lit w #[] 0 h (Nat.zero_le _) rfl

theorem reads_cell {w : World} {q : Nat} {u : Value} (h : w.cell? ⟨q, 0, none⟩ = some u) : Reads w (q + 1) 1 (some ⟨q, 0, none⟩) 1 [u] := by
  refine ⟨rfl, fun _ => ⟨_, rfl, Nat.lt_succ_self _, fun j v hv => ?_⟩⟩
  have hj : j < 1 := by simpa using (List.getElem?_eq_some_iff.1 hv).1
  rw [addr_add]
  match j, hj with
  | 0, _ => simp at hv; subst hv; exact h
theorem put_A {w4 w5 : World} {item : Bs} (hgr : ((w4.alloc (.cells #[] 9)).alloc (.cells #[.string item] 9)).grownBy w5 (some w4.heap.size)) : Hid (Same w4 w5) ∧ Hid (Reads w5 (w4.heap.size + 1 + 1) 1 (some ⟨w4.heap.size + 1, 0, none⟩) 1 [.string item]) := by
  refine ⟨same_grown (((Fr.refl _ _).alloc _).alloc _) hgr (fun g e => by cases e; omega), reads_cell ?_⟩
  rw [hgr.cell_far _ (by simp) (by simp)]
  simp
theorem put_B {w4 w5 : World} {item : Bs} (hgr : ((w4.alloc (.cells #[.string item] 9)).alloc (.cells #[] 9)).grownBy w5 (some (w4.heap.size + 1))) : Hid (Same w4 w5) ∧ Hid (Reads w5 (w4.heap.size + 1) 1 (some ⟨w4.heap.size, 0, none⟩) 1 [.string item]) := by
  refine ⟨same_grown (((Fr.refl _ _).alloc _).alloc _) hgr (fun g e => by cases e; omega), reads_cell ?_⟩
  rw [hgr.cell_far _ (by simp; omega) (by simp)]
  simp
theorem put_C {w4 w5 : World} (hgr : (w4.alloc (.cells #[] 9)).grownBy w5 (some w4.heap.size)) : Hid (Same w4 w5) ∧ True :=
  ⟨same_grown ((Fr.refl _ _).alloc _) hgr (fun g e => by cases e; omega), trivial⟩
theorem put_row {w4 w6 : World} {items : List Bs} {item : Bs} {m : Nat} {v6 : Value} (hm : items.length + 1 = m) (hown : w6.ownsRow w4.heap.size 9 1 v6 (0 + items.length + 1) ([] ++ cellsS items ++ [.string item])) :
    ∃ A6 cap6, v6 = .slice A6 m cap6 ∧ Hid (RS w6 A6 m (items ++ [item])) ∧ Hid (∀ i, InA A6 i → w4.heap.size ≤ i ∧ i < w6.heap.size) := by
  rw [Nat.zero_add, hm, List.nil_append] at hown
  have e : cellsS items ++ [.string item] = cellsS (items ++ [item]) := by simp [cellsS]
  rw [e] at hown
  obtain ⟨A, cap, hv, hr, hi⟩ := RS.of_own hown (by simp [hm])
  exact ⟨A, cap, hv, hr, fun i h => own_lt hown (hi i h)⟩
theorem put_D {w4 w5 w6 : World} {items : List Bs} {item : Bs} {m : Nat} {v5 v6 : Value} (hm : items.length + 1 = m) (hs : Same w4 w5) (ho : w5.ownsRow w4.heap.size 9 1 v5 (0 + items.length) ([] ++ cellsS items)) (hown : w6.ownsRow w4.heap.size 9 1 v6 (0 + items.length + 1) ([] ++ cellsS items ++ [.string item])) (hgr : w5.grownBy w6 v5.ownBlock) :
    ∃ A6 cap6, v6 = .slice A6 m cap6 ∧ Hid (Same w4 w6) ∧ Hid (RS w6 A6 m (items ++ [item])) ∧ Hid (∀ i, InA A6 i → w4.heap.size ≤ i ∧ i < w6.heap.size) := by
  obtain ⟨A, cap, hv, hr, hi⟩ := put_row hm hown
  exact ⟨A, cap, hv, same_grown hs hgr (fun g e => own_base ho e), hr, hi⟩
theorem put_E {w4 w5 w6 : World} {items : List Bs} {item : Bs} {m : Nat} {v5 v6 : Value} {ob : Obj} (hm : items.length + 1 = m) (hs : Same w4 w5) (ho : w5.ownsRow w4.heap.size 9 1 v5 (0 + items.length) ([] ++ cellsS items)) (hown : w6.ownsRow w4.heap.size 9 1 v6 (0 + items.length + 1) ([] ++ cellsS items ++ [.string item])) (hgr : (w5.alloc ob).grownBy w6 v5.ownBlock) :
    ∃ A6 cap6, v6 = .slice A6 m cap6 ∧ Hid (Same w4 w6) ∧ Hid (RS w6 A6 m (items ++ [item])) ∧ Hid (∀ i, InA A6 i → w4.heap.size ≤ i ∧ i < w6.heap.size) := by
  obtain ⟨A, cap, hv, hr, hi⟩ := put_row hm hown
  exact ⟨A, cap, hv, same_grown (Fr.alloc hs _) hgr (fun g e => own_base ho e), hr, hi⟩
theorem put_F {K : Nat → Prop} {w4 w6 w7 : World} {A : Option Addr} {n : Nat} {bs : Bins} (hs : Same w4 w6) (h : Same w6 w7) (hR : RB (fun i => (K i ∨ w4.heap.size ≤ i ∧ i < w6.heap.size) ∨ (w6.heap.size ≤ i ∧ i < w7.heap.size)) w7 A n bs) :
    Hid (Same w4 w7) ∧ Hid (RB (fun i => K i ∨ (w4.heap.size ≤ i ∧ i < w7.heap.size)) w7 A n bs) := by
  have z1 := hs.size
  have z2 := h.size
  refine ⟨Fr.trans hs h, hR.mono fun i hi => ?_⟩
  rcases hi with (hi | ⟨h1, h2⟩) | ⟨h1, h2⟩
  · exact .inl hi
  · exact .inr ⟨h1, by omega⟩
  · exact .inr ⟨by omega, h2⟩

set_option maxRecDepth 100000 in
set_option maxHeartbeats 1000000 in
theorem rput_any (K : Nat → Prop) (c : Nat) (A : Option Addr) (n cap : Nat) (bs : Bins) (key item : Bs) (w : World) (h : RB K w A n bs) (hK : ∀ i, K i → i < w.heap.size) (ok : BOk c bs) :
    Calls Try.prog 18 #[rv c A n cap, .string key, .string item] w (RPutE w K c n (sPut c bs key item)) := by
  obtain ⟨i0, hi0, hz0, hz1, hz2⟩ := info_parts info9
  have hn := h.2.1
  have hn2 : (n : Int) ≤ 16 := by omega
  have hbl := h.1
  have H := Lib.hid h
  have HK := Lib.hid hK
  have OK := Lib.hid ok
  clear h hK ok
  have stay : Hid (∀ (m : Int) (w' : World), Same w w' → RPutE w K c n (bs, 0, m) (.returned (.tuple #[rv c A n cap, .int .i64 (0 : Nat), .int .i64 m])) w') := fun m w' hs => ⟨A, cap, rfl, hs, (H.out.same hs).mono fun i hi => .inl hi⟩
  by_cases hk : key = nul
  · have E := Lib.hid (sPut_nul (c := c) (bs := bs) (k := key) (x := item) (.inl hk))
    have t := eq_of hk
    clear hk
    unfold rv
    go_enter Try.func18, Try.ntmps18
    go_wp2
    refine bodyPost_ret (v := .tuple #[rv c A n cap, .int .i64 (0 : Nat), .int .i64 6]) (by simp [results, Try.results18, go_sem, rv]) rfl ?_
    rw [E.out]
    exact stay.out _ _ (((Fr.refl _ _).alloc _).alloc _)
  · by_cases hx : item = nul
    · have E := Lib.hid (sPut_nul (c := c) (bs := bs) (k := key) (x := item) (.inr hx))
      have t := eq_of hx
      have t2 := ne_of hk
      clear hk hx
      unfold rv
      go_enter Try.func18, Try.ntmps18
      go_wp2
      refine bodyPost_ret (v := .tuple #[rv c A n cap, .int .i64 (0 : Nat), .int .i64 6]) (by simp [results, Try.results18, go_sem, rv]) rfl ?_
      rw [E.out]
      exact stay.out _ _ (((Fr.refl _ _).alloc _).alloc _)
    · have t := ne_of hx
      have t2 := ne_of hk
      have HKE := Lib.hid hk
      have HXE := Lib.hid hx
      have hs2 : Same w ((w.alloc (.cells #[.int .i64 c, .slice A n cap] 45)).alloc (.cells #[.int .i64 0, .slice none 0 0] 45)) := ((Fr.refl _ _).alloc _).alloc _
      have b0 := (Blk.new w 45 #[.int .i64 c, .slice A n cap]).alloc (.cells #[.int .i64 0, .slice none 0 0] 45)
      have b1 := Blk.new (w.alloc (.cells #[.int .i64 c, .slice A n cap] 45)) 45 #[.int .i64 0, .slice none 0 0]
      simp only [World.size_alloc] at b1
      have HA := Lib.hid (fun W hW => has_any K c A n cap bs item W (H.out.same hW) (fun b hb => Nat.le_trans (OK.out.le b hb) OK.out.c2))
      have HBI := Lib.hid (fun W hW => bin_any K c A n cap bs key W (H.out.same hW) OK.out hk)
      clear hk hx
      unfold rv at HA HBI ⊢
      go_enter Try.func18, Try.ntmps18
      go_wp2_with fail
      refine (HA.out _ hs2).mono ?_
      rintro e w3 ⟨rfl, hs3⟩
      have hsa : Same w w3 := Fr.trans hs2 hs3
      have q0 := b0.fr hs3 (fun x => x)
      have q1 := b1.fr hs3 (fun x => x)
      have hzz := hs3.size
      simp only [World.size_alloc] at hzz
      have d0 := q0.cell 0
      have d1 := q0.cell 1
      have d2 := q1.cell 0
      have d3 := q1.cell 1
      have d4 := q1.frozen 0
      have d5 := q1.frozen 1
      simp at d0 d1 d2 d3
      clear b0 b1 hs2 hs3
      cases hh : (fnd (pHas item) bs).isSome with
      | true =>
        have E := Lib.hid (sPut_has (c := c) HKE.out HXE.out hh)
        clear hh
        go_wp2
        have f7 := fr_two w3 (w.heap.size + 1) (.int .i64 c) (.slice A n cap)
        have n7 := (q1.set_ 0 (.int .i64 c)).set_ 1 (.slice A n cap)
        generalize (w3.setCell ⟨w.heap.size + 1, 0, none⟩ (.int .i64 c)).setCell ⟨w.heap.size + 1, 1, none⟩ (.slice A n cap) = W7 at f7 n7 ⊢
        have z0 := n7.cell 0
        have z1 := n7.cell 1
        simp at z0 z1
        refine bodyPost_ret (v := .tuple #[rv c A n cap, .int .i64 (0 : Nat), .int .i64 7]) (by simp [results, Try.results18, go_sem, rv, z0, z1]) rfl ?_
        rw [E.out]
        exact stay.out _ _ (fr_trans2 hsa f7 (fun i hi e => by omega))
      | false =>
        have HH := Lib.hid hh
        clear hh
        go_wp2_with fail
        refine (HBI.out _ hsa).mono ?_
        rintro e w4 ⟨rfl, hs4⟩
        have hsb : Same w w4 := Fr.trans hsa hs4
        have r0 := q0.fr hs4 (fun x => x)
        have r1 := q1.fr hs4 (fun x => x)
        have hz4 := hs4.size
        clear d0 d1 d2 d3 d4 d5 q0 q1 hs4
        have d0 := r0.cell 0
        have d1 := r0.cell 1
        have d2 := r1.cell 0
        have d3 := r1.cell 1
        have d4 := r1.frozen 0
        have d5 := r1.frozen 1
        simp at d0 d1 d2 d3
        rcases binI_or c key bs OK.out.c1 with ⟨hb, he⟩ | ⟨i, b, hb, hbi, hlt, he⟩
        · rw [hb]
          have E := Lib.hid (he item HKE.out HXE.out HH.out)
          clear he hb
          go_wp2
          have f7 := fr_two w4 (w.heap.size + 1) (.int .i64 c) (.slice A n cap)
          have n7 := (r1.set_ 0 (.int .i64 c)).set_ 1 (.slice A n cap)
          generalize (w4.setCell ⟨w.heap.size + 1, 0, none⟩ (.int .i64 c)).setCell ⟨w.heap.size + 1, 1, none⟩ (.slice A n cap) = W7 at f7 n7 ⊢
          have z0 := n7.cell 0
          have z1 := n7.cell 1
          simp at z0 z1
          refine bodyPost_ret (v := .tuple #[rv c A n cap, .int .i64 (0 : Nat), .int .i64 12]) (by simp [results, Try.results18, go_sem, rv, z0, z1]) rfl ?_
          rw [E.out]
          exact stay.out _ _ (fr_trans2 hsb f7 (fun i hi e => by omega))
        · rw [hb]
          have E := Lib.hid (he item HKE.out HXE.out HH.out)
          have hil : i < n := by have := (List.getElem?_eq_some_iff.1 hbi).1; omega
          have hil2 : (i : Int) < (n : Int) := by omega
          clear he hb
          obtain ⟨g, o, B, capB, hA, c0, c1, hg, hrs, hkB⟩ := (H.out.same hsb).2.2.2 i b hbi
          subst hA
          have hgk : g < w.heap.size := HK.out g (H.out.2.2.1 g ⟨o, rfl⟩)
          obtain ⟨m, hm⟩ : ∃ m, b.items.length + 1 = m := ⟨_, rfl⟩
          have hib := Nat.le_trans (Nat.le_of_lt hlt) OK.out.c2
          have HS4 := Lib.hid (put_keep r0 c1 (by omega : g ≠ w.heap.size + 1))
          have HW : Hid (∀ (W : World) (A' : Option Addr) (cap' : Nat), Same w4 W → RS W A' m (b.items ++ [item]) → (∀ i, InA A' i → w4.heap.size ≤ i ∧ i < W.heap.size) →
              Calls Try.prog 31 #[rv c (some ⟨g, o, none⟩) n cap, .int .i64 i, .agg #[.string key, .slice A' m cap']] W (WithE W (fun i => K i ∨ (w4.heap.size ≤ i ∧ i < W.heap.size)) c n (bs.set i ⟨key, b.items ++ [item]⟩))) := fun W A' cap' hW hR hI => by
            have hl : (b.items ++ [item]).length = m := by simp [hm]
            have := with_any (fun i => K i ∨ (w4.heap.size ≤ i ∧ i < W.heap.size)) c (some ⟨g, o, none⟩) n cap i bs key A' (b.items ++ [item]) cap' W (((H.out.same hsb).same hW).mono fun i hi => .inl hi) hil (by rw [hl]; exact hR) (fun i hi => .inr (hI i hi))
            rw [hl] at this
            exact this
          unfold rv at HW
          have OA : Hid (((w4.alloc (.cells #[] 9)).alloc (.cells #[.string item] 9)).ownsRow w4.heap.size 9 1 (.slice (some ⟨w4.heap.size, 0, none⟩) 0 0) 0 []) := (own_emp w4 w4.heap.size (Nat.le_refl _)).alloc _
          have OB : Hid (((w4.alloc (.cells #[.string item] 9)).alloc (.cells #[] 9)).ownsRow w4.heap.size 9 1 (.slice (some ⟨w4.heap.size + 1, 0, none⟩) 0 0) 0 []) := by
            have := own_emp (w4.alloc (.cells #[.string item] 9)) w4.heap.size (by simp)
            unfold Hid; simpa using this
          have OC : Hid ((w4.alloc (.cells #[] 9)).ownsRow w4.heap.size 9 1 (.slice (some ⟨w4.heap.size, 0, none⟩) 0 0) 0 []) := own_emp w4 w4.heap.size (Nat.le_refl _)
          have HRS := Lib.hid hrs
          clear hrs
          go_upto_region 8 with fail
          go_region_held3 (fun W => W.cell? ⟨w.heap.size, 0, none⟩ = some (.int .i64 c) ∧ W.cell? ⟨w.heap.size, 1, none⟩ = some (.slice (some ⟨g, o, none⟩) n cap) ∧ W.cell? ⟨g, o + i * 2 + 1, none⟩ = some (.slice B b.items.length capB))
            (first | exact ⟨d0, d1, c1⟩ | exact HS4.out _ (by repeat (first | exact Fr.refl _ _ | exact s7 | exact s6 | exact s5 | exact fr_trans2 s7 (fr_two _ _ _ _) (fun _ _ e => e) | apply Fr.alloc | apply Fr.drew)))
            (first | (refine step_append_any _ (by rfl) (.tmp 30) (.tmp 36) 38 (by rfl) w4.heap.size 9 i0 _ 1 16 Try.underlying38 hi0 hz0 hz1 hz2 rfl (by decide) _ 0 [] (by rfl) (by first | exact OA.out | exact OB.out | exact OC.out | fail) w4.heap.size B b.items.length capB (cellsS b.items) (by rfl) (by first | exact HRS.out.reads.alloc (Nat.le_refl _) _ | exact (HRS.out.reads.alloc (Nat.le_refl _) _).alloc (by simp) _ | fail) (one_cellsS _) (by unfold maxLen; omega) (by omega) (by first | (simp; omega) | simp) ?_; intro v5 w5 hown5 hgr5 hat5; (first | (have q5 := put_C (w4 := w4) ⟨hgr5.os, hgr5.tape, hgr5.output, hgr5.size, hgr5.block⟩) | (have q5 := put_A (item := item) (w4 := w4) ⟨hgr5.os, hgr5.tape, hgr5.output, hgr5.size, hgr5.block⟩) | (have q5 := put_B (item := item) (w4 := w4) ⟨hgr5.os, hgr5.tape, hgr5.output, hgr5.size, hgr5.block⟩) | fail); obtain ⟨S5, R5⟩ := q5; have s5 : Fr (fun i => i = w.heap.size + 1) w4 w5 := S5.out.to _; have O5 := Lib.hid hown5; have z5 := s5.size; clear hown5 hgr5 hat5) | (refine step_append_any _ (by rfl) (.tmp 37) (.tmp 39) 38 (by rfl) w4.heap.size 9 i0 _ 1 16 Try.underlying38 hi0 hz0 hz1 hz2 rfl (by decide) v5 (0 + b.items.length) ([] ++ cellsS b.items) (by rfl) (by first | exact O5.out | fail) (w4.heap.size + 1 + 1) (some ⟨w4.heap.size + 1, 0, none⟩) 1 1 [.string item] (by rfl) (by first | exact R5.out | fail) (by simp [Value.oneCell']) (by unfold maxLen; omega) (by omega) (by first | exact z5 | (simp; omega)) ?_; intro v6 w6 hown6 hgr6 hat6; obtain ⟨A6, cap6, hv6, S6, R6, I6⟩ := put_D hm S5.out O5.out hown6 ⟨hgr6.os, hgr6.tape, hgr6.output, hgr6.size, hgr6.block⟩; have s6 : Fr (fun i => i = w.heap.size + 1) w4 w6 := S6.out.to _; subst hv6; clear hown6 hgr6 hat6) | (refine step_append_any _ (by rfl) (.tmp 37) (.tmp 39) 38 (by rfl) w4.heap.size 9 i0 _ 1 16 Try.underlying38 hi0 hz0 hz1 hz2 rfl (by decide) v5 (0 + b.items.length) ([] ++ cellsS b.items) (by rfl) (by first | exact O5.out | fail) (w4.heap.size + 1) (some ⟨w4.heap.size, 0, none⟩) 1 1 [.string item] (by rfl) (by first | exact R5.out | fail) (by simp [Value.oneCell']) (by unfold maxLen; omega) (by omega) (by first | exact z5 | (simp; omega)) ?_; intro v6 w6 hown6 hgr6 hat6; obtain ⟨A6, cap6, hv6, S6, R6, I6⟩ := put_D hm S5.out O5.out hown6 ⟨hgr6.os, hgr6.tape, hgr6.output, hgr6.size, hgr6.block⟩; have s6 : Fr (fun i => i = w.heap.size + 1) w4 w6 := S6.out.to _; subst hv6; clear hown6 hgr6 hat6) | (refine step_append_any _ (by rfl) (.tmp 37) (.tmp 39) 38 (by rfl) w4.heap.size 9 i0 _ 1 16 Try.underlying38 hi0 hz0 hz1 hz2 rfl (by decide) v5 (0 + b.items.length) ([] ++ cellsS b.items) (by rfl) (by first | exact O5.out.alloc _ | fail) (w5.heap.size + 1) (some ⟨w5.heap.size, 0, none⟩) 1 1 [.string item] (by rfl) (by first | exact reads_one w5 9 (.string item) | fail) (by simp [Value.oneCell']) (by unfold maxLen; omega) (by omega) (by first | exact z5 | (simp; omega)) ?_; intro v6 w6 hown6 hgr6 hat6; obtain ⟨A6, cap6, hv6, S6, R6, I6⟩ := put_E hm S5.out O5.out hown6 ⟨hgr6.os, hgr6.tape, hgr6.output, hgr6.size, hgr6.block⟩; have s6 : Fr (fun i => i = w.heap.size + 1) w4 w6 := S6.out.to _; subst hv6; clear hown6 hgr6 hat6) | (go_at_call 31; (first | refine (HW.out w6 A6 cap6 S6.out R6.out I6.out).mono ?_ | refine (HW.out w6.drew A6 cap6 (Fr.drew S6.out) R6.out I6.out).mono ?_); rintro e w7 ⟨A7, cap7, rfl, hs7, hR7⟩; obtain ⟨S7, HR7⟩ := put_F S6.out ⟨hs7.os, hs7.tape, hs7.output, hs7.size, hs7.block⟩ hR7; have s7 : Fr (fun i => i = w.heap.size + 1) w4 w7 := S7.out.to _; have p0 := (r1.fr S7.out (fun x => x)).cell 0; have p1 := (r1.fr S7.out (fun x => x)).cell 1; have p2 := (r1.fr S7.out (fun x => x)).frozen 0; have p3 := (r1.fr S7.out (fun x => x)).frozen 1; simp at p0 p1; clear hs7 hR7; unfold rv))
          all_goals
            have f7 := fr_two w7 (w.heap.size + 1) (.int .i64 c) (.slice A7 n cap7)
            have n7 := ((r1.fr S7.out (fun x => x)).set_ 0 (.int .i64 c)).set_ 1 (.slice A7 n cap7)
            have z4 := hsb.size
            generalize (w7.setCell ⟨w.heap.size + 1, 0, none⟩ (.int .i64 c)).setCell ⟨w.heap.size + 1, 1, none⟩ (.slice A7 n cap7) = W7 at f7 n7 ⊢
            have f8 : Same w W7 := fr_trans2 (Fr.trans hsb S7.out) f7 (fun i hi e => by omega)
            have z0 := n7.cell 0
            have z1 := n7.cell 1
            simp at z0 z1
            have hR := (HR7.out.fr f7 (fun i hi e => by
              subst e
              rcases hi with hi | ⟨hi, _⟩
              · have := HK.out _ hi
                omega
              · omega)).mono (K' := fun i => K i ∨ (w.heap.size ≤ i ∧ i < W7.heap.size)) (fun i hi => by
              have := f7.size
              rcases hi with hi | ⟨h1, h2⟩
              · exact .inl hi
              · exact .inr ⟨by omega, by omega⟩)
            have HRR := Lib.hid hR
            have F8 := Lib.hid f8
            have HBI2 := Lib.hid hbi
            clear hR f8 f7 n7 HR7 HS4 HW d0 d1 d2 d3 d4 d5 r0 r1 p0 p1 p2 p3 c0 c1 hbi OA OB OC HA HBI stay
            go_wp2
            refine bodyPost_ret (v := .tuple #[rv c A7 n cap7, .int .i64 i, .int .i64 0]) (by simp [results, Try.results18, go_sem, rv, z0, z1]) rfl ?_
            rw [E.out, putAt_set HBI2.out]
            exact ⟨A7, cap7, rfl, F8.out, HRR.out⟩

end Go.Proofs.Yteokognbnilkmaa
