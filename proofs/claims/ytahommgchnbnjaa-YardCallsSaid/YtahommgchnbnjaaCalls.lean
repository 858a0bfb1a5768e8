/-
  YardCalls returns true for all numbers and every list of calls.
-/
import Derived.Test.YtahommgchnbnjaaRefe
namespace Go.Proofs.Ytahommgchnbnjaa.yardCalls
open Go.ChangeShapes Go.WideShapes Go.ChangeAt Go.RowKit
attribute [local go_sem ↓] Go.wp_at_zero Go.wp_at_succ

theorem put_inv {c p : Nat} {ys : Ys} {al : List Ent} (h : Inv ys p al) (i : Int) (x : Bs) : Inv (yPut c ys p i x).1 (yPut c ys p i x).2.1 (alPut c ys p i x al) := by
  unfold alPut
  rcases put_cases c ys p i x with ⟨e, he, hp⟩ | ⟨k, es, _, hes, hx, hf, _, hp⟩
  · rw [hp]
    simp only
    rw [if_neg he]
    exact h
  · rw [hp]
    simp only [if_true]
    exact h.put hes hx hf
theorem take_inv2 {c p : Nat} {ys : Ys} {al : List Ent} (h : Inv ys p al) (x : Bs) : Inv (yTake c ys x).1 p (alTake c ys x al) := by
  unfold alTake
  rcases take_cases c ys x with ⟨_, e⟩ | ⟨_, _, _, e⟩ | ⟨i, m, es, e0, ys', ht⟩
  · rw [e]; exact h
  · rw [e]; exact h
  · rw [ht.e]
    simp only [if_true]
    exact h.take ht.hx ht.perm

/-- A yard of the program's, beside one of the reference's whose variable lies at pb. -/
structure CX (w : World) (K KR : Nat → Prop) (W : World) (g b c n pb : Nat) (A : Option Addr) (cap : Nat) (G : Option Addr) (m capG p : Nat) (ys : Ys) (al : List Ent) : Prop where
  y : YB w K W g b c p ys
  inv : Inv ys p al
  r : RY KR W A n G m capG (strs ys) (al.map Prod.fst)
  kk : ∀ i, KR i → K i
  bx : Blk W pb 47 #[.int .i64 c, .slice A n cap, .slice G m capG]
  kp : K pb
  np : ¬ KR pb
  pb : w.heap.size ≤ pb
/-- The same behind a reference's call whose result lies at hx. -/
structure CM (w : World) (K KR : Nat → Prop) (W : World) (g b c n pb hx : Nat) (A : Option Addr) (cap : Nat) (G : Option Addr) (m capG : Nat) (A' : Option Addr) (cap' : Nat) (G' : Option Addr) (m' capG' p : Nat) (ys : Ys) (ts : List (List Bs)) (ages : List Bs) : Prop where
  y : YB w K W g b c p ys
  r : RY KR W A' n G' m' capG' ts ages
  kk : ∀ i, KR i → K i
  bx : Blk W pb 47 #[.int .i64 c, .slice A n cap, .slice G m capG]
  kp : K pb
  np : ¬ KR pb
  pb : w.heap.size ≤ pb
  hb : Blk W hx 47 #[.int .i64 c, .slice A' n cap', .slice G' m' capG']
  kx : K hx
section
variable {w W W5 W6 W7 : World} {K KR : Nat → Prop} {g b c n pb hx cap m capG cap' m' capG' p p' : Nat} {A G A' G' : Option Addr} {ys ys' : Ys} {al al' : List Ent} {ts : List (List Bs)} {ages : List Bs}
theorem CX.same (h : CX w K KR W g b c n pb A cap G m capG p ys al) (hs : Same W W6) : CX w K KR W6 g b c n pb A cap G m capG p ys al :=
  ⟨h.y.same hs, h.inv, h.r.same hs, h.kk, h.bx.fr hs (fun x => x), h.kp, h.np, h.pb⟩
theorem CX.twin (h : CX w K KR W g b c n pb A cap G m capG p ys al) : Twin w K W g b c p n A G m capG ys al := ⟨h.y, h.inv, h.r.mono h.kk⟩
theorem CX.m512 (h : CX w K KR W g b c n pb A cap G m capG p ys al) : m ≤ 512 := by
  have hT := h.twin
  have e := hT.inv.len
  have := totK_le hT.y.ok.le ys.length
  rw [hT.len] at this e
  rw [← hT.m_, ← e]
  exact Nat.le_trans this (Nat.mul_le_mul hT.n16 hT.y.ok.c2)
theorem CX.kl (h : CX w K KR W g b c n pb A cap G m capG p ys al) : ∀ i, KR i → i < W.heap.size := fun i hi => h.y.kl i (h.kk i hi)
theorem CX.mid (h : CX w K KR W g b c n pb A cap G m capG p ys al) (hs : Same W W6) (hr : RY (fun i => KR i ∨ (W.heap.size ≤ i ∧ i < W6.heap.size)) W6 A' n G' m' capG' ts ages) (hb : Blk W6 hx 47 #[.int .i64 c, .slice A' n cap', .slice G' m' capG']) (hl : W.heap.size ≤ hx) :
    CM w (fun i => K i ∨ (W.heap.size ≤ i ∧ i < W6.heap.size)) (fun i => KR i ∨ (W.heap.size ≤ i ∧ i < W6.heap.size)) W6 g b c n pb hx A cap G m capG A' cap' G' m' capG' p ys ts ages := by
  have hp := h.bx.lt
  exact ⟨h.y.grow hs, hr, fun i hi => hi.elim (fun hi => .inl (h.kk i hi)) .inr, h.bx.fr hs (fun x => x), .inl h.kp, fun hi => hi.elim h.np (fun hi => by omega), h.pb, hb, .inr ⟨hl, hb.lt⟩⟩
theorem CM.prog (h : CM w K KR W g b c n pb hx A cap G m capG A' cap' G' m' capG' p ys ts ages) (hy : YB w K W7 g b c p' ys') (hf : Fr (fun i => ¬ K i) W W7) : CM w K KR W7 g b c n pb hx A cap G m capG A' cap' G' m' capG' p' ys' ts ages :=
  ⟨hy, h.r.fr hf (fun i hi hn => hn (h.kk i hi)), h.kk, h.bx.fr hf (fun hn => hn h.kp), h.kp, h.np, h.pb, h.hb.fr hf (fun hn => hn h.kx), h.kx⟩
theorem CM.turn (h : CM w K KR W g b c n pb hx A cap G m capG A' cap' G' m' capG' p ys (strs ys) (al.map Prod.fst)) (hI : Inv ys p al) : CX w K KR (((W.setCell ⟨pb, 0, none⟩ (.int .i64 c)).setCell ⟨pb, 1, none⟩ (.slice A' n cap')).setCell ⟨pb, 2, none⟩ (.slice G' m' capG')) g b c n pb A' cap' G' m' capG' p ys al := by
  have f := fr3 W pb (.int .i64 c) (.slice A' n cap') (.slice G' m' capG')
  exact ⟨(h.y.growK f (fun i e => by subst e; exact ⟨h.kp, h.pb⟩)).mono fun i hi => .inl hi, hI, h.r.fr f (fun i hi e => h.np (e ▸ hi)), h.kk, h.bx.set3, h.kp, h.np, h.pb⟩
theorem CX.take {x : Bs} (h : CX w K KR W g b c n pb A cap G m capG p ys al) : Calls Try.prog 22 #[rv c A n cap G m capG, .string x] W (REnd W KR c n (strs (yTake c ys x).1) ((alTake c ys x al).map Prod.fst) [.int .i64 ((yTake c ys x).2.1 : Nat), .int .i64 (yTake c ys x).2.2]) :=
  rtake_any KR c A n cap G m capG p ys al x W h.r h.inv h.kl h.y.ok (by have := h.m512; omega)
theorem CX.put {i : Int} {x : Bs} (h : CX w K KR W g b c n pb A cap G m capG p ys al) (hi : -9223372036854775808 ≤ i ∧ i ≤ 9223372036854775807) : Calls Try.prog 20 #[rv c A n cap G m capG, .int .i64 i, .string x] W (REnd W KR c n (strs (yPut c ys p i x).1) ((alPut c ys p i x al).map Prod.fst) [.int .i64 (yPut c ys p i x).2.2]) :=
  rput_any KR c A n cap G m capG p ys al i x W h.r h.kl h.y.ok (by have := h.m512; omega) hi
end

theorem s6of {w W : World} (h : Same w W) (x y z : Value) : Same w (((W.setCell ⟨w.heap.size, 0, none⟩ x).setCell ⟨w.heap.size, 1, none⟩ y).setCell ⟨w.heap.size, 2, none⟩ z) := fr_trans2 h (fr3 W w.heap.size x y z) (fun i hi e => by omega)
theorem below_end {w w2 w9 : World} (t : Below w.heap.size w w2) (h : Below w2.heap.size w2 w9) : (Ending.returned (.bool true)) = .returned (.bool true) ∧ Below w.heap.size w w9 := ⟨rfl, t.trans (h.mono t.size)⟩
def Rel (w : World) (g b c n pb k : Nat) (wr : World) : Prop := ∃ (K KR : Nat → Prop) (A : Option Addr) (cap : Nat) (G : Option Addr) (m capG p : Nat) (ys : Ys) (al : List Ent), CX w K KR wr g b c n pb A cap G m capG p ys al ∧ p ≤ k
theorem start {w w2 w3 : World} {g b n c : Nat} {A : Option Addr} (h : YB w (fun _ => False) w2 g b c 0 (List.replicate n [])) (hs : Same w2 w3) (hr : RY (fun i => w2.heap.size ≤ i ∧ i < w3.heap.size) w3 A n none 0 0 (List.replicate n []) []) :
    Rel w g b c n w3.heap.size 0 (w3.alloc (.cells #[.int .i64 c, .slice A n n, .slice none 0 0] 47)) := by
  have hs2 := box47 w3 (.int .i64 c) (.slice A n n) (.slice none 0 0)
  have hz := hs.size
  have hz2 : (w3.alloc (.cells #[.int .i64 c, .slice A n n, .slice none 0 0] 47)).heap.size = w3.heap.size + 1 := by simp
  have e : strs (List.replicate n []) = List.replicate n [] := by
    unfold strs
    rw [List.map_replicate]
    rfl
  refine ⟨fun i => w2.heap.size ≤ i ∧ i < w3.heap.size + 1, fun i => w2.heap.size ≤ i ∧ i < w3.heap.size, A, n, none, 0, 0, 0, List.replicate n [], [], ⟨(h.grow (Fr.trans hs hs2)).mono fun i hi => .inr ⟨hi.1, by omega⟩, inv_new n, ?_, fun i hi => ⟨hi.1, by omega⟩, Blk.new _ _ _, ⟨hz, by omega⟩, fun hi => by omega, Nat.le_trans h.bel.size hz⟩, Nat.le_refl _⟩
  rw [e]
  exact hr.same hs2

set_option maxRecDepth 100000 in
set_option maxHeartbeats 8000000 in
theorem walk (n c : Int) (A : Option Addr) (len cap : Nat) (xs : List OpD) (w : World) (hx : IsOps w A len xs) : Calls Try.prog 6 #[.int .i64 n, .int .i64 c, .slice A len cap] w fun e w' => e = .returned (.bool true) ∧ Below w.heap.size w w' := by
  have HX := Lib.hid hx
  have hml := hx.2.1
  have hxl := hx.1
  clear hx
  go_enter Try.func6, Try.ntmps6
  go_wp2_with fail
  refine (short_any A len cap xs _ HX.out).mono ?_
  rintro e w1 ⟨bb, rfl, rfl, hb⟩
  cases bb with
  | false =>
    clear hb
    go_wp2_with fail
    refine (awake_any _).mono ?_
    rintro e w9 ⟨rfl, hb9⟩
    go_wp2
    go_ret
    exact ⟨rfl, hb9⟩
  | true =>
    have hlen := hb rfl
    clear hb
    by_cases hbad : NewBad n c
    · go_wp2_with fail
      refine (new_bad n c _ hbad).mono ?_
      rintro e w' ⟨rfl, rfl⟩
      go_wp2_with fail
      refine (rnew_bad n c _ hbad).mono ?_
      rintro e w2 ⟨rfl, hs2⟩
      unfold rv
      have b2 := (Fr.alloc hs2 (.cells #[.int .i64 (0 : Nat), .slice none 0 0, .slice none 0 0] 47)).below (Nat.le_refl _) (fun _ _ x => x.elim)
      go_wp2
      refine wp_loop_rounds 1 ?_
      rw [rounds_succ]
      by_cases hl0 : 0 < len
      · have hl1 : (0 : Int) < (len : Int) := by omega
        go_wp2_with fail
        refine (awake_any _).mono ?_
        rintro e w9 ⟨rfl, hb9⟩
        go_wp2
        go_ret
        exact below_end b2 hb9
      · have hl1 : ¬ (0 : Int) < (len : Int) := by omega
        go_wp2_with fail
        refine (awake_any _).mono ?_
        rintro e w9 ⟨rfl, hb9⟩
        go_wp2
        go_ret
        exact below_end b2 hb9
    · have hg : (1 ≤ n ∧ n ≤ 16) ∧ 1 ≤ c ∧ c ≤ 32 := by unfold NewBad at hbad; omega
      obtain ⟨⟨g1, g2⟩, g3, g4⟩ := hg
      obtain ⟨n, rfl⟩ : ∃ k : Nat, n = (k : Int) := ⟨n.toNat, by omega⟩
      obtain ⟨c, rfl⟩ : ∃ k : Nat, c = (k : Int) := ⟨c.toNat, by omega⟩
      clear hbad
      go_wp2_with fail
      refine (new_yb n c _ (by omega) (by omega) (by omega) (by omega)).mono ?_
      rintro e w2 ⟨rfl, h2, hs2⟩
      go_wp2_with fail
      refine (rnew_any n c _ (by omega) (by omega) (by omega) (by omega)).mono ?_
      rintro e w3 ⟨A3, rfl, hs3, hR3⟩
      unfold rv
      have HR := Lib.hid (start h2 hs3 hR3)
      clear h2 hs2 hs3 hR3
      go_wp2
      generalize w3.heap.size = pb at HR ⊢
      generalize w.heap.size + 1 = g at HR ⊢
      go_loopw [11] (fun i wr => ∃ k : Nat, k ≤ len ∧ i = .int .i64 k ∧ Rel w g w.heap.size c n pb k wr) (fun i _ => len - (intOf i).toNat)
      case atStart => exact ⟨0, by omega, rfl, HR.out⟩
      case round =>
        obtain ⟨k, hk, rfl, K, KR, A', cap', G', m', capG', p, ys, al, h3, hpk⟩ := hrel
        clear HR
        obtain ⟨⟨d0, d1, d2⟩, ⟨d3, d4, d5⟩, d6⟩ := h3.bx.three
        by_cases hlt : k < len
        · obtain ⟨y, hy⟩ : ∃ y, xs[k]? = some y := ⟨xs[k]'(by omega), List.getElem?_eq_getElem _⟩
          obtain ⟨bb, o, rfl, hbl, c0, c1, c2, hwf⟩ := HX.out.2.2 k y hy
          have i1 : (0 : Int) ≤ (k : Int) := by omega
          have i2 : (k : Int) < (len : Int) := by omega
          have HC : Hid (∀ W, Below w.heap.size w W → W.cell? ⟨bb, o + k * 3 + 1, none⟩ = some (.int .i64 y.bay) ∧ W.cell? ⟨bb, o + k * 3 + 2, none⟩ = some (.string y.item)) := fun W hW => ⟨(hW.cell (p := ⟨bb, _, none⟩) hbl).trans c1, (hW.cell (p := ⟨bb, _, none⟩) hbl).trans c2⟩
          have e0 : wr.cell? ⟨bb, o + k * 3, none⟩ = some (.int .i64 y.kind) := (h3.y.bel.cell (p := ⟨bb, _, none⟩) hbl).trans c0
          obtain ⟨e1, e2⟩ := HC.out _ h3.y.bel
          have hwb := hwf.2.1
          have H3 := Lib.hid h3
          clear hy c0 c1 c2 hwf h3
          by_cases hk0 : y.kind = 0
          · have t0 : (y.kind == 0) = true := by simp [hk0]
            obtain ⟨r, hr⟩ : ∃ r, yPut c ys p y.bay y.item = r := ⟨_, rfl⟩
            obtain ⟨ys', p', cd⟩ := r
            obtain ⟨al', hal⟩ : ∃ al', alPut c ys p y.bay y.item al = al' := ⟨_, rfl⟩
            have hI' := put_inv (c := c) H3.out.inv y.bay y.item
            have hp' := put_p c ys p y.bay y.item
            rw [hr] at hI' hp'
            rw [hal] at hI'
            simp only at hI' hp'
            have HP20 : Hid (∀ W, Same wr W → Calls Try.prog 20 #[rv c A' n cap' G' m' capG', .int .i64 y.bay, .string y.item] W (REnd W KR c n (strs ys') (al'.map Prod.fst) [.int .i64 cd])) := fun W hW => by
              have := (H3.out.same hW).put (x := y.item) hwb
              rw [hr, hal] at this
              exact this
            have HP12 : Hid (∀ (K : Nat → Prop) (W : World), YB w K W g w.heap.size c p ys → Calls Try.prog 12 #[.pointer (some ⟨g, 0, none⟩), .int .i64 y.bay, .string y.item] W fun r W' => r = .returned (.int .i64 cd) ∧ YB w K W' g w.heap.size c p' ys' ∧ Fr (fun i => ¬ K i) W W') := fun K W hW => put_to hW hr (by omega) hwb
            have HII := Lib.hid hI'
            unfold rv at HP20
            have HS : Hid (∀ W, Same wr W → W.cell? ⟨pb, 0, none⟩ = some (.int .i64 c) ∧ W.cell? ⟨pb, 1, none⟩ = some (.slice A' n cap') ∧ W.cell? ⟨pb, 2, none⟩ = some (.slice G' m' capG') ∧ W.cell? ⟨bb, o + k * 3 + 1, none⟩ = some (.int .i64 y.bay) ∧ W.cell? ⟨bb, o + k * 3 + 2, none⟩ = some (.string y.item)) := fun W hW => by
              have h := H3.out.same hW
              obtain ⟨a1, a2, a3⟩ := h.bx.three.1
              exact ⟨a1, a2, a3, HC.out _ h.y.bel⟩
            clear hk0 hr hal hI'
            go_upto_region 11 with fail
            go_region_held3 (fun W => W.cell? ⟨pb, 0, none⟩ = some (.int .i64 c) ∧ W.cell? ⟨pb, 1, none⟩ = some (.slice A' n cap') ∧ W.cell? ⟨pb, 2, none⟩ = some (.slice G' m' capG') ∧ W.cell? ⟨bb, o + k * 3 + 1, none⟩ = some (.int .i64 y.bay) ∧ W.cell? ⟨bb, o + k * 3 + 2, none⟩ = some (.string y.item))
              (first | exact ⟨d0, d1, d2, e1, e2⟩ | exact HS.out _ s5 | exact HS.out _ (Fr.alloc s5 _) | exact HS.out _ (s6 _ _ _) | exact HS.out _ (Fr.drew ((Fr.refl _ _).alloc _)) | exact HS.out _ ((Fr.refl _ _).alloc _))
              ((go_at_call 20; (first | (refine (HP20.out wr.drew ((Fr.refl _ _).drew)).mono ?_; rintro e w5 ⟨A5, cap5, G5, m5, capG5, rfl, hs5, hR5⟩; have s5 : Same wr w5 := ⟨hs5.os, hs5.tape, hs5.output, hs5.size, hs5.block⟩; unfold rv) | (refine (HP20.out (wr.alloc (.cells #[.int .i64 0, .slice none 0 0, .slice none 0 0] 47)).drew (Fr.drew ((Fr.refl _ _).alloc _))).mono ?_; rintro e w5 ⟨A5, cap5, G5, m5, capG5, rfl, hs5, hR5⟩; have s5 : Same wr w5 := Fr.trans (Fr.drew ((Fr.refl _ _).alloc _)) hs5; have bz := (Blk.new wr 47 #[.int .i64 0, .slice none 0 0, .slice none 0 0]).fr (S := fun _ => False) (w' := w5) ⟨hs5.os, hs5.tape, hs5.output, hs5.size, hs5.block⟩ (fun x => x); obtain ⟨⟨z0, z1, z2⟩, ⟨z3, z4, z5⟩, z6⟩ := bz.three; have s6 := s6of s5; unfold rv))))
            · have hM := H3.out.mid (Fr.alloc s5 (.cells #[.int .i64 c, .slice A5 n cap5, .slice G5 m5 capG5] 47)) ((hR5.same (box47 w5 (.int .i64 c) (.slice A5 n cap5) (.slice G5 m5 capG5))).mono fun i hi => hi.elim .inl fun hi => .inr ⟨hi.1, Nat.lt_of_lt_of_le hi.2 (by simp)⟩) (Blk.new w5 47 _) s5.size
              generalize w5.alloc (.cells #[.int .i64 c, .slice A5 n cap5, .slice G5 m5 capG5] 47) = W6 at hM ⊢
              generalize w5.heap.size = hx at hM ⊢
              clear d0 d1 d2 d3 d4 d5 d6 e0 e1 e2 s5 hs5 hR5 HP20 HS
              generalize (fun i => K i ∨ (wr.heap.size ≤ i ∧ i < W6.heap.size)) = K6 at hM
              generalize (fun i => KR i ∨ (wr.heap.size ≤ i ∧ i < W6.heap.size)) = KR6 at hM
              obtain ⟨e1, e2⟩ := HC.out _ hM.y.bel
              have H12 := Lib.hid (HP12.out K6 W6.drew (hM.y.same ((Fr.refl _ _).drew)))
              go_upto_region 12 with fail
              go_region_held3 (fun W => W.cell? ⟨bb, o + k * 3 + 1, none⟩ = some (.int .i64 y.bay) ∧ W.cell? ⟨bb, o + k * 3 + 2, none⟩ = some (.string y.item))
                (first | exact ⟨e1, e2⟩ | exact HC.out _ hY7.bel)
                ((go_at_call 12; refine H12.out.mono ?_; rintro e w7 ⟨rfl, hY7, hf7⟩))
              have hM7 := hM.prog hY7 ⟨hf7.os, hf7.tape, hf7.output, hf7.size, hf7.block⟩
              clear hM hY7 hf7 e1 e2 H12 HP12
              obtain ⟨⟨d0, d1, d2⟩, ⟨d3, d4, d5⟩, d6⟩ := hM7.bx.three
              obtain ⟨⟨f0, f1, f2⟩, _⟩ := hM7.hb.three
              have hC8 := hM7.turn HII.out
              clear hM7
              go_wp2_with fail
              generalize (((w7.setCell ⟨pb, 0, none⟩ (.int .i64 c)).setCell ⟨pb, 1, none⟩ (.slice A5 n cap5)).setCell ⟨pb, 2, none⟩ (.slice G5 m5 capG5)) = W8 at hC8 ⊢
              refine (alike_any w K6 g w.heap.size c p' n cap5 A5 G5 m5 capG5 ys' al' W8 hC8.twin).mono ?_
              rintro e w9 ⟨rfl, hs9⟩
              have HRel : Hid (Rel w g w.heap.size c n pb (k + 1) w9) := ⟨_, _, _, _, _, _, _, _, _, _, hC8.same hs9, by omega⟩
              clear hC8 hs9 d0 d1 d2 d3 d4 d5 d6 f0 f1 f2
              go_wp2
              go_roundw
              case rel => exact ⟨k + 1, by omega, by go_num, HRel.out⟩
              case measure => simp [intOf]; omega
            · have hM := H3.out.mid (s6 (.int .i64 c) (.slice A5 n cap5) (.slice G5 m5 capG5)) ((hR5.fr (fr3 w5 wr.heap.size (.int .i64 c) (.slice A5 n cap5) (.slice G5 m5 capG5)) (fun i hi e => by
                rcases hi with hi | ⟨hi, _⟩
                · have := H3.out.kl i hi; omega
                · have h8 : (wr.alloc (.cells #[.int .i64 0, .slice none 0 0, .slice none 0 0] 47)).heap.size ≤ i := hi
                  rw [World.size_alloc] at h8
                  omega)).mono fun i hi => hi.elim .inl fun hi => .inr ⟨by
                  have h8 : (wr.alloc (.cells #[.int .i64 0, .slice none 0 0, .slice none 0 0] 47)).heap.size ≤ i := hi.1
                  rw [World.size_alloc] at h8
                  omega, Nat.lt_of_lt_of_le hi.2 (fr3 w5 wr.heap.size (.int .i64 c) (.slice A5 n cap5) (.slice G5 m5 capG5)).size⟩) bz.set3 (Nat.le_refl _)
              generalize (((w5.setCell ⟨wr.heap.size, 0, none⟩ (.int .i64 c)).setCell ⟨wr.heap.size, 1, none⟩ (.slice A5 n cap5)).setCell ⟨wr.heap.size, 2, none⟩ (.slice G5 m5 capG5)) = W6 at hM ⊢
              clear d0 d1 d2 d3 d4 d5 d6 e0 e1 e2 s5 hs5 hR5 HP20 HS z0 z1 z2 z3 z4 z5 z6 bz s6
              generalize (fun i => K i ∨ (wr.heap.size ≤ i ∧ i < W6.heap.size)) = K6 at hM
              generalize (fun i => KR i ∨ (wr.heap.size ≤ i ∧ i < W6.heap.size)) = KR6 at hM
              obtain ⟨e1, e2⟩ := HC.out _ hM.y.bel
              have H12 := Lib.hid (HP12.out K6 W6.drew (hM.y.same ((Fr.refl _ _).drew)))
              go_upto_region 12 with fail
              go_region_held3 (fun W => W.cell? ⟨bb, o + k * 3 + 1, none⟩ = some (.int .i64 y.bay) ∧ W.cell? ⟨bb, o + k * 3 + 2, none⟩ = some (.string y.item))
                (first | exact ⟨e1, e2⟩ | exact HC.out _ hY7.bel)
                ((go_at_call 12; refine H12.out.mono ?_; rintro e w7 ⟨rfl, hY7, hf7⟩))
              have hM7 := hM.prog hY7 ⟨hf7.os, hf7.tape, hf7.output, hf7.size, hf7.block⟩
              clear hM hY7 hf7 e1 e2 H12 HP12
              obtain ⟨⟨d0, d1, d2⟩, ⟨d3, d4, d5⟩, d6⟩ := hM7.bx.three
              obtain ⟨⟨f0, f1, f2⟩, _⟩ := hM7.hb.three
              have hC8 := hM7.turn HII.out
              clear hM7
              go_wp2_with fail
              generalize (((w7.setCell ⟨pb, 0, none⟩ (.int .i64 c)).setCell ⟨pb, 1, none⟩ (.slice A5 n cap5)).setCell ⟨pb, 2, none⟩ (.slice G5 m5 capG5)) = W8 at hC8 ⊢
              refine (alike_any w K6 g w.heap.size c p' n cap5 A5 G5 m5 capG5 ys' al' W8 hC8.twin).mono ?_
              rintro e w9 ⟨rfl, hs9⟩
              have HRel : Hid (Rel w g w.heap.size c n pb (k + 1) w9) := ⟨_, _, _, _, _, _, _, _, _, _, hC8.same hs9, by omega⟩
              clear hC8 hs9 d0 d1 d2 d3 d4 d5 d6 f0 f1 f2
              go_wp2
              go_roundw
              case rel => exact ⟨k + 1, by omega, by go_num, HRel.out⟩
              case measure => simp [intOf]; omega
          · have t0 : (y.kind == 0) = false := by simp [hk0]
            by_cases hk2 : y.kind = 2
            · have t2 : (y.kind == 2) = true := by simp [hk2]
              clear hk0 hk2
              obtain ⟨os, hos⟩ : ∃ os, (al.map Prod.fst).head?.getD nul = os := ⟨_, rfl⟩
              obtain ⟨r, hr⟩ : ∃ r, yTake c ys os = r := ⟨_, rfl⟩
              obtain ⟨ys', tn, tc⟩ := r
              obtain ⟨al', hal⟩ : ∃ al', alTake c ys os al = al' := ⟨_, rfl⟩
              have hI' := take_inv2 (c := c) H3.out.inv os
              rw [hr] at hI'
              rw [hal] at hI'
              simp only at hI'
              have HP22 : Hid (∀ W, Same wr W → Calls Try.prog 22 #[rv c A' n cap' G' m' capG', .string os] W (REnd W KR c n (strs ys') (al'.map Prod.fst) [.int .i64 (tn : Nat), .int .i64 tc])) := fun W hW => by
                have := (H3.out.same hW).take (x := os)
                rw [hr, hal] at this
                exact this
              have HP14 : Hid (∀ (K : Nat → Prop) (W : World), YB w K W g w.heap.size c p ys → Calls Try.prog 14 #[.pointer (some ⟨g, 0, none⟩), .string os] W fun r W' => r = .returned (.tuple #[.int .i64 (tn : Nat), .int .i64 tc]) ∧ YB w K W' g w.heap.size c p ys' ∧ Fr (fun i => ¬ K i) W W') := fun K W hW => take_to hW hr
              have HII := Lib.hid hI'
              unfold rv at HP22
              clear hr hal hI'
              go_wp2_with fail
              refine (roldest_any c A' n cap' G' m' capG' (al.map Prod.fst) _ H3.out.r.ag).mono ?_
              rintro e w4 ⟨rfl, s4⟩
              rw [hos]
              generalize (al.map Prod.fst).head?.isSome = ob
              clear d0 d1 d2 d3 d4 d5 d6 e0 e1 e2
              obtain ⟨d0, d1, d2⟩ := (H3.out.same s4).bx.three.1
              obtain ⟨e1, e2⟩ := HC.out _ (H3.out.same s4).y.bel
              go_wp2_with fail
              refine (HP22.out _ s4).mono ?_
              rintro e w5 ⟨A5, cap5, G5, m5, capG5, rfl, hs5, hR5⟩
              unfold rv
              have hM := (H3.out.same s4).mid (Fr.alloc hs5 (.cells #[.int .i64 c, .slice A5 n cap5, .slice G5 m5 capG5] 47)) ((hR5.same (box47 w5 (.int .i64 c) (.slice A5 n cap5) (.slice G5 m5 capG5))).mono fun i hi => hi.elim .inl fun hi => .inr ⟨hi.1, Nat.lt_of_lt_of_le hi.2 (by simp)⟩) (Blk.new w5 47 _) hs5.size
              have hzz : w4.heap.size ≤ w5.heap.size := hs5.size
              clear d0 d1 d2 e1 e2 hs5 hR5 HP22 s4
              go_wp2_with fail
              generalize w5.alloc (.cells #[.int .i64 c, .slice A5 n cap5, .slice G5 m5 capG5] 47) = W6 at hM ⊢
              generalize w5.heap.size = hx at hM ⊢
              generalize (fun i => K i ∨ (w4.heap.size ≤ i ∧ i < W6.heap.size)) = K6 at hM
              generalize (fun i => KR i ∨ (w4.heap.size ≤ i ∧ i < W6.heap.size)) = KR6 at hM
              refine (HP14.out K6 W6 hM.y).mono ?_
              rintro e w7 ⟨rfl, hY7, hf7⟩
              have hM7 := hM.prog hY7 hf7
              clear hM hY7 hf7 HP14
              obtain ⟨⟨d0, d1, d2⟩, ⟨d3, d4, d5⟩, d6⟩ := hM7.bx.three
              obtain ⟨⟨f0, f1, f2⟩, _⟩ := hM7.hb.three
              have hC8 := hM7.turn HII.out
              clear hM7
              go_wp2_with fail
              generalize (((w7.setCell ⟨pb, 0, none⟩ (.int .i64 c)).setCell ⟨pb, 1, none⟩ (.slice A5 n cap5)).setCell ⟨pb, 2, none⟩ (.slice G5 m5 capG5)) = W8 at hC8 ⊢
              refine (alike_any w K6 g w.heap.size c p n cap5 A5 G5 m5 capG5 ys' al' W8 hC8.twin).mono ?_
              rintro e w9 ⟨rfl, hs9⟩
              have HRel : Hid (Rel w g w.heap.size c n pb (k + 1) w9) := ⟨_, _, _, _, _, _, _, _, _, _, hC8.same hs9, by omega⟩
              clear hC8 hs9 d0 d1 d2 d3 d4 d5 d6 f0 f1 f2
              go_wp2
              go_roundw
              case rel => exact ⟨k + 1, by omega, by go_num, HRel.out⟩
              case measure => simp [intOf]; omega
            · have t2 : (y.kind == 2) = false := by simp [hk2]
              clear hk0 hk2
              obtain ⟨r, hr⟩ : ∃ r, yTake c ys y.item = r := ⟨_, rfl⟩
              obtain ⟨ys', tn, tc⟩ := r
              obtain ⟨al', hal⟩ : ∃ al', alTake c ys y.item al = al' := ⟨_, rfl⟩
              have hI' := take_inv2 (c := c) H3.out.inv y.item
              rw [hr] at hI'
              rw [hal] at hI'
              simp only at hI'
              have HP22 : Hid (∀ W, Same wr W → Calls Try.prog 22 #[rv c A' n cap' G' m' capG', .string y.item] W (REnd W KR c n (strs ys') (al'.map Prod.fst) [.int .i64 (tn : Nat), .int .i64 tc])) := fun W hW => by
                have := (H3.out.same hW).take (x := y.item)
                rw [hr, hal] at this
                exact this
              have HP14 : Hid (∀ (K : Nat → Prop) (W : World), YB w K W g w.heap.size c p ys → Calls Try.prog 14 #[.pointer (some ⟨g, 0, none⟩), .string y.item] W fun r W' => r = .returned (.tuple #[.int .i64 (tn : Nat), .int .i64 tc]) ∧ YB w K W' g w.heap.size c p ys' ∧ Fr (fun i => ¬ K i) W W') := fun K W hW => take_to hW hr
              have HII := Lib.hid hI'
              unfold rv at HP22
              clear hr hal hI'
              go_wp2_with fail
              refine (HP22.out _ (Same.refl _)).mono ?_
              rintro e w5 ⟨A5, cap5, G5, m5, capG5, rfl, hs5, hR5⟩
              unfold rv
              have hM := H3.out.mid (Fr.alloc hs5 (.cells #[.int .i64 c, .slice A5 n cap5, .slice G5 m5 capG5] 47)) ((hR5.same (box47 w5 (.int .i64 c) (.slice A5 n cap5) (.slice G5 m5 capG5))).mono fun i hi => hi.elim .inl fun hi => .inr ⟨hi.1, Nat.lt_of_lt_of_le hi.2 (by simp)⟩) (Blk.new w5 47 _) hs5.size
              have hzz : wr.heap.size ≤ w5.heap.size := hs5.size
              clear d0 d1 d2 d3 d4 d5 d6 e0 e1 e2 hs5 hR5 HP22
              go_wp2_with fail
              generalize w5.alloc (.cells #[.int .i64 c, .slice A5 n cap5, .slice G5 m5 capG5] 47) = W6 at hM ⊢
              generalize w5.heap.size = hx at hM ⊢
              generalize (fun i => K i ∨ (wr.heap.size ≤ i ∧ i < W6.heap.size)) = K6 at hM
              generalize (fun i => KR i ∨ (wr.heap.size ≤ i ∧ i < W6.heap.size)) = KR6 at hM
              refine (HP14.out K6 W6 hM.y).mono ?_
              rintro e w7 ⟨rfl, hY7, hf7⟩
              have hM7 := hM.prog hY7 hf7
              clear hM hY7 hf7 HP14
              obtain ⟨⟨d0, d1, d2⟩, ⟨d3, d4, d5⟩, d6⟩ := hM7.bx.three
              obtain ⟨⟨f0, f1, f2⟩, _⟩ := hM7.hb.three
              have hC8 := hM7.turn HII.out
              clear hM7
              go_wp2_with fail
              generalize (((w7.setCell ⟨pb, 0, none⟩ (.int .i64 c)).setCell ⟨pb, 1, none⟩ (.slice A5 n cap5)).setCell ⟨pb, 2, none⟩ (.slice G5 m5 capG5)) = W8 at hC8 ⊢
              refine (alike_any w K6 g w.heap.size c p n cap5 A5 G5 m5 capG5 ys' al' W8 hC8.twin).mono ?_
              rintro e w9 ⟨rfl, hs9⟩
              have HRel : Hid (Rel w g w.heap.size c n pb (k + 1) w9) := ⟨_, _, _, _, _, _, _, _, _, _, hC8.same hs9, by omega⟩
              clear hC8 hs9 d0 d1 d2 d3 d4 d5 d6 f0 f1 f2
              go_wp2
              go_roundw
              case rel => exact ⟨k + 1, by omega, by go_num, HRel.out⟩
              case measure => simp [intOf]; omega
        · have hb := h3.y.bel
          have hlt2 : ¬ (k : Int) < (len : Int) := by omega
          clear h3 d0 d1 d2 d3 d4 d5 d6
          go_wp2_with fail
          refine (awake_any _).mono ?_
          rintro e w9 ⟨rfl, hb9⟩
          go_wp2
          go_ret
          exact below_end hb hb9

theorem own : ownKnob Try.prog.godebug = none := by kernel_rfl
theorem laidOut : laidOutB Try.prog = true := by kernel_rfl

set_option maxRecDepth 100000 in
theorem lifted (os : Os) (started : os.Started) (H : Type) (enc : TypeId × Value → H) :
    ReturnsInHanded {} Try.checked os 6 .any (Rows.yardCallsSpec.pre6 enc Try.prog Try.f6 Rows.yardCallsRow.domain false) (Rows.yardCallsSpec.post enc Try.prog Try.f6 false true false false) := by
  refine returnsInHanded_of_change (C := Try.checked) own started (by kernel_rfl) Try.func6
    (ChangeSpec.witness6 (enc := enc) (C := Try.checked) false ⟨#[], #[.int .i64 0, .int .i64 0, .slice none 0 0], []⟩ 8 (by kernel_rfl) (by kernel_rfl) (by kernel_rfl) (by kernel_rfl)) ?_
  intro W base args ds gs before hval0 hW hcnd _
  have hval : ∀ (j : Nat) t v, Try.f6.params[j]? = some t → args[j]? = some v → Value.okWide Try.prog W .any base t v := hval0
  have hW' := hW
  obtain ⟨p, q, hA0, hV, rfl, hfz, hnd⟩ := hW
  have hA : DataW.TrodAll enc Try.prog W 0 (fun _ => true) true Try.f6.params.toList args.toList ds p := hA0
  rw [Try.params6] at hA hval
  obtain ⟨v0, vs0, d0, ds0, p0, q0, hargs, rfl, rfl, h0, r0⟩ := trodAll_cons hA
  obtain ⟨v1, vs1, d1, ds1, p1, q1, rfl, rfl, rfl, h1, r1⟩ := trodAll_cons r0
  obtain ⟨v2, vs2, d2, ds2, p2, q2, rfl, rfl, rfl, h2, r2⟩ := trodAll_cons r1
  obtain ⟨rfl, rfl, rfl⟩ := trodAll_nil r2
  obtain rfl : args = #[v0, v1, v2] := by cases args; simp_all
  obtain ⟨rfl, rfl⟩ := trodVars_none hV
  have k0 := h0
  have lt0 : ∀ x ∈ p0, x.block < W.heap.size := by obtain ⟨m, hm⟩ := k0; exact DataW.trod_lt m _ _ _ hm
  have ok0 := hval 0 3 v0 rfl rfl
  obtain ⟨n0, rfl, hn0⟩ := open_i64 ok0 h0
  have k1 := h1
  have lt1 : ∀ x ∈ p1, x.block < W.heap.size := by obtain ⟨m, hm⟩ := k1; exact DataW.trod_lt m _ _ _ hm
  have ok1 := hval 1 3 v1 rfl rfl
  obtain ⟨n1, rfl, hn1⟩ := open_i64 ok1 h1
  have k2 := h2
  have lt2 : ∀ x ∈ p2, x.block < W.heap.size := by obtain ⟨m, hm⟩ := k2; exact DataW.trod_lt m _ _ _ hm
  have ok2 := hval 2 24 v2 rfl rfl
  obtain ⟨A2, len2, cap2, xs2, rfl, hx2⟩ := open_ops ok2 h2
  clear hA0 hval0
  refine (walk n0 n1 A2 len2 cap2 xs2 W hx2).mono fun e W' ⟨he, bel⟩ => ?_
  subst he
  exact ⟨_, rfl, _, _, _, [], _, [], hW', trodAll_mk1 (shut_bool Try.underlying4 _), (trodAll_cons_mk (Below.trod laidOut (by kernel_rfl) (of_decide_eq_true (by kernel_rfl)) k0 bel lt0) (trodAll_cons_mk (Below.trod laidOut (by kernel_rfl) (of_decide_eq_true (by kernel_rfl)) k1 bel lt1) (trodAll_cons_mk (Below.trod laidOut (by kernel_rfl) (of_decide_eq_true (by kernel_rfl)) k2 bel lt2) trodAll_mk0))), rfl, bel.frame _, fun h => by cases h⟩

theorem over : Rows.yardCallsRow.holds Try.pinned (OpenSpec.ofChange Rows.yardCallsSpec) :=
  OpenClaim.holds_of_wide 6 Try.f6 rfl rfl rfl rfl rfl rfl rfl ⟨rfl, rfl, rfl, rfl, rfl⟩ rfl rfl rfl rfl rfl (by kernel_rfl) Try.func6 (by kernel_rfl)
    (of_decide_eq_true (by kernel_rfl)) (by unfold Func.isWrapper; first | (rw [if_pos (by decide +kernel)]; kernel_rfl) | (rw [if_neg (by decide +kernel)]; exact ⟨rfl, rfl⟩))
    (fun os started H enc _ => lifted os started H enc)

theorem proved : Rows.YardCallsSaid := over
end Go.Proofs.Ytahommgchnbnjaa.yardCalls
