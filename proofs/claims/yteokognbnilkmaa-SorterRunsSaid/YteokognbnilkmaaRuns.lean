/-
  SorterRuns returns true for every script.
-/
import Derived.Test.YteokognbnilkmaaReff
import Derived.Deep.DeepCutAuto
namespace Go.Proofs.Yteokognbnilkmaa.sorterRuns
open Go.ChangeShapes Go.WideShapes Go.ChangeAt Go.RowKit

/-- A sorter of the program's, beside one of the reference's whose variable lies at p. -/
structure XR (w0 : World) (K KR : Nat → Prop) (x : ScD) (W : World) (g b c n p : Nat) (A : Option Addr) (cap : Nat) (bs rs : Bins) : Prop where
  sx : SX w0 K x W g b c bs
  rb : RB KR W A n rs
  kk : ∀ i, KR i → K i
  bx : Blk W p 45 #[.int .i64 c, .slice A n cap]
  kp : K p
  np : ¬ KR p
  pb : w0.heap.size < p
section
variable {w0 W W' W1 : World} {K KR : Nat → Prop} {x : ScD} {g b c n p cap cap' : Nat} {A A' : Option Addr} {bs bs' rs rs' : Bins}
theorem XR.same (h : XR w0 K KR x W g b c n p A cap bs rs) (hs : Same W W') : XR w0 K KR x W' g b c n p A cap bs rs :=
  ⟨h.sx.same hs, h.rb.same hs, h.kk, h.bx.fr hs (fun x => x), h.kp, h.np, h.pb⟩
theorem XR.moved (h : XR w0 K KR x W g b c n p A cap bs rs) {K' : Nat → Prop} (hk : ∀ i, K i → K' i) (hs : SX w0 K' x W' g b c bs') (hf : Fr (fun i => ¬ K i) W W') : XR w0 K' KR x W' g b c n p A cap bs' rs :=
  ⟨hs, h.rb.fr hf (fun i hi hn => hn (h.kk i hi)), fun i hi => hk i (h.kk i hi), h.bx.fr hf (fun hn => hn h.kp), hk p h.kp, h.np, h.pb⟩
theorem XR.grow (h : XR w0 K KR x W g b c n p A cap bs rs) (hs : Same W W') : XR w0 (fun i => K i ∨ (W.heap.size ≤ i ∧ i < W'.heap.size)) KR x W' g b c n p A cap bs rs :=
  ⟨⟨h.sx.sb.grow hs, h.sx.box.fr hs (fun x => x), .inl h.sx.kh, h.sx.wf⟩, h.rb.same hs, fun i hi => .inl (h.kk i hi), h.bx.fr hs (fun x => x), .inl h.kp, h.np, h.pb⟩
theorem XR.drew (h : XR w0 K KR x W g b c n p A cap bs rs) : XR w0 K KR x W.drew g b c n p A cap bs rs := h.same ((Fr.refl _ _).drew)
theorem XR.cs (h : XR w0 K KR x W g b c n p A cap bs rs) : W.cell? ⟨p, 0, none⟩ = some (.int .i64 c) ∧ W.cell? ⟨p, 1, none⟩ = some (.slice A n cap) := ⟨h.bx.cell 0, h.bx.cell 1⟩
theorem len_xr (h : XR w0 K KR x W g b c n p A cap bs rs) : Calls Try.prog 14 #[.pointer (some ⟨g, 0, none⟩)] W fun e W' => e = .returned (.int .i64 (tot bs : Nat)) ∧ XR w0 K KR x W' g b c n p A cap bs rs :=
  h.sx.len.mono fun e W' ⟨he, _, hs⟩ => ⟨he, h.same hs⟩
theorem rlen_xr (h : XR w0 K KR x W g b c n p A cap bs bs) : Calls Try.prog 23 #[.agg #[.int .i64 c, .slice A n cap]] W fun e W' => e = .returned (.int .i64 (tot bs : Nat)) ∧ XR w0 K KR x W' g b c n p A cap bs bs :=
  (rlen_any KR c A n cap bs W h.rb h.sx.ok).mono fun e W' ⟨he, hs⟩ => ⟨he, h.same hs⟩
theorem full_xr (h : XR w0 K KR x W g b c n p A cap bs rs) : Calls Try.prog 16 #[.pointer (some ⟨g, 0, none⟩)] W fun e W' => e = .returned (.tuple #[.int .i64 ((fnd (pFull c) bs).getD 0 : Nat), .bool (fnd (pFull c) bs).isSome]) ∧ XR w0 K KR x W' g b c n p A cap bs rs :=
  (full_sb h.sx.sb).mono fun e W' ⟨he, _, hs⟩ => ⟨he, h.same hs⟩
theorem rfull_xr (h : XR w0 K KR x W g b c n p A cap bs bs) : Calls Try.prog 21 #[.agg #[.int .i64 c, .slice A n cap]] W fun e W' => e = .returned (.tuple #[.int .i64 ((fnd (pFull c) bs).getD 0 : Nat), .bool (fnd (pFull c) bs).isSome]) ∧ XR w0 K KR x W' g b c n p A cap bs bs :=
  (rfull_any KR c A n cap bs W h.rb h.sx.ok).mono fun e W' ⟨he, hs⟩ => ⟨he, h.same hs⟩
theorem most_xr (h : XR w0 K KR x W g b c n p A cap bs rs) : Calls Try.prog 17 #[.pointer (some ⟨g, 0, none⟩)] W fun e W' => e = .returned (.tuple #[.int .i64 ((most bs).1 : Nat), .bool (decide (0 < (most bs).2))]) ∧ XR w0 K KR x W' g b c n p A cap bs rs :=
  (fullest_sb h.sx.sb).mono fun e W' ⟨he, _, hs⟩ => ⟨he, h.same hs⟩
theorem rmost_xr (h : XR w0 K KR x W g b c n p A cap bs bs) : Calls Try.prog 22 #[.agg #[.int .i64 c, .slice A n cap]] W fun e W' => e = .returned (.tuple #[.int .i64 ((most bs).1 : Nat), .bool (decide (0 < (most bs).2))]) ∧ XR w0 K KR x W' g b c n p A cap bs bs :=
  (rfullest_any KR c A n cap bs W h.rb h.sx.ok).mono fun e W' ⟨he, hs⟩ => ⟨he, h.same hs⟩
theorem XR.kl (h : XR w0 K KR x W g b c n p A cap bs rs) : ∀ i, KR i → i < W.heap.size := fun i hi => h.sx.sb.kl i (h.kk i hi)
theorem XR.turn (h : XR w0 K KR x W g b c n p A cap bs rs) (hs : Same W W1) (hR : RB (fun i => KR i ∨ (W.heap.size ≤ i ∧ i < W1.heap.size)) W1 A' n rs') (o : Obj) :
    XR w0 (fun i => K i ∨ (W.heap.size ≤ i ∧ i < (((W1.setCell ⟨p, 0, none⟩ (.int .i64 c)).setCell ⟨p, 1, none⟩ (.slice A' n cap')).alloc o).heap.size)) (fun i => KR i ∨ (W.heap.size ≤ i ∧ i < W1.heap.size)) x (((W1.setCell ⟨p, 0, none⟩ (.int .i64 c)).setCell ⟨p, 1, none⟩ (.slice A' n cap')).alloc o) g b c n p A' cap' bs rs' := by
  have f2 := fr_two W1 p (.int .i64 c) (.slice A' n cap')
  have f0 : Fr (fun i => i = p) W ((W1.setCell ⟨p, 0, none⟩ (.int .i64 c)).setCell ⟨p, 1, none⟩ (.slice A' n cap')) := fr_trans2 (hs.to _) f2 (fun _ _ e => e)
  have f := f0.alloc o
  have hp := h.bx.lt
  have hpz := h.pb
  have b1 := (((h.bx.fr hs (fun x => x)).set_ 0 (.int .i64 c)).set_ 1 (.slice A' n cap')).alloc o
  have z1 := hs.size
  have z2 := f2.size
  have z3 : (((W1.setCell ⟨p, 0, none⟩ (.int .i64 c)).setCell ⟨p, 1, none⟩ (.slice A' n cap')).alloc o).heap.size = ((W1.setCell ⟨p, 0, none⟩ (.int .i64 c)).setCell ⟨p, 1, none⟩ (.slice A' n cap')).heap.size + 1 := World.size_alloc _ _
  refine ⟨⟨h.sx.sb.growK f (fun i e => by subst e; exact ⟨h.kp, by omega⟩), h.sx.box.fr f (by omega), .inl h.sx.kh, h.sx.wf⟩, (hR.fr f2 (fun i hi e => ?_)).same ((Fr.refl _ _).alloc o), fun i hi => ?_, b1, .inl h.kp, fun hi => ?_, h.pb⟩
  · subst e
    rcases hi with hi | ⟨hi, _⟩
    · exact h.np hi
    · omega
  · rcases hi with hi | ⟨h1, h2⟩
    · exact .inl (h.kk i hi)
    · exact .inr ⟨h1, by omega⟩
  · rcases hi with hi | ⟨hi, _⟩
    · exact h.np hi
    · omega
end

theorem below_end {w w2 w9 : World} (t : Same w w2) (h : Below w2.heap.size w2 w9) : (Ending.returned (.bool true)) = .returned (.bool true) ∧ Below w.heap.size w w9 := ⟨rfl, t.below.trans (h.mono t.size)⟩
def Rel (w : World) (X : ScD) (g b c n p len : Nat) (i : Value) (wr : World) : Prop := ∃ (k : Nat) (K KR : Nat → Prop) (A : Option Addr) (cap : Nat) (bs : Bins), k ≤ len ∧ i = .int .i64 k ∧ XR w K KR X wr g b c n p A cap bs bs

theorem start {w w2 w3 : World} {K : Nat → Prop} {X : ScD} {g b c n : Nat} {A : Option Addr} {bs : Bins} (h : SX w K X w2 g b c bs) (hs : Same w2 w3) (hR : RB (fun i => w2.heap.size ≤ i ∧ i < w3.heap.size) w3 A n bs) :
    ∃ K KR, XR w K KR X (w3.alloc (.cells #[.int .i64 c, .slice A n n] 45)) g b c n w3.heap.size A n bs bs := by
  have z1 := hs.size
  have z0 := h.sb.bel.size
  have z2 : (w3.alloc (.cells #[.int .i64 c, .slice A n n] 45)).heap.size = w3.heap.size + 1 := by simp
  have f : Same w2 (w3.alloc (.cells #[.int .i64 c, .slice A n n] 45)) := Fr.alloc hs _
  have hl := h.box.lt
  exact ⟨_, _, ⟨h.sb.grow f, h.box.fr f (fun x => x), .inl h.kh, h.wf⟩, hR.same ((Fr.refl _ _).alloc _), fun i hi => .inr ⟨hi.1, by omega⟩, Blk.new _ _ _, .inr ⟨z1, by omega⟩, fun hi => by omega, by omega⟩

set_option maxRecDepth 100000 in
set_option maxHeartbeats 4000000 in
theorem walk (x : ScD) (w : World) (hx : x.Wf w) : Calls Try.prog 6 #[x.agg] w fun e w' => e = .returned (.bool true) ∧ Below w.heap.size w w' := by
  obtain ⟨bn, cp, A, len, scap, xs⟩ := x
  have hal : Same w (w.alloc (.cells (ScD.cells ⟨bn, cp, A, len, scap, xs⟩) 24)) := (Fr.refl _ _).alloc _
  have HX := Lib.hid hx
  have HX0 := Lib.hid (ScD.Wf.same hx hal)
  have hml := hx.ops.2.1
  have hxl := hx.ops.1
  simp only at hml hxl
  clear hx
  unfold ScD.agg
  simp only
  unfold ScD.cells at hal
  simp only at hal
  go_enter Try.func6, Try.ntmps6
  go_wp2_with fail
  refine (small_any ⟨bn, cp, A, len, scap, xs⟩ _ HX0.out).mono ?_
  rintro e w1 ⟨bb, rfl, s1, hb⟩
  simp only at hb
  have bx := (Blk.new w 24 (ScD.cells ⟨bn, cp, A, len, scap, xs⟩)).fr s1 (fun x => x)
  have b0 : w1.cell? ⟨w.heap.size, 0, none⟩ = some (.int .i64 bn) := bx.cell 0
  have b1 : w1.cell? ⟨w.heap.size, 1, none⟩ = some (.int .i64 cp) := bx.cell 1
  have t1 : Same w w1 := Fr.trans hal s1
  have HS1 := Lib.hid s1
  clear hal bx s1
  cases bb with
  | false =>
    clear hb
    go_wp2_with fail
    refine (awake_any _).mono ?_
    rintro e w9 ⟨rfl, hb9⟩
    go_wp2
    go_ret
    exact ⟨rfl, t1.below.trans (hb9.mono t1.size)⟩
  | true =>
    have hlen := hb rfl
    clear hb
    by_cases hbad : NewBad bn cp
    · go_wp2_with fail
      refine (new_bad bn cp _ hbad).mono ?_
      rintro e w' ⟨rfl, rfl⟩
      go_wp2_with fail
      refine (rnew_bad bn cp _ hbad).mono ?_
      rintro e w2 ⟨rfl, hs2⟩
      have t2 : Same w w2 := Fr.trans t1 hs2
      unfold rv
      go_wp2_with fail
      refine (awake_any _).mono ?_
      rintro e w9 ⟨rfl, hb9⟩
      go_wp2
      go_ret
      exact below_end (Fr.alloc t2 _) hb9
    · have hg : (1 ≤ bn ∧ bn ≤ 16) ∧ 1 ≤ cp ∧ cp ≤ 32 := by unfold NewBad at hbad; omega
      obtain ⟨⟨g1, g2⟩, g3, g4⟩ := hg
      obtain ⟨n, rfl⟩ : ∃ k : Nat, bn = (k : Int) := ⟨bn.toNat, by omega⟩
      obtain ⟨c, rfl⟩ : ∃ k : Nat, cp = (k : Int) := ⟨cp.toNat, by omega⟩
      clear hbad
      go_wp2_with fail
      refine (sx_new ⟨(n : Int), (c : Int), A, len, scap, xs⟩ HX.out HS1.out n c (by omega) (by omega) (by omega) (by omega)).mono ?_
      rintro e w2 ⟨rfl, h2⟩
      generalize hX : (⟨(n : Int), (c : Int), A, len, scap, xs⟩ : ScD) = X at HX HX0 h2
      have EX : Hid (X.bins = (n : Int) ∧ X.cap = (c : Int) ∧ X.A = A ∧ X.len = len ∧ X.scap = scap ∧ X.xs = xs) := by rw [← hX]; exact ⟨rfl, rfl, rfl, rfl, rfl, rfl⟩
      have A2 : Hid (∀ (K : Nat → Prop) (W : World) (g b : Nat) (bs : Bins), SX w K X W g b c bs → W.cell? ⟨w.heap.size, 2, none⟩ = some (.slice A len scap)) := fun K W g b bs h => by
        have := h.at2
        rw [EX.out.2.2.1, EX.out.2.2.2.1, EX.out.2.2.2.2.1] at this
        exact this
      have A1 : Hid (∀ (K : Nat → Prop) (W : World) (g b : Nat) (bs : Bins), SX w K X W g b c bs → W.cell? ⟨w.heap.size, 1, none⟩ = some (.int .i64 c)) := fun K W g b bs h => by
        have := h.at1
        rw [EX.out.2.1] at this
        exact this
      have A0 : Hid (∀ (K : Nat → Prop) (W : World) (g b : Nat) (bs : Bins), SX w K X W g b c bs → W.cell? ⟨w.heap.size, 0, none⟩ = some (.int .i64 n)) := fun K W g b bs h => by
        have := h.at0
        rw [EX.out.1] at this
        exact this
      have d0 := A0.out _ _ _ _ _ h2
      have d1 := A1.out _ _ _ _ _ h2
      clear hX b0 b1 HX0 HX t1
      generalize w1.heap.size = hb1 at h2
      go_wp2_with fail
      refine (rnew_any n c _ (by omega) (by omega) (by omega) (by omega)).mono ?_
      rintro e w3 ⟨A3, rfl, hs3, hR3⟩
      unfold rv
      have HR0 := Lib.hid (start h2 hs3 hR3)
      clear h2 hs3 hR3 d0 d1
      go_wp2
      have HR : Hid (Rel w X (hb1 + 1) hb1 c n w3.heap.size len (.int .i64 0) (w3.alloc (.cells #[.int .i64 c, .slice A3 n n] 45))) := by
        obtain ⟨K, KR, h⟩ := HR0.out
        exact ⟨0, K, KR, A3, n, _, by omega, rfl, h⟩
      clear HR0
      generalize w3.heap.size = p at HR
      go_loopw [7] (fun i wr => Rel w X (hb1 + 1) hb1 c n p len i wr) (fun i _ => len - (intOf i).toNat)
      case atStart => exact HR.out
      case round =>
        obtain ⟨k, K, KR, A', cap', bs, hk, rfl, h3⟩ := hrel
        clear HR
        have d2 := A2.out _ _ _ _ _ h3.sx
        by_cases hlt : k < len
        · obtain ⟨y, hy⟩ : ∃ y, xs[k]? = some y := ⟨xs[k]'(by omega), List.getElem?_eq_getElem _⟩
          have hyX : X.xs[k]? = some y := by rw [EX.out.2.2.2.2.2]; exact hy
          obtain ⟨bb, o, eA, hbl, ⟨c0, c1, c2, c3⟩, hwf⟩ := h3.sx.op hyX
          rw [EX.out.2.2.1] at eA
          subst eA
          have i1 : (0 : Int) ≤ (k : Int) := by omega
          have i2 : (k : Int) < (len : Int) := by omega
          have hkd := hwf.1
          have hbn := hwf.2.2.2
          have hok := Lib.hid h3.sx.ok
          have h4 := h3.grow (W' := wr.alloc (.cells #[.int .u8 y.kind, .string y.key, .string y.item, .int .i64 y.bin] 33)) ((Fr.refl _ _).alloc _)
          have bo := Blk.new wr 33 #[.int .u8 y.kind, .string y.key, .string y.item, .int .i64 y.bin]
          have kb : K wr.heap.size ∨ (wr.heap.size ≤ wr.heap.size ∧ wr.heap.size < (wr.alloc (.cells #[.int .u8 y.kind, .string y.key, .string y.item, .int .i64 y.bin] 33)).heap.size) := .inr ⟨Nat.le_refl _, by simp⟩
          clear hy hyX hwf h3
          by_cases hk0 : y.kind = 0
          · have t0 : (y.kind == 0) = true := by simp [hk0]
            clear hk0
            go_wp2_with fail
            refine (SX.put h4.sx).mono ?_
            rintro e w5 ⟨rfl, h5s, hf5⟩
            have h5 := h4.moved (fun _ h => h) h5s hf5
            have bo5 := bo.fr hf5 (fun hn => hn kb)
            have e1 := bo5.cell 1
            have e2 := bo5.cell 2
            simp at e1 e2
            obtain ⟨e3, e4⟩ := h5.cs
            clear h4 h5s hf5 bo kb c0 c1 c2 c3
            go_wp2_with fail
            refine (rput_any KR c A' n cap' bs y.key y.item _ h5.rb h5.kl hok.out).mono ?_
            rintro e w6 ⟨A6, cap6, rfl, hs6, hR6⟩
            unfold rv
            generalize sPut c bs y.key y.item = r at h5 hR6
            obtain ⟨bs', ri, rc⟩ := r
            have b6 := h5.bx.fr hs6 (fun x => x)
            have e5 := b6.cell 0
            have e6 := b6.cell 1
            have e7 := b6.frozen 0
            have e8 := b6.frozen 1
            have pl := b6.lt
            simp at e5 e6
            have h7 := h5.turn (cap' := cap6) hs6 hR6 (.cells #[.int .i64 c, .slice A6 n cap6] 45)
            clear h5 hs6 hR6 b6 bo5 e1 e2 e3 e4
            go_wp2_with fail
            obtain ⟨K7, KR7, h7⟩ : ∃ K KR, XR w K KR X (((w6.setCell ⟨p, 0, none⟩ (.int .i64 c)).setCell ⟨p, 1, none⟩ (.slice A6 n cap6)).alloc (.cells #[.int .i64 c, .slice A6 n cap6] 45)) (hb1 + 1) hb1 c n p A6 cap6 bs' bs' := ⟨_, _, h7⟩
            generalize ((w6.setCell ⟨p, 0, none⟩ (.int .i64 c)).setCell ⟨p, 1, none⟩ (.slice A6 n cap6)).alloc (.cells #[.int .i64 c, .slice A6 n cap6] 45) = W7 at h7 ⊢
            clear e5 e6 e7 e8 pl
            refine (full_xr h7).mono ?_
            rintro e w8 ⟨rfl, h8⟩
            obtain ⟨q0, q1⟩ := h8.cs
            clear h7
            go_wp2_with fail
            refine (rfull_xr h8).mono ?_
            rintro e w9 ⟨rfl, h9⟩
            generalize (fnd (pFull c) bs').getD 0 = fi
            generalize (fnd (pFull c) bs').isSome = fb
            clear h8 q0 q1
            go_wp2_with fail
            refine (most_xr h9).mono ?_
            rintro e w10 ⟨rfl, h10⟩
            obtain ⟨q0, q1⟩ := h10.cs
            clear h9
            go_wp2_with fail
            refine (rmost_xr h10).mono ?_
            rintro e w11 ⟨rfl, h11⟩
            generalize decide (0 < (most bs').2) = mb
            generalize (most bs').1 = mi
            clear h10 q0 q1
            obtain ⟨q0, q1⟩ := h11.cs
            go_upto_region 28 with fail
            go_region_held3 (fun W => W.cell? ⟨p, 0, none⟩ = some (.int .i64 c) ∧ W.cell? ⟨p, 1, none⟩ = some (.slice A6 n cap6))
              (first | exact ⟨q0, q1⟩ | exact hA.cs | exact hB.cs)
              (first | (go_at_call 14; (first | refine (len_xr hB).mono ?_ | refine (len_xr hB.drew).mono ?_ | refine (len_xr h11).mono ?_ | refine (len_xr h11.drew).mono ?_); rintro e wA ⟨rfl, hA⟩) | (go_at_call 23; (first | refine (rlen_xr hA).mono ?_ | refine (rlen_xr hA.drew).mono ?_ | refine (rlen_xr h11).mono ?_ | refine (rlen_xr h11.drew).mono ?_); rintro e wB ⟨rfl, hB⟩))
            have HE : Hid (Rel w X (hb1 + 1) hb1 c n p len (.int .i64 ((k : Int) + 1)) wB) := ⟨k + 1, K7, KR7, A6, cap6, bs', by omega, by simp, hB⟩
            clear hA hB h11 q0 q1
            go_wp2
            go_roundw
            case rel => exact HE.out
            case measure => simp [intOf]; omega
          · have t0 : (y.kind == 0) = false := by simp [hk0]
            clear hk0
            go_wp2_with fail
            refine (SX.take h4.sx (i := y.bin)).mono ?_
            rintro e w5 ⟨AA, cA, rfl, hrs5, hf5, h5s, hn5⟩
            have h5 := h4.moved (fun _ h => .inl h) h5s hf5
            have bo5 := bo.fr hf5 (fun hn => hn kb)
            have hnp : ∀ i, InA AA i → ¬ (fun i => i = p) i := fun i hi e => hn5 i hi (by subst e; exact h4.kp)
            have e1 := bo5.cell 3
            simp at e1
            obtain ⟨e3, e4⟩ := h5.cs
            clear h4 h5s hf5 bo kb c0 c1 c2 c3 hn5
            go_wp2_with fail
            refine (rtake_any KR c A' n cap' bs y.bin _ h5.rb h5.kl hok.out hbn).mono ?_
            rintro e w6 ⟨A6, cap6, BB, cB, rfl, hs6, hR6, hrs6, hkB⟩
            unfold rv
            have hnq : ∀ i, InA BB i → ¬ (fun i => i = p) i := fun i hi e => h5.np (by subst e; exact hkB _ hi)
            generalize sTake bs y.bin = r at h5 hR6 hrs5 hrs6
            obtain ⟨bs', rk, ri, rc⟩ := r
            simp only at h5 hR6 hrs5 hrs6
            have b6 := h5.bx.fr hs6 (fun x => x)
            have e5 := b6.cell 0
            have e6 := b6.cell 1
            have e7 := b6.frozen 0
            have e8 := b6.frozen 1
            have pl := b6.lt
            simp at e5 e6
            have h7 := h5.turn (cap' := cap6) hs6 hR6 (.cells #[.int .i64 c, .slice A6 n cap6] 45)
            have ff := (fr_two w6 p (.int .i64 c) (.slice A6 n cap6)).alloc (.cells #[.int .i64 c, .slice A6 n cap6] 45)
            have g1' := (hrs5.same hs6).fr ff hnp
            have g2' := hrs6.fr ff hnq
            have HC := Lib.hid (same_rs (cA := cA) (cB := cB) g1' g2')
            generalize ri.length = rl at HC
            clear h5 hs6 hR6 b6 bo5 e1 e3 e4 ff g1' g2' hrs5 hrs6 hnp hnq hkB
            go_wp2_with fail
            refine HC.out.mono ?_
            rintro e w7 ⟨rfl, hs7⟩
            obtain ⟨K7, KR7, h7⟩ : ∃ K KR, XR w K KR X w7 (hb1 + 1) hb1 c n p A6 cap6 bs' bs' := ⟨_, _, h7.same hs7⟩
            clear e5 e6 e7 e8 pl HC hs7
            go_wp2_with fail
            refine (full_xr h7).mono ?_
            rintro e w8 ⟨rfl, h8⟩
            obtain ⟨q0, q1⟩ := h8.cs
            clear h7
            go_wp2_with fail
            refine (rfull_xr h8).mono ?_
            rintro e w9 ⟨rfl, h9⟩
            generalize (fnd (pFull c) bs').getD 0 = fi
            generalize (fnd (pFull c) bs').isSome = fb
            clear h8 q0 q1
            go_wp2_with fail
            refine (most_xr h9).mono ?_
            rintro e w10 ⟨rfl, h10⟩
            obtain ⟨q0, q1⟩ := h10.cs
            clear h9
            go_wp2_with fail
            refine (rmost_xr h10).mono ?_
            rintro e w11 ⟨rfl, h11⟩
            generalize decide (0 < (most bs').2) = mb
            generalize (most bs').1 = mi
            clear h10 q0 q1
            obtain ⟨q0, q1⟩ := h11.cs
            go_upto_region 28 with fail
            go_region_held3 (fun W => W.cell? ⟨p, 0, none⟩ = some (.int .i64 c) ∧ W.cell? ⟨p, 1, none⟩ = some (.slice A6 n cap6))
              (first | exact ⟨q0, q1⟩ | exact hA.cs | exact hB.cs)
              (first | (go_at_call 14; (first | refine (len_xr hB).mono ?_ | refine (len_xr hB.drew).mono ?_ | refine (len_xr h11).mono ?_ | refine (len_xr h11.drew).mono ?_); rintro e wA ⟨rfl, hA⟩) | (go_at_call 23; (first | refine (rlen_xr hA).mono ?_ | refine (rlen_xr hA.drew).mono ?_ | refine (rlen_xr h11).mono ?_ | refine (rlen_xr h11.drew).mono ?_); rintro e wB ⟨rfl, hB⟩))
            have HE : Hid (Rel w X (hb1 + 1) hb1 c n p len (.int .i64 ((k : Int) + 1)) wB) := ⟨k + 1, K7, KR7, A6, cap6, bs', by omega, by simp, hB⟩
            clear hA hB h11 q0 q1
            go_wp2
            go_roundw
            case rel => exact HE.out
            case measure => simp [intOf]; omega
        · have hE := h3.sx.sb.bel
          clear h3
          go_wp2_with fail
          refine (awake_any _).mono ?_
          rintro e w9 ⟨rfl, hb9⟩
          go_wp2
          go_ret
          exact ⟨rfl, hE.trans (hb9.mono hE.size)⟩

theorem own : ownKnob Try.prog.godebug = none := by kernel_rfl
theorem laidOut : laidOutB Try.prog = true := by kernel_rfl

set_option maxRecDepth 100000 in
theorem lifted (os : Os) (started : os.Started) (H : Type) (enc : TypeId × Value → H) :
    ReturnsInHanded {} Try.checked os 6 .any (Rows.sorterRunsSpec.pre6 enc Try.prog Try.f6 Rows.sorterRunsRow.domain false) (Rows.sorterRunsSpec.post enc Try.prog Try.f6 false true false false) := by
  refine returnsInHanded_of_change (C := Try.checked) own started (by kernel_rfl) Try.func6
    (ChangeSpec.witness6 (enc := enc) (C := Try.checked) false ⟨#[], #[.agg #[.int .i64 0, .int .i64 0, .slice none 0 0]], []⟩ 8 (by kernel_rfl) (by kernel_rfl) (by kernel_rfl) (by kernel_rfl)) ?_
  intro W base args ds gs before hval0 hW hcnd _
  have hval : ∀ (j : Nat) t v, Try.f6.params[j]? = some t → args[j]? = some v → Value.okWide Try.prog W .any base t v := hval0
  have hW' := hW
  obtain ⟨p, q, hA0, hV, rfl, hfz, hnd⟩ := hW
  have hA : DataW.TrodAll enc Try.prog W 0 (fun _ => true) true Try.f6.params.toList args.toList ds p := hA0
  rw [Try.params6] at hA hval
  obtain ⟨v0, vs0, d0, ds0, p0, q0, hargs, rfl, rfl, h0, r0⟩ := trodAll_cons hA
  obtain ⟨rfl, rfl, rfl⟩ := trodAll_nil r0
  obtain rfl : args = #[v0] := by cases args; simp_all
  obtain ⟨rfl, rfl⟩ := trodVars_none hV
  have k0 := h0
  have lt0 : ∀ x ∈ p0, x.block < W.heap.size := by obtain ⟨m, hm⟩ := k0; exact DataW.trod_lt m _ _ _ hm
  have ok0 := hval 0 24 v0 rfl rfl
  obtain ⟨x0, rfl, hx0⟩ := open_script ok0 h0
  clear hA0 hval0
  refine (walk x0 W hx0).mono fun e W' ⟨he, bel⟩ => ?_
  subst he
  exact ⟨_, rfl, _, _, _, [], _, [], hW', trodAll_mk1 (shut_bool Try.underlying4 _), (trodAll_cons_mk (Below.trod laidOut (by kernel_rfl) (of_decide_eq_true (by kernel_rfl)) k0 bel lt0) trodAll_mk0), rfl, bel.frame _, fun h => by cases h⟩

theorem over : Rows.sorterRunsRow.holds Try.pinned (OpenSpec.ofChange Rows.sorterRunsSpec) :=
  OpenClaim.holds_of_wide 6 Try.f6 rfl rfl rfl rfl rfl rfl rfl ⟨rfl, rfl, rfl, rfl, rfl⟩ rfl rfl rfl rfl rfl (by kernel_rfl) Try.func6 (by kernel_rfl)
    (of_decide_eq_true (by kernel_rfl)) (by unfold Func.isWrapper; first | (rw [if_pos (by decide +kernel)]; kernel_rfl) | (rw [if_neg (by decide +kernel)]; exact ⟨rfl, rfl⟩))
    (fun os started H enc _ => lifted os started H enc)

theorem proved : Rows.SorterRunsSaid := over
end Go.Proofs.Yteokognbnilkmaa.sorterRuns
