/-
  SorterMost returns true for every script.
-/
import Derived.Test.YteokognbnilkmaaScript
import Derived.Deep.RegionHeld3
import Derived.Deep.DrawnRows
namespace Go.Proofs.Yteokognbnilkmaa.sorterMost
open Go.ChangeShapes Go.WideShapes Go.ChangeAt Go.RowKit

attribute [local go_sem ↓] Go.wp_at_zero Go.wp_at_succ
/-- What holds at the head of each round of the first loop. -/
def Rel (w : World) (x : ScD) (g b c len : Nat) (i : Value) (wr : World) : Prop :=
  ∃ (k : Nat) (bs : Bins), k ≤ len ∧ i = .int .i64 k ∧ SX w (fun i => i = w.heap.size) x wr g b c bs
/-- What holds at the head of each round of the second loop; t: how many items are left. -/
def Rel2 (w : World) (x : ScD) (g b c : Nat) (t : Nat) (m : Value) (wr : World) : Prop :=
  ∃ (bs : Bins) (K : Nat → Prop) (n : Nat), m = .int .i64 n ∧ n ≤ c ∧ tot bs = t ∧ (∀ y ∈ bs, y.items.length ≤ n) ∧ SX w K x wr g b c bs

theorem full_iff {c i n : Nat} {bs : Bins} (ok : BOk c bs) (hm : most bs = (i, n)) (hn : 0 < n) : (fnd (pFull c) bs).isSome = decide (n = c) := by
  obtain ⟨h1, h2⟩ := most_max (bs := bs)
  rw [hm] at h1 h2
  obtain ⟨b, hb, hl⟩ := h2 hn
  have hle := ok.le b (List.mem_of_getElem? hb)
  by_cases e : n = c
  · rw [decide_eq_true e]
    cases hf : fnd (pFull c) bs with
    | some _ => rfl
    | none =>
      have := (fnd_none_iff.1 hf) b (List.mem_of_getElem? hb)
      unfold pFull at this
      simp at this hl
      omega
  · rw [decide_eq_false e]
    rw [fnd_none (fun y hy => ?_)]
    · rfl
    · have := h1 y hy
      simp only at this hl
      unfold pFull
      simp
      omega
theorem rel2_next {w w' : World} {x : ScD} {g b c i n t : Nat} {bs : Bins} {y : Bin} {K : Nat → Prop} (hm : most bs = (i, n)) (hy : bs[i]? = some y) (hl : y.items.length = n) (hn : n ≤ c) (ht : tot bs = t) (h : SX w K x w' g b c (bs.set i ⟨nul, []⟩)) :
    Rel2 w x g b c (t - n) (.int .i64 n) w' := by
  obtain ⟨h1, _⟩ := most_max (bs := bs)
  rw [hm] at h1
  have := (tot_mem hy).2
  refine ⟨_, K, n, rfl, hn, by omega, fun z hz => ?_, h⟩
  rcases List.mem_or_eq_of_mem_set hz with hz | hz
  · exact h1 z hz
  · subst hz; exact Nat.zero_le _

set_option maxRecDepth 100000 in
set_option maxHeartbeats 4000000 in
theorem walk (x : ScD) (w : World) (hx : x.Wf w) : Calls Try.prog 7 #[x.agg] w fun e w' => e = .returned (.bool true) ∧ Below w.heap.size w w' := by
  obtain ⟨bn, cp, A, len, scap, xs⟩ := x
  have hal : Same w (w.alloc (.cells (ScD.cells ⟨bn, cp, A, len, scap, xs⟩) 24)) := (Fr.refl _ _).alloc _
  have HX := Lib.hid hx
  have HX0 := Lib.hid (ScD.Wf.same hx hal)
  have hml := hx.ops.2.1
  have hxl := hx.ops.1
  simp only at hml hxl
  clear hx
  unfold ScD.agg
  simp only
  unfold ScD.cells at hal
  simp only at hal
  go_enter Try.func7, Try.ntmps7
  go_wp2_with fail
  refine (small_any ⟨bn, cp, A, len, scap, xs⟩ _ HX0.out).mono ?_
  rintro e w1 ⟨bb, rfl, s1, hb⟩
  simp only at hb
  have bx := (Blk.new w 24 (ScD.cells ⟨bn, cp, A, len, scap, xs⟩)).fr s1 (fun x => x)
  have b0 : w1.cell? ⟨w.heap.size, 0, none⟩ = some (.int .i64 bn) := bx.cell 0
  have b1 : w1.cell? ⟨w.heap.size, 1, none⟩ = some (.int .i64 cp) := bx.cell 1
  have t1 : Same w w1 := Fr.trans hal s1
  have HS1 := Lib.hid s1
  clear hal bx s1
  cases bb with
  | false =>
    clear hb
    go_wp2_with fail
    refine (awake_any _).mono ?_
    rintro e w9 ⟨rfl, hb9⟩
    go_wp2
    go_ret
    exact ⟨rfl, t1.below.trans (hb9.mono t1.size)⟩
  | true =>
    have hlen := hb rfl
    clear hb
    by_cases hbad : NewBad bn cp
    · go_wp2_with fail
      refine (new_bad bn cp _ hbad).mono ?_
      rintro e w' ⟨rfl, rfl⟩
      go_wp2_with fail
      refine (awake_any _).mono ?_
      rintro e w9 ⟨rfl, hb9⟩
      go_wp2
      go_ret
      exact ⟨rfl, t1.below.trans (hb9.mono t1.size)⟩
    · have hg : (1 ≤ bn ∧ bn ≤ 16) ∧ 1 ≤ cp ∧ cp ≤ 32 := by unfold NewBad at hbad; omega
      obtain ⟨⟨g1, g2⟩, g3, g4⟩ := hg
      obtain ⟨n, rfl⟩ : ∃ k : Nat, bn = (k : Int) := ⟨bn.toNat, by omega⟩
      obtain ⟨c, rfl⟩ : ∃ k : Nat, cp = (k : Int) := ⟨cp.toNat, by omega⟩
      clear hbad
      go_wp2_with fail
      refine (sx_new ⟨(n : Int), (c : Int), A, len, scap, xs⟩ HX.out HS1.out n c (by omega) (by omega) (by omega) (by omega)).mono ?_
      rintro e w2 ⟨rfl, h2⟩
      generalize hX : (⟨(n : Int), (c : Int), A, len, scap, xs⟩ : ScD) = X at HX HX0 h2
      have EX : Hid (X.bins = (n : Int) ∧ X.cap = (c : Int) ∧ X.A = A ∧ X.len = len ∧ X.scap = scap ∧ X.xs = xs) := by rw [← hX]; exact ⟨rfl, rfl, rfl, rfl, rfl, rfl⟩
      have A2 : Hid (∀ (K : Nat → Prop) (W : World) (g b : Nat) (bs : Bins), SX w K X W g b c bs → W.cell? ⟨w.heap.size, 2, none⟩ = some (.slice A len scap)) := fun K W g b bs h => by
        have := h.at2
        rw [EX.out.2.2.1, EX.out.2.2.2.1, EX.out.2.2.2.2.1] at this
        exact this
      have A1 : Hid (∀ (K : Nat → Prop) (W : World) (g b : Nat) (bs : Bins), SX w K X W g b c bs → W.cell? ⟨w.heap.size, 1, none⟩ = some (.int .i64 c)) := fun K W g b bs h => by
        have := h.at1
        rw [EX.out.2.1] at this
        exact this
      have HR : Hid (Rel w X (w1.heap.size + 1) w1.heap.size c len (.int .i64 0) w2) := ⟨0, _, by omega, rfl, h2⟩
      have d2 := A2.out _ _ _ _ _ h2
      clear hX h2 b0 b1 HX0 HX t1
      generalize w1.heap.size = hb1 at HR
      go_wp2
      go_loopw [5] (fun i wr => Rel w X (hb1 + 1) hb1 c len i wr) (fun i _ => len - (intOf i).toNat)
      case atStart => exact HR.out
      case round =>
        obtain ⟨k, bs, hk, rfl, h3⟩ := hrel
        clear HR d2
        have d2 := A2.out _ _ _ _ _ h3
        by_cases hlt : k < len
        · obtain ⟨y, hy⟩ : ∃ y, xs[k]? = some y := ⟨xs[k]'(by omega), List.getElem?_eq_getElem _⟩
          have hyX : X.xs[k]? = some y := by rw [EX.out.2.2.2.2.2]; exact hy
          obtain ⟨bb, o, eA, hbl, ⟨c0, c1, c2, c3⟩, hwf⟩ := h3.op hyX
          rw [EX.out.2.2.1] at eA
          subst eA
          have i1 : (0 : Int) ≤ (k : Int) := by omega
          have i2 : (k : Int) < (len : Int) := by omega
          have HO : Hid (∀ (K : Nat → Prop) (W : World) (g b : Nat) (bs : Bins), SX w K X W g b c bs → W.cell? ⟨bb, o + k * 4 + 1, none⟩ = some (.string y.key) ∧ W.cell? ⟨bb, o + k * 4 + 2, none⟩ = some (.string y.item)) := fun K W g b bs h => by
            have := h.opc hyX EX.out.2.2.1
            exact ⟨this.2.1, this.2.2.1⟩
          have hkd := hwf.1
          clear hy hyX hwf
          by_cases hk0 : y.kind = 0
          · have t0 : (y.kind == 0) = true := by simp [hk0]
            clear hk0
            go_wp2
            go_region_held3 (fun W => W.cell? ⟨w.heap.size, 2, none⟩ = some (.slice (some ⟨bb, o, none⟩) len scap) ∧ W.cell? ⟨bb, o + k * 4 + 1, none⟩ = some (.string y.key) ∧ W.cell? ⟨bb, o + k * 4 + 2, none⟩ = some (.string y.item))
              (first | exact ⟨d2, c1, c2⟩ | exact ⟨A2.out _ _ _ _ _ h4, HO.out _ _ _ _ _ h4⟩)
              ((go_at_call 12; refine (SX.put h3.drew).mono ?_; rintro e w4 ⟨rfl, h4, _⟩))
            have HE : Hid (Rel w X (hb1 + 1) hb1 c len (.int .i64 ((k : Int) + 1)) w4) := ⟨k + 1, _, by omega, by simp, h4⟩
            clear h3 h4
            go_wp2
            go_roundw
            case rel => exact HE.out
            case measure => simp [intOf]; omega
          · have t0 : (y.kind == 0) = false := by simp [hk0]
            have HE : Hid (Rel w X (hb1 + 1) hb1 c len (.int .i64 ((k : Int) + 1)) wr) := ⟨k + 1, bs, by omega, by simp, h3⟩
            clear hk0 h3
            go_wp2
            go_roundw
            case rel => exact HE.out
            case measure => simp [intOf]; omega
        · have HR2 : Hid (Rel2 w X (hb1 + 1) hb1 c (tot bs) (.int .i64 c) wr) := ⟨bs, _, c, rfl, Nat.le_refl _, rfl, h3.ok.le, h3⟩
          have d1 := A1.out _ _ _ _ _ h3
          clear h3
          go_wp2
          go_loopg [6] (tot bs) (fun t m wr => Rel2 w X (hb1 + 1) hb1 c t m wr)
          case atStart => exact HR2.out
          case round =>
            obtain ⟨bs, K, m, rfl, hmc, ht, hall, h3⟩ := hrel
            clear HR2 d1 d2
            have hmi : (m : Int) ≤ 32 := by omega
            have htl := tot_le bs h3.ok.le
            have hn2 := h3.ok.n2
            have htl2 : tot bs ≤ 512 := Nat.le_trans htl (Nat.mul_le_mul hn2 h3.ok.c2)
            have HT := Lib.hid ht
            have HA := Lib.hid hall
            clear ht hall htl hn2
            by_cases hz : tot bs = 0
            · have hz2 := most_zero hz
              have hz3 : fnd (pFull c) bs = none := fnd_none (fun y hy => by unfold pFull; rw [tot_none hz hy]; simp; omega)
              have HZ := Lib.hid hz
              have HZ2 := Lib.hid hz2
              have HZ3 := Lib.hid hz3
              clear hz hz2 hz3
              go_wp2_with fail
              refine (h3.len_to HZ.out).mono ?_
              rintro e w4 ⟨rfl, h4, _⟩
              clear h3
              go_wp2_with fail
              refine (h4.full_to (o := none) HZ3.out).mono ?_
              rintro e w5 ⟨rfl, h5, _⟩
              clear h4
              go_wp2_with fail
              refine (h5.fullest_to (i := 0) (n := 0) (f := false) HZ2.out rfl).mono ?_
              rintro e w6 ⟨rfl, h6, _⟩
              clear h5
              go_wp2_with fail
              refine (awake_any _).mono ?_
              rintro e w9 ⟨rfl, hb9⟩
              go_wp2
              go_ret
              exact ⟨rfl, h6.sb.bel.trans (hb9.mono h6.sb.bel.size)⟩
            · obtain ⟨i, q, hm⟩ : ∃ i q, most bs = (i, q) := ⟨_, _, rfl⟩
              have hq : 0 < q := by have := tot_pos (bs := bs) (by omega); rw [hm] at this; exact this
              obtain ⟨y, hy, hyl, htk⟩ := take_most hm hq
              have hqm : q ≤ m := by rw [← hyl]; exact HA.out y (List.mem_of_getElem? hy)
              have hqt := (tot_mem hy).1
              rw [hyl] at hqt
              have ht2 := (tot_mem hy).2
              rw [hyl] at ht2
              have hfull := full_iff h3.ok hm hq
              obtain ⟨of, hof⟩ : ∃ of, fnd (pFull c) bs = of := ⟨_, rfl⟩
              rw [hof] at hfull
              have HM := Lib.hid hm
              have HTK := Lib.hid htk
              have HOF := Lib.hid hof
              have HY := Lib.hid hy
              have HYL := Lib.hid hyl
              have HT2 := Lib.hid ht2
              have hfd : decide (0 < q) = true := decide_eq_true hq
              have HFD := Lib.hid hfd
              have hyi : (y.items.length : Int) = (q : Int) := by omega
              have kz : ((q : Int) == 0) = false := by simp; omega
              have kf : of.isSome = ((q : Int) == (c : Int)) := by rw [hfull, beq_nat]
              have hz2 : (0 : Int) < (tot bs : Int) := by omega
              clear hm htk hof hfull hy hyl ht2 hfd
              go_wp2_with fail
              refine h3.len.mono ?_
              rintro e w4 ⟨rfl, h4, _⟩
              clear h3
              go_wp2_with fail
              refine h4.len.mono ?_
              rintro e w5 ⟨rfl, h5, _⟩
              clear h4
              go_wp2_with fail
              refine (h5.full_to HOF.out).mono ?_
              rintro e w6 ⟨rfl, h6, _⟩
              clear h5
              go_wp2_with fail
              refine (h6.fullest_to (f := true) HM.out HFD.out).mono ?_
              rintro e w7 ⟨rfl, h7, _⟩
              clear h6
              go_wp2_with fail
              refine (h7.take_to HTK.out).mono ?_
              rintro e w8 ⟨A8, c8, rfl, _, _, h8, _⟩
              clear h7
              have d1 := A1.out _ _ _ _ _ h8
              have ht3 : tot (bs.set i ⟨nul, []⟩) = tot bs - q := by have := HT2.out; omega
              have hsub : ((tot bs - q : Nat) : Int) = (tot bs : Int) - (q : Int) := by omega
              rw [HYL.out]
              go_wp2_with fail
              refine (h8.len_to ht3).mono ?_
              rintro e w9 ⟨rfl, h9, _⟩
              have HE := Lib.hid (rel2_next HM.out HY.out HYL.out (by omega) HT.out h9)
              clear h8 ht3 d1
              rw [hsub]
              go_wp2
              go_roundg (gk - q)
              case measure => have := HT.out; omega
              case rel => exact HE.out

theorem own : ownKnob Try.prog.godebug = none := by kernel_rfl
theorem laidOut : laidOutB Try.prog = true := by kernel_rfl

set_option maxRecDepth 100000 in
theorem lifted (os : Os) (started : os.Started) (H : Type) (enc : TypeId × Value → H) :
    ReturnsInHanded {} Try.checked os 7 .any (Rows.sorterMostSpec.pre6 enc Try.prog Try.f7 Rows.sorterMostRow.domain false) (Rows.sorterMostSpec.post enc Try.prog Try.f7 false true false false) := by
  refine returnsInHanded_of_change (C := Try.checked) own started (by kernel_rfl) Try.func7
    (ChangeSpec.witness6 (enc := enc) (C := Try.checked) false ⟨#[], #[.agg #[.int .i64 0, .int .i64 0, .slice none 0 0]], []⟩ 8 (by kernel_rfl) (by kernel_rfl) (by kernel_rfl) (by kernel_rfl)) ?_
  intro W base args ds gs before hval0 hW hcnd _
  have hval : ∀ (j : Nat) t v, Try.f7.params[j]? = some t → args[j]? = some v → Value.okWide Try.prog W .any base t v := hval0
  have hW' := hW
  obtain ⟨p, q, hA0, hV, rfl, hfz, hnd⟩ := hW
  have hA : DataW.TrodAll enc Try.prog W 0 (fun _ => true) true Try.f7.params.toList args.toList ds p := hA0
  rw [Try.params7] at hA hval
  obtain ⟨v0, vs0, d0, ds0, p0, q0, hargs, rfl, rfl, h0, r0⟩ := trodAll_cons hA
  obtain ⟨rfl, rfl, rfl⟩ := trodAll_nil r0
  obtain rfl : args = #[v0] := by cases args; simp_all
  obtain ⟨rfl, rfl⟩ := trodVars_none hV
  have k0 := h0
  have lt0 : ∀ x ∈ p0, x.block < W.heap.size := by obtain ⟨m, hm⟩ := k0; exact DataW.trod_lt m _ _ _ hm
  have ok0 := hval 0 24 v0 rfl rfl
  obtain ⟨x0, rfl, hx0⟩ := open_script ok0 h0
  clear hA0 hval0
  refine (walk x0 W hx0).mono fun e W' ⟨he, bel⟩ => ?_
  subst he
  exact ⟨_, rfl, _, _, _, [], _, [], hW', trodAll_mk1 (shut_bool Try.underlying4 _), (trodAll_cons_mk (Below.trod laidOut (by kernel_rfl) (of_decide_eq_true (by kernel_rfl)) k0 bel lt0) trodAll_mk0), rfl, bel.frame _, fun h => by cases h⟩

theorem over : Rows.sorterMostRow.holds Try.pinned (OpenSpec.ofChange Rows.sorterMostSpec) :=
  OpenClaim.holds_of_wide 7 Try.f7 rfl rfl rfl rfl rfl rfl rfl ⟨rfl, rfl, rfl, rfl, rfl⟩ rfl rfl rfl rfl rfl (by kernel_rfl) Try.func7 (by kernel_rfl)
    (of_decide_eq_true (by kernel_rfl)) (by unfold Func.isWrapper; first | (rw [if_pos (by decide +kernel)]; kernel_rfl) | (rw [if_neg (by decide +kernel)]; exact ⟨rfl, rfl⟩))
    (fun os started H enc _ => lifted os started H enc)

theorem proved : Rows.SorterMostSaid := over
end Go.Proofs.Yteokognbnilkmaa.sorterMost
