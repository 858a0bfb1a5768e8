/-
  StockRuns returns true for every list of calls.
-/
import Derived.Test.YtholaaojcpifnaaRefd
import Derived.Deep.RegionHeld3
import Derived.Deep.DrawnRows
namespace Go.Proofs.Ytholaaojcpifnaa.stockRuns
open Go.ChangeShapes Go.WideShapes Go.ChangeAt Go.RowKit
attribute [local go_sem ↓] Go.wp_at_zero Go.wp_at_succ

theorem same_cell {W W' : World} {p : Addr} {v : Value} (hs : Same W W') (h : W.cell? p = some v) : W'.cell? p = some v := by
  have hl := World.block_lt_of_cell? _ _ h
  have e := hs.block p.block hl (fun x => x)
  rw [← h]
  unfold World.cell?
  rw [e]
theorem sb_grow {w0 w w' : World} {K : Nat → Prop} {g r : Nat} {s : Stk} (h : SB w0 K w g r s) (hs : Same w w') : SB w0 (fun i => K i ∨ (w.heap.size ≤ i ∧ i < w'.heap.size)) w' g r s := by
  obtain ⟨v, hv, ho⟩ := h.ex
  have h' := h.same hs
  refine ⟨⟨v, hv.same hs, fun i hi => ⟨(ho i hi).1, fun x => ?_⟩⟩, h'.bel, fun i hi => ?_⟩
  · rcases x with x | x
    · exact (ho i hi).2 x
    · have := hv.lt i hi
      omega
  · rcases hi with x | x
    · exact h'.kl i x
    · exact x.2
theorem re_keep {w w' : World} {K : Nat → Prop} {A : Option Addr} {n : Nat} {s : Stk} (h : RE w A n s) (hf : Fr (fun i => ¬ K i) w w') (hk : 0 < n → ∀ i, InA A i → K i) : RE w' A n s := by
  obtain ⟨h1, h2, h3⟩ := h
  refine ⟨h1, h2, fun k e he => ?_⟩
  obtain ⟨g, o, e1, e2, e3, e4⟩ := h3 k e he
  have hn : 0 < n := by have := (List.getElem?_eq_some_iff.1 he).1; omega
  have hb := hf.block g e4 (fun x => x (hk hn g ⟨o, e1⟩))
  refine ⟨g, o, e1, ?_, ?_, Nat.lt_of_lt_of_le e4 hf.size⟩
  · rw [← e2]; unfold World.cell?; rw [hb]
  · rw [← e3]; unfold World.cell?; rw [hb]

/-- The stock, the reference's entries and the items of a call, beside each other. -/
structure Bd (w0 : World) (K : Nat → Prop) (g r : Nat) (s : Stk) (A X Y : Option Addr) (xs : List Bs) (W : World) : Prop where
  sb : SB w0 K W g r s
  re : RE W A s.length s
  rx : RS W X xs.length xs
  ry : RS W Y xs.length xs
section
variable {w0 W W' : World} {K : Nat → Prop} {g r : Nat} {s : Stk} {A X Y : Option Addr} {xs : List Bs}
theorem Bd.same (hs : Same W W') (h : Bd w0 K g r s A X Y xs W) : Bd w0 K g r s A X Y xs W' := ⟨h.sb.same hs, h.re.same hs, h.rx.same hs, h.ry.same hs⟩
theorem Bd.drew (h : Bd w0 K g r s A X Y xs W) : Bd w0 K g r s A X Y xs W.drew := Bd.same ((Fr.refl _ _).drew) h
end

/-- What holds at the head of each round. -/
def Rel (w : World) (g r len : Nat) (t i : Value) (wr : World) : Prop :=
  ∃ (k : Nat) (s : Stk) (K : Nat → Prop) (A : Option Addr) (cap : Nat), k ≤ len ∧ i = .int .i64 k ∧ t = .slice A s.length cap ∧ SB w K wr g r s ∧ RE wr A s.length s ∧ (0 < s.length → ∀ i, InA A i → K i)

set_option maxRecDepth 100000 in
set_option maxHeartbeats 4000000 in
theorem walk (A : Option Addr) (len cap : Nat) (xs : List OpD) (w : World) (hx : IsOps w A len xs) :
    Calls Try.prog 3 #[.slice A len cap] w fun e w' => e = .returned (.bool true) ∧ Below w.heap.size w w' := by
  have hml := hx.2.1
  have HX := Lib.hid hx
  go_enter Try.func3, Try.ntmps3
  go_wp2_with fail
  refine (small_any A len cap xs w hx).mono ?_
  rintro e w' ⟨b, rfl, rfl, hb⟩
  clear hx
  cases b with
  | false =>
    clear hb
    go_wp2_with fail
    refine (awake_any _).mono ?_
    rintro e w2 ⟨rfl, hb2⟩
    go_wp2
    go_ret
    exact ⟨rfl, hb2⟩
  | true =>
    have hlen := hb rfl
    clear hb
    go_wp2_with fail
    refine (new_sb w).mono ?_
    rintro e w1 ⟨rfl, h1⟩
    have hR : Rel w (w.heap.size + 1) w.heap.size len (.slice none 0 0) (.int .i64 0) w1 := ⟨0, [], _, none, 0, by omega, rfl, rfl, h1, ⟨rfl, by simp, fun k e he => by simp at he⟩, fun h => by simp at h⟩
    clear h1
    go_wp2
    go_loopw [4, 5] (fun t i wr => Rel w (w.heap.size + 1) w.heap.size len t i wr) (fun _ i _ => len - (intOf i).toNat)
    case atStart => exact hR
    case round =>
      obtain ⟨k, s, K, Ar, cr, hk, rfl, rfl, h1, re, hK⟩ := hrel
      clear hR
      have hbel := h1.bel
      by_cases hlt : k < len
      · obtain ⟨x, hxk⟩ : ∃ x, xs[k]? = some x := ⟨xs[k]'(by rw [HX.out.1]; exact hlt), List.getElem?_eq_getElem _⟩
        obtain ⟨b, o, rfl, hbl, hc0, hc1, hc2, hwf⟩ := HX.out.2.2 k x hxk
        have e0 := (hbel.cell (p := ⟨b, o + k * 3, none⟩) hbl).trans hc0
        have e1 := (hbel.cell (p := ⟨b, o + k * 3 + 1, none⟩) hbl).trans hc1
        have e2 := (hbel.cell (p := ⟨b, o + k * 3 + 2, none⟩) hbl).trans hc2
        have hal : Same wr (wr.alloc (.cells #[.int .u8 x.kind, .string x.item, .string x.order] 29)) := (Fr.refl _ _).alloc _
        have bo := Blk.new wr 29 #[.int .u8 x.kind, .string x.item, .string x.order]
        have h2 := sb_grow h1 hal
        have re2 := re.same hal
        have ok := h1.ok
        clear hc0 hc1 hc2 hxk h1 re
        generalize hK2 : (fun i => K i ∨ (wr.heap.size ≤ i ∧ i < (wr.alloc (.cells #[.int .u8 x.kind, .string x.item, .string x.order] 29)).heap.size)) = K2 at h2
        have kk : ∀ i, K i → K2 i := by rw [← hK2]; exact fun i hi => .inl hi
        have ko : K2 wr.heap.size := by rw [← hK2]; exact .inr ⟨Nat.le_refl _, by simp⟩
        have HKK := Lib.hid kk
        have HKO := Lib.hid ko
        have HK := Lib.hid hK
        clear hK2 kk ko hK
        go_wp2_with fail
        refine (do_sb x h2).mono ?_
        rintro e w3 ⟨A3, c3, rfl, r3, f3, h3⟩
        have re3 := re_keep re2 f3 (fun hn i hi => HKK.out i (HK.out hn i hi))
        have bo3 := bo.fr f3 (fun hh => hh HKO.out)
        have d0 := bo3.cell 0
        have d1 := bo3.cell 1
        have d2 := bo3.cell 2
        simp at d0 d1 d2
        clear h2 re2 bo f3 e0 e1 e2
        go_wp2_with fail
        refine (likewise_any Ar cr s x w3 ok re3).mono ?_
        rintro e w4 ⟨A4, c4, B4, b4, rfl, re4, r4, s4, l4⟩
        have r34 := r3.same s4
        have h4 := sb_grow h3 s4
        have bo4 := bo3.fr s4 (fun hh => hh)
        have ok4 := h4.ok
        have HL : Hid (0 < (sDo s x).1.length → ∀ i, InA A4 i → (K2 i ∨ InA A3 i) ∨ (w3.heap.size ≤ i ∧ i < w4.heap.size)) := by
          intro hn i hi
          rcases l4 i hi with ⟨hl, hs⟩ | hl
          · exact .inl (.inl (HKK.out i (HK.out (by omega) i hl)))
          · right
            refine ⟨hl, ?_⟩
            obtain ⟨g9, o9, e9, _, _, hlt9⟩ := re4.2.2 0 _ (List.getElem?_eq_getElem hn)
            obtain ⟨o8, e8⟩ := hi
            rw [e8] at e9
            cases e9
            exact hlt9
        generalize hK4 : (fun i => (K2 i ∨ InA A3 i) ∨ (w3.heap.size ≤ i ∧ i < w4.heap.size)) = K4 at h4
        replace HL : Hid (0 < (sDo s x).1.length → ∀ i, InA A4 i → K4 i) := by rw [← hK4]; exact HL
        have bd : Bd w K4 (w.heap.size + 1) w.heap.size (sDo s x).1 A4 A3 B4 (sDo s x).2.2.2 w4 := ⟨h4, re4, r34, r4⟩
        have q1 := bo4.cell 1
        have q2 := bo4.cell 2
        simp at q1 q2
        clear hK4 h3 h4 re3 re4 r3 r34 r4 bo3 bo4 d0 d1 d2 l4 s4
        generalize sDo s x = y at bd HL ok4 ⊢
        obtain ⟨s', code, num, ys⟩ := y
        simp only at bd HL ok4 ⊢
        go_wp2_with fail
        refine (of_sb (x := x.item) bd.sb).mono ?_
        rintro e w' ⟨rfl, rfl⟩
        go_wp2_with fail
        refine (ofr_any A4 _ c4 s' x.item _ bd.re).mono ?_
        rintro e w' ⟨rfl, rfl⟩
        go_wp2
        go_region_held3 (fun W => W.cell? ⟨wr.heap.size, 2, none⟩ = some (.string x.order) ∧ Bd w K4 (w.heap.size + 1) w.heap.size s' A4 A3 B4 ys W)
          (first | exact ⟨q2, Bd.drew bd⟩ | ((try go_split_ands); first | exact ⟨same_cell s14 (by assumption), Bd.same s14 (by assumption)⟩ | exact ⟨same_cell s11 (by assumption), Bd.same s11 (by assumption)⟩ | exact ⟨same_cell s10 (by assumption), Bd.same s10 (by assumption)⟩ | exact ⟨same_cell s13 (by assumption), Bd.same s13 (by assumption)⟩ | exact ⟨same_cell s9 (by assumption), Bd.same s9 (by assumption)⟩ | exact ⟨same_cell s8 (by assumption), Bd.same s8 (by assumption)⟩ | exact ⟨same_cell s12 (by assumption), Bd.same s12 (by assumption)⟩ | exact ⟨by assumption, Bd.drew (by assumption)⟩))
          (first
            | (go_at_call 17; (try go_split_ands); refine (free_sb (Bd.sb (by assumption))).mono ?_; rintro e w8 ⟨A8, c8, rfl, r8, s8, _⟩)
            | (go_at_call 18; (try go_split_ands); refine (freer_rs (Bd.re (by assumption))).mono ?_; rintro e w9 ⟨A9, c9, rfl, r9, s9⟩)
            | (go_at_call 19; (try go_split_ands); refine (held_sb (Bd.sb (by assumption))).mono ?_; rintro e w10 ⟨A10, c10, rfl, r10, s10, _⟩)
            | (go_at_call 20; (try go_split_ands); refine (heldr_rs (Bd.re (by assumption))).mono ?_; rintro e w11 ⟨A11, c11, rfl, r11, s11⟩)
            | (go_at_call 16; (try go_split_ands); refine (same_rs (r10.same s11) r11).mono ?_; rintro e w14 ⟨rfl, s14⟩)
            | (go_at_call 16; (try go_split_ands); refine (same_rs (r8.same s9) r9).mono ?_; rintro e w13 ⟨rfl, s13⟩)
            | (go_at_call 16; (try go_split_ands); refine (same_rs (Bd.rx (by assumption)) (Bd.ry (by assumption))).mono ?_; rintro e w12 ⟨rfl, s12⟩))
        rename_i hHeld
        have HE : Hid (∀ W, Bd w K4 (w.heap.size + 1) w.heap.size s' A4 A3 B4 ys W → Rel w (w.heap.size + 1) w.heap.size len (.slice A4 s'.length c4) (.int .i64 ((k : Int) + 1)) W) := fun W hW => ⟨k + 1, s', K4, A4, c4, by omega, by simp, rfl, hW.sb, hW.re, HL.out⟩
        go_wp2
        go_roundw
        case rel => exact HE.out _ hHeld.2
        case measure => simp [intOf]; omega
      · go_wp2_with fail
        refine (awake_any _).mono ?_
        rintro e w3 ⟨rfl, hb3⟩
        go_wp2
        go_ret
        exact ⟨rfl, hbel.trans (hb3.mono hbel.size)⟩

theorem own : ownKnob Try.prog.godebug = none := by kernel_rfl
theorem laidOut : laidOutB Try.prog = true := by kernel_rfl

set_option maxRecDepth 100000 in
theorem lifted (os : Os) (started : os.Started) (H : Type) (enc : TypeId × Value → H) :
    ReturnsInHanded {} Try.checked os 3 .any (Rows.stockRunsSpec.pre6 enc Try.prog Try.f3 Rows.stockRunsRow.domain false) (Rows.stockRunsSpec.post enc Try.prog Try.f3 false true false false) := by
  refine returnsInHanded_of_change (C := Try.checked) own started (by kernel_rfl) Try.func3
    (ChangeSpec.witness6 (enc := enc) (C := Try.checked) false ⟨#[], #[.slice none 0 0], []⟩ 8 (by kernel_rfl) (by kernel_rfl) (by kernel_rfl) (by kernel_rfl)) ?_
  intro W base args ds gs before hval0 hW hcnd _
  have hval : ∀ (j : Nat) t v, Try.f3.params[j]? = some t → args[j]? = some v → Value.okWide Try.prog W .any base t v := hval0
  have hW' := hW
  obtain ⟨p, q, hA0, hV, rfl, hfz, hnd⟩ := hW
  have hA : DataW.TrodAll enc Try.prog W 0 (fun _ => true) true Try.f3.params.toList args.toList ds p := hA0
  rw [Try.params3] at hA hval
  obtain ⟨v0, vs0, d0, ds0, p0, q0, hargs, rfl, rfl, h0, r0⟩ := trodAll_cons hA
  obtain ⟨rfl, rfl, rfl⟩ := trodAll_nil r0
  obtain rfl : args = #[v0] := by cases args; simp_all
  obtain ⟨rfl, rfl⟩ := trodVars_none hV
  have k0 := h0
  have lt0 : ∀ x ∈ p0, x.block < W.heap.size := by obtain ⟨m, hm⟩ := k0; exact DataW.trod_lt m _ _ _ hm
  have ok0 := hval 0 22 v0 rfl rfl
  obtain ⟨A0, len0, cap0, xs0, rfl, hx0⟩ := open_ops ok0 h0
  clear hA0 hval0
  refine (walk A0 len0 cap0 xs0 W hx0).mono fun e W' ⟨he, bel⟩ => ?_
  subst he
  exact ⟨_, rfl, _, _, _, [], _, [], hW', trodAll_mk1 (shut_bool Try.underlying4 _), (trodAll_cons_mk (Below.trod laidOut (by kernel_rfl) (of_decide_eq_true (by kernel_rfl)) k0 bel lt0) trodAll_mk0), rfl, bel.frame _, fun h => by cases h⟩

theorem over : Rows.stockRunsRow.holds Try.pinned (OpenSpec.ofChange Rows.stockRunsSpec) :=
  OpenClaim.holds_of_wide 3 Try.f3 rfl rfl rfl rfl rfl rfl rfl ⟨rfl, rfl, rfl, rfl, rfl⟩ rfl rfl rfl rfl rfl (by kernel_rfl) Try.func3 (by kernel_rfl)
    (of_decide_eq_true (by kernel_rfl)) (by unfold Func.isWrapper; first | (rw [if_pos (by decide +kernel)]; kernel_rfl) | (rw [if_neg (by decide +kernel)]; exact ⟨rfl, rfl⟩))
    (fun os started H enc _ => lifted os started H enc)

theorem proved : Rows.StockRunsSaid := over
end Go.Proofs.Ytholaaojcpifnaa.stockRuns
