/-
  StockRemoves returns true for every list of calls and all orders.
-/
import Derived.Test.YtholaaojcpifnaaSpread
namespace Go.Proofs.Ytholaaojcpifnaa.stockRemoves
open Go.ChangeShapes Go.WideShapes Go.ChangeAt Go.RowKit

theorem open_str {H : Type} {enc : TypeId × Value → H} {W : World} {b0 : Nat} {r : Reach} {base : Nat} {sp : Nat → Bool} {hd : Bool} {v : Value} {d : DataW H} {p : List MemPlace} (hv : Value.okWide Try.prog W r b0 9 v)
    (h : DataW.Trod enc Try.prog W base sp hd 9 v d p) : ∃ s : Bs, v = .string s ∧ s.size ≤ 9223372036854775807 := by
  obtain ⟨s, rfl⟩ := okWide_string Try.underlying9 hv
  obtain ⟨fuel, hf⟩ := h
  obtain ⟨s', hs, _, hw⟩ := DataW.trod_string Try.underlying9 hf
  simp [Value.cells] at hs
  subst hs
  unfold maxLen at hw
  exact ⟨s, rfl, by omega⟩


/-- What holds at the head of each round of the first loop. -/
def Rel (w w1 : World) (len : Nat) (i : Value) (wr : World) : Prop :=
  ∃ (k : Nat) (s : Stk), k ≤ len ∧ i = .int .i64 k ∧ SB w (fun _ => False) wr (w1.heap.size + 1) w1.heap.size s

/-- What holds at the head of each round of the second loop. fr: the free items; ho: the removed ones. -/
def Rel2 (w : World) (K : Nat → Prop) (g r : Nat) (Af Ao : Option Addr) (fr ho : List Bs) (i : Value) (wr : World) : Prop :=
  ∃ (k : Nat) (t : Stk), i = .int .i64 k ∧ k ≤ ho.length ∧ SB w K wr g r t ∧ RS wr Af fr.length fr ∧ RS wr Ao ho.length ho ∧
    withs t nul = fr ++ ho.take k ∧ t.length + ho.length ≤ 512 + k ∧ ∀ (a : Nat) (x : Bs), k ≤ a → ho[a]? = some x → getG t x = none

theorem rel2_next {w wr w' : World} {K : Nat → Prop} {g r k : Nat} {t : Stk} {Af Ao : Option Addr} {fr ho : List Bs} {x : Bs} (hx : ho[k]? = some x) (hgx : getG t x = none) (hnd : ho.Nodup)
    (hf : RS wr Af fr.length fr) (hh : RS wr Ao ho.length ho) (e1 : withs t nul = fr ++ ho.take k) (e2 : t.length + ho.length ≤ 512 + k)
    (e5 : ∀ (a : Nat) (x : Bs), k ≤ a → ho[a]? = some x → getG t x = none) (kf : ∀ i, InA Af i → K i) (kh : ∀ i, InA Ao i → K i)
    (hS : SB w K w' g r (t ++ [(x, nul)])) (hfr : Fr (fun i => ¬ K i) wr w') :
    Rel2 w K g r Af Ao fr ho (.int .i64 ((k : Int) + 1)) w' := by
  have hlt : k < ho.length := (List.getElem?_eq_some_iff.1 hx).1
  refine ⟨k + 1, t ++ [(x, nul)], by simp, by omega, hS, hf.keep hfr kf, hh.keep hfr kh, ?_, by rw [List.length_append]; simp; omega, fun a y ha hy => ?_⟩
  · rw [withs_new, e1, List.append_assoc]
    congr 1
    have : ho[k] = x := (List.getElem?_eq_some_iff.1 hx).2
    rw [List.take_add_one, hx]
    rfl
  · rw [getG_append t x nul y ((getG_none_iff t x).1 hgx), if_neg ?_]
    · exact e5 a y (by omega) hy
    · intro e
      subst e
      obtain ⟨l1, m1⟩ := List.getElem?_eq_some_iff.1 hx
      obtain ⟨l2, m2⟩ := List.getElem?_eq_some_iff.1 hy
      have := (List.getElem_inj hnd).1 (m1.trans m2.symm)
      omega

set_option maxRecDepth 100000 in
set_option maxHeartbeats 2000000 in
theorem walk (A : Option Addr) (len cap : Nat) (xs : List OpD) (order other : Bs) (w : World) (hx : IsOps w A len xs) (so : order.size ≤ 9223372036854775807) (st : other.size ≤ 9223372036854775807) :
    Calls Try.prog 7 #[.slice A len cap, .string order, .string other] w fun e w' => e = .returned (.bool true) ∧ Below w.heap.size w w' := by
  have hml := hx.2.1
  have HX := Lib.hid hx
  obtain ⟨i0, hi0, hz0, hz1, hz2⟩ := info_parts info9
  go_enter Try.func7, Try.ntmps7
  go_wp2_with fail
  refine (small_any A len cap xs w hx).mono ?_
  rintro e w' ⟨b, rfl, rfl, hb⟩
  clear hx
  cases b with
  | false =>
    clear hb
    go_wp2_with fail
    refine (awake_any _).mono ?_
    rintro e w2 ⟨rfl, hb2⟩
    go_wp2
    go_ret
    exact ⟨rfl, hb2⟩
  | true =>
    have hlen := hb rfl
    clear hb
    by_cases o1 : (order.size : Int) > 100
    · go_wp2_with fail
      refine (awake_any _).mono ?_
      rintro e w2 ⟨rfl, hb2⟩
      go_wp2
      go_ret
      exact ⟨rfl, hb2⟩
    · by_cases o2 : (other.size : Int) > 100
      · go_wp2_with fail
        refine (awake_any _).mono ?_
        rintro e w2 ⟨rfl, hb2⟩
        go_wp2
        go_ret
        exact ⟨rfl, hb2⟩
      · by_cases hoo : order = other
        · have k1 : (order.toList == other.toList) = true := (Lib.bytes_beq_iff order other).2 hoo
          clear hoo
          go_wp2_with fail
          refine (awake_any _).mono ?_
          rintro e w2 ⟨rfl, hb2⟩
          go_wp2
          go_ret
          exact ⟨rfl, hb2⟩
        · have k1 : (order.toList == other.toList) = false := (Lib.bytes_beq_false_iff order other).2 hoo
          have HOO := Lib.hid hoo
          clear hoo
          go_wp2_with fail
          refine (new_sb w).mono ?_
          rintro e w1 ⟨rfl, h1⟩
          have hR : Rel w w len (.int .i64 0) w1 := ⟨0, [], by omega, rfl, h1⟩
          clear h1
          go_wp2
          go_loopw [8] (fun i wr => Rel w w len i wr) (fun i _ => len - (intOf i).toNat)
          case atStart => exact hR
          case round =>
            obtain ⟨k, s, hk, rfl, h1⟩ := hrel
            clear hR
            have hbel := h1.bel
            by_cases hlt : k < len
            · obtain ⟨x, hxk⟩ : ∃ x, xs[k]? = some x := ⟨xs[k]'(by rw [HX.out.1]; exact hlt), List.getElem?_eq_getElem _⟩
              obtain ⟨b, o, rfl, hbl, hc0, hc1, hc2, hwf⟩ := HX.out.2.2 k x hxk
              have e0 := (hbel.cell (p := ⟨b, o + k * 3, none⟩) hbl).trans hc0
              have e1 := (hbel.cell (p := ⟨b, o + k * 3 + 1, none⟩) hbl).trans hc1
              have e2 := (hbel.cell (p := ⟨b, o + k * 3 + 2, none⟩) hbl).trans hc2
              clear hc0 hc1 hc2 hxk
              go_wp2_with fail
              refine (do_sb x h1).mono ?_
              rintro e w3 ⟨A3, c3, rfl, _, f3, h3⟩
              have HE : Hid (Rel w w len (.int .i64 ((k : Int) + 1)) w3) := ⟨k + 1, (sDo s x).1, by omega, by simp, h3.mono fun i hi => hi.elim⟩
              clear h1 h3 f3 e0 e1 e2
              go_wp2
              go_roundw
              case rel => exact HE.out
              case measure => simp [intOf]; omega
            · have ok1 := h1.ok
              clear hbel
              go_wp2_with fail
              refine (held_sb (o := order) h1).mono ?_
              rintro e w2 ⟨Ah, ch, rfl, rh, _, h2⟩
              clear h1
              go_wp2_with fail
              refine (held_sb (o := other) h2).mono ?_
              rintro e w3 ⟨Ar, cr, rfl, rr, s3, h3⟩
              replace rh := rh.same s3
              clear h2 s3
              go_wp2_with fail
              refine (free_sb h3).mono ?_
              rintro e w4 ⟨Af, cf, rfl, rf, s4, h4⟩
              replace rh := rh.same s4
              replace rr := rr.same s4
              clear h3 s4
              go_wp2_with fail
              refine (remove_sb (o := order) h4).mono ?_
              rintro e w5 ⟨Ao, co, rfl, ro, f5, h5⟩
              replace rh := rh.keep f5 (fun i hi => .inl (.inl (.inr hi)))
              replace rr := rr.keep f5 (fun i hi => .inl (.inr hi))
              replace rf := rf.keep f5 (fun i hi => .inr hi)
              clear h4 f5
              go_wp2_with fail
              refine (same_rs ro rh).mono ?_
              rintro e w6 ⟨rfl, s6⟩
              replace rr := rr.same s6
              replace rf := rf.same s6
              replace ro := ro.same s6
              have h6 := h5.same s6
              clear h5 s6 rh
              go_wp2_with fail
              refine (held_to (o := order) h6 (remove_held s order)).mono ?_
              rintro e w7 ⟨A7, c7, rfl, _, s7, h7⟩
              replace rr := rr.same s7
              replace rf := rf.same s7
              replace ro := ro.same s7
              clear h6 s7
              go_wp2_with fail
              refine (held_to (o := other) h7 (remove_other s HOO.out)).mono ?_
              rintro e w8 ⟨A8, c8, rfl, r8, s8, h8⟩
              replace rr := rr.same s8
              replace rf := rf.same s8
              replace ro := ro.same s8
              clear h7 s8
              go_wp2_with fail
              refine (same_rs r8 rr).mono ?_
              rintro e w9 ⟨rfl, s9⟩
              replace rf := rf.same s9
              replace ro := ro.same s9
              have h9 := h8.same s9
              clear h8 s9 rr r8
              go_wp2_with fail
              refine (free_to h9 (remove_free s order)).mono ?_
              rintro e wa ⟨Aa, ca, rfl, ra, sa, ha⟩
              replace rf := rf.same sa
              replace ro := ro.same sa
              clear h9 sa
              go_wp2_with fail
              refine (same_rs ra rf).mono ?_
              rintro e wb ⟨rfl, sb⟩
              replace rf := rf.same sb
              replace ro := ro.same sb
              have hb := ha.same sb
              clear ha sb ra
              have rl := remove_len s order
              have hle := ok1.le
              have KF : Hid (∀ i, InA Af i → (((((((False ∨ InA Ah i) ∨ InA Ar i) ∨ InA Af i) ∨ InA Ao i) ∨ InA A7 i) ∨ InA A8 i) ∨ InA Aa i)) := fun i hi => .inl (.inl (.inl (.inl (.inr hi))))
              have KO : Hid (∀ i, InA Ao i → (((((((False ∨ InA Ah i) ∨ InA Ar i) ∨ InA Af i) ∨ InA Ao i) ∨ InA A7 i) ∨ InA A8 i) ∨ InA Aa i)) := fun i hi => .inl (.inl (.inl (.inr hi)))
              generalize hK : (fun i => ((((((False ∨ InA Ah i) ∨ InA Ar i) ∨ InA Af i) ∨ InA Ao i) ∨ InA A7 i) ∨ InA A8 i) ∨ InA Aa i) = K at hb
              replace KF : Hid (∀ i, InA Af i → K i) := by rw [← hK]; exact KF
              replace KO : Hid (∀ i, InA Ao i → K i) := by rw [← hK]; exact KO
              clear hK
              have HND := Lib.hid (held_nodup ok1 order)
              have HNN := Lib.hid (fun x (hx : x ∈ held s order) => held_ne_nul ok1 hx)
              have hR2 : Rel2 w K (w.heap.size + 1) w.heap.size Af Ao (withs s nul) (held s order) (.int .i64 0) wb :=
                ⟨0, sRemove s order, rfl, by omega, hb, rf, ro, by rw [remove_free]; simp, by omega, fun a x _ hx => by
                  rw [remove_get ok1, if_pos (List.mem_of_getElem? hx)]⟩
              have hfl : (withs s nul).length ≤ 512 := Nat.le_trans (withs_le _ _) ok1.le
              have hhl : (held s order).length ≤ 512 := Nat.le_trans (held_le _ _) ok1.le
              have hfl2 : ((withs s nul).length : Int) ≤ 512 := by omega
              have hhl2 : ((held s order).length : Int) ≤ 512 := by omega
              generalize withs s nul = fr at hR2 hfl hfl2
              generalize held s order = ho at hR2 hhl hhl2 HND HNN
              clear hb rf ro rl hle ok1
              go_wp2
              go_loopw [13] (fun i wr => Rel2 w K (w.heap.size + 1) w.heap.size Af Ao fr ho i wr) (fun i _ => ho.length - (intOf i).toNat)
              case atStart => exact hR2
              case round =>
                obtain ⟨k, t, rfl, hk2, h1, rf, ro, e1, e2, e5⟩ := hrel
                clear hR2
                by_cases hlt2 : k < ho.length
                · obtain ⟨x, hx⟩ : ∃ x, ho[k]? = some x := ⟨ho[k], List.getElem?_eq_getElem hlt2⟩
                  have hgx := e5 k x (Nat.le_refl _) hx
                  obtain ⟨gf, of, hAf, hcf, _⟩ := ro.2.2 k x hx
                  subst hAf
                  have EA := Lib.hid (add_new (HNN.out x (List.mem_of_getElem? hx)) hgx (by omega))
                  have HN := Lib.hid (fun w' hS hfr => rel2_next (g := w.heap.size + 1) (r := w.heap.size) (w := w) (wr := wr) (w' := w') hx hgx HND.out rf ro e1 e2 e5 KF.out KO.out hS hfr)
                  have HG := Lib.hid hgx
                  clear hx hgx e1 e2 e5 rf ro
                  go_wp2_with fail
                  refine (of_to (x := x) (o := nul) (b := false) h1 (by rw [HG.out]; rfl) (by rw [HG.out]; rfl)).mono ?_
                  rintro e w' ⟨rfl, rfl⟩
                  go_wp2_with fail
                  refine (add_to (x := x) h1 EA.out).mono ?_
                  rintro e w8 ⟨rfl, h8, f8⟩
                  have HR := Lib.hid (HN.out w8 h8 f8)
                  clear h1 h8 f8 hcf
                  go_wp2
                  go_roundw
                  case rel => exact HR.out
                  case measure => simp [intOf]; omega
                · have ek : k = ho.length := by omega
                  rw [ek, List.take_length] at e1
                  clear e2 e5
                  go_wp2_with fail
                  refine (free_to h1 e1).mono ?_
                  rintro e w2 ⟨A2, c2, rfl, r2, s2, h2⟩
                  replace rf := rf.same s2
                  replace ro := ro.same s2
                  clear h1 s2
                  have hsum : ((fr ++ ho).length : Int) ≤ 1024 := by rw [List.length_append]; omega
                  have rfr := Lib.hid rf.reads
                  have RO := Lib.hid ro
                  clear rf ro
                  go_wp2_with (first
                    | (at_builtin; refine wpList_append_any _ rfl _ _ 31 rfl w2.heap.size 9 i0 _ 1 16 Try.underlying31 hi0 hz0 hz1 hz2 rfl (by decide) _ _ _ rfl own1.out _ Ao ho.length co (cellsS ho) rfl ro8.out (one_cellsS _) (by unfold maxLen; omega) (by omega) sz8.out ?_; intro v2 w9 own2 g2 b2; have S9 := Lib.hid (same_grown S8.out g2 (fun g hg => own_base own1.out hg)); obtain ⟨A9, c9, rfl, r9⟩ := spread_rs own2 rfl rfl; clear own2 g2 b2)
                    | (at_builtin; refine wpList_append_any _ rfl _ _ 31 rfl w2.heap.size 9 i0 _ 1 16 Try.underlying31 hi0 hz0 hz1 hz2 rfl (by decide) _ 0 [] rfl (own_empty w2) w2.heap.size Af fr.length cf (cellsS fr) rfl (rfr.out.alloc (Nat.le_refl _) _) (one_cellsS _) (by unfold maxLen; omega) (by omega) (by simp) ?_; intro v1 w8 own1 g1 b1; have S8 := Lib.hid (same_grown ((Same.refl w2).alloc _) g1 (fun g hg => own_base (own_empty w2) hg)); have ro8 := Lib.hid ((RO.out.same S8.out).reads); replace own1 := Lib.hid own1; have sz8 := Lib.hid (S8.out.size); clear g1 b1))
                  rw [List.length_append] at r2 r9
                  refine (same_rs (r2.same S9.out) r9).mono ?_
                  rintro e wc ⟨rfl, sc⟩
                  have hc := (h2.same S9.out).same sc
                  clear h2 sc r9
                  go_wp2_with fail
                  refine (awake_any _).mono ?_
                  rintro e wh ⟨rfl, hb6⟩
                  go_wp2
                  go_ret
                  exact ⟨rfl, hc.bel.trans (hb6.mono hc.bel.size)⟩

theorem own : ownKnob Try.prog.godebug = none := by kernel_rfl
theorem laidOut : laidOutB Try.prog = true := by kernel_rfl

set_option maxRecDepth 100000 in
theorem lifted (os : Os) (started : os.Started) (H : Type) (enc : TypeId × Value → H) :
    ReturnsInHanded {} Try.checked os 7 .any (Rows.stockRemovesSpec.pre6 enc Try.prog Try.f7 Rows.stockRemovesRow.domain false) (Rows.stockRemovesSpec.post enc Try.prog Try.f7 false true false false) := by
  refine returnsInHanded_of_change (C := Try.checked) own started (by kernel_rfl) Try.func7
    (ChangeSpec.witness6 (enc := enc) (C := Try.checked) false ⟨#[], #[.slice none 0 0, .string ⟨#[]⟩, .string ⟨#[]⟩], []⟩ 8 (by kernel_rfl) (by kernel_rfl) (by kernel_rfl) (by kernel_rfl)) ?_
  intro W base args ds gs before hval0 hW hcnd _
  have hval : ∀ (j : Nat) t v, Try.f7.params[j]? = some t → args[j]? = some v → Value.okWide Try.prog W .any base t v := hval0
  have hW' := hW
  obtain ⟨p, q, hA0, hV, rfl, hfz, hnd⟩ := hW
  have hA : DataW.TrodAll enc Try.prog W 0 (fun _ => true) true Try.f7.params.toList args.toList ds p := hA0
  rw [Try.params7] at hA hval
  obtain ⟨v0, vs0, d0, ds0, p0, q0, hargs, rfl, rfl, h0, r0⟩ := trodAll_cons hA
  obtain ⟨v1, vs1, d1, ds1, p1, q1, rfl, rfl, rfl, h1, r1⟩ := trodAll_cons r0
  obtain ⟨v2, vs2, d2, ds2, p2, q2, rfl, rfl, rfl, h2, r2⟩ := trodAll_cons r1
  obtain ⟨rfl, rfl, rfl⟩ := trodAll_nil r2
  obtain rfl : args = #[v0, v1, v2] := by cases args; simp_all
  obtain ⟨rfl, rfl⟩ := trodVars_none hV
  have k0 := h0
  have lt0 : ∀ x ∈ p0, x.block < W.heap.size := by obtain ⟨m, hm⟩ := k0; exact DataW.trod_lt m _ _ _ hm
  have ok0 := hval 0 22 v0 rfl rfl
  obtain ⟨A0, len0, cap0, xs0, rfl, hx0⟩ := open_ops ok0 h0
  have k1 := h1
  have lt1 : ∀ x ∈ p1, x.block < W.heap.size := by obtain ⟨m, hm⟩ := k1; exact DataW.trod_lt m _ _ _ hm
  have ok1 := hval 1 9 v1 rfl rfl
  obtain ⟨s1, rfl, hs1⟩ := open_str ok1 h1
  have k2 := h2
  have lt2 : ∀ x ∈ p2, x.block < W.heap.size := by obtain ⟨m, hm⟩ := k2; exact DataW.trod_lt m _ _ _ hm
  have ok2 := hval 2 9 v2 rfl rfl
  obtain ⟨s2, rfl, hs2⟩ := open_str ok2 h2
  clear hA0 hval0
  refine (walk A0 len0 cap0 xs0 s1 s2 W hx0 hs1 hs2).mono fun e W' ⟨he, bel⟩ => ?_
  subst he
  exact ⟨_, rfl, _, _, _, [], _, [], hW', trodAll_mk1 (shut_bool Try.underlying4 _), (trodAll_cons_mk (Below.trod laidOut (by kernel_rfl) (of_decide_eq_true (by kernel_rfl)) k0 bel lt0) (trodAll_cons_mk (Below.trod laidOut (by kernel_rfl) (of_decide_eq_true (by kernel_rfl)) k1 bel lt1) (trodAll_cons_mk (Below.trod laidOut (by kernel_rfl) (of_decide_eq_true (by kernel_rfl)) k2 bel lt2) trodAll_mk0))), rfl, bel.frame _, fun h => by cases h⟩

theorem over : Rows.stockRemovesRow.holds Try.pinned (OpenSpec.ofChange Rows.stockRemovesSpec) :=
  OpenClaim.holds_of_wide 7 Try.f7 rfl rfl rfl rfl rfl rfl rfl ⟨rfl, rfl, rfl, rfl, rfl⟩ rfl rfl rfl rfl rfl (by kernel_rfl) Try.func7 (by kernel_rfl)
    (of_decide_eq_true (by kernel_rfl)) (by unfold Func.isWrapper; first | (rw [if_pos (by decide +kernel)]; kernel_rfl) | (rw [if_neg (by decide +kernel)]; exact ⟨rfl, rfl⟩))
    (fun os started H enc _ => lifted os started H enc)

theorem proved : Rows.StockRemovesSaid := over
end Go.Proofs.Ytholaaojcpifnaa.stockRemoves
