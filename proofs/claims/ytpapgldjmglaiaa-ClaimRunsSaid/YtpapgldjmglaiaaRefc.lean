/-
  The walks of the reference's Claim and of the law's should.
-/
import Derived.Test.YtpapgldjmglaiaaRefb
import Derived.IntWalk
namespace Go.Proofs.Ytpapgldjmglaiaa
open Go.RowKit
attribute [local go_sem ↓] Go.wp_at_zero Go.wp_at_succ

theorem drest_le (lo : Int) : ∀ (l : List Cr) (V : Int), 0 ≤ V → (∀ e ∈ l, 0 ≤ e.2) → drest lo V l ≤ V
  | [], _, _, _ => Int.le_refl _
  | a :: l, V, hV, h => by
    have ha := h a (by simp)
    have h' : ∀ e ∈ l, 0 ≤ e.2 := fun e he => h e (by simp [he])
    unfold drest
    split
    · have := drest_le lo l (V - min V a.2) (by omega) h'
      omega
    · exact drest_le lo l V hV h'

set_option maxRecDepth 100000 in
set_option maxHeartbeats 4000000 in
theorem rclaim_any (a : Ac) (K : Nat) (KR : Nat → Prop) (A : Option Addr) (n cap : Nat) (l : List Cr) (per vol : Int) (w : World) (h : RC w A n l) (hr : RL a l) (ok : a.Ok K) (hK : ∀ i, InA A i → KR i) (hn : n ≤ 150) :
    Calls Try.prog 19 #[rv a A n cap, .int .i64 per, .int .i64 vol] w (CE w KR n (a.claim per vol)) := by
  obtain ⟨i0, hi0, hz0, hz1, hz2⟩ := info_parts info53
  have hl := h.1
  have H := Lib.hid h
  have HR := Lib.hid hr
  have OK := Lib.hid ok
  have HK := Lib.hid hK
  have bx := Box2.new w (.int .i64 a.F) (.int .i64 a.P) (.int .i64 a.T) (.int .i64 a.cr) (.int .i64 a.cl) (.slice A n cap)
  have BX := Lib.hid bx
  have h25 := Lib.hid (fun W => rcheck_any a A n cap per vol W)
  have h21 := Lib.hid (fun W (hW : Same w W) => rleft_any a K A n cap l per W (H.out.same hW) HR.out OK.out)
  clear h hr ok hK bx
  unfold rv rcs at h25 h21 ⊢
  by_cases hc : a.check per vol = 0
  · obtain ⟨q1, q2, q3, q4, q5⟩ := check_zero (by simpa using hc)
    by_cases hq : vol > a.left per
    · have e : a.claim per vol = (a, 23) := by unfold Ac.claim; rw [if_neg (by simpa using hc), if_pos hq]
      rw [e]
      have HC := Lib.hid hc
      clear hc e
      go_enter Try.func19, Try.ntmps19
      go_wp2_with fail
      refine (h25.out _).mono ?_
      rintro e w1 ⟨rfl, hs1⟩
      rw [HC.out]
      have b1 := BX.out.to hs1
      clear h25 BX hs1
      obtain ⟨⟨d0, d1, d2, d3, d4, d5⟩, _⟩ := b1.b0.cells6
      go_wp2_with fail
      refine (h21.out _ b1.same).mono ?_
      rintro e w2 ⟨rfl, hs2⟩
      have b2 := b1.to hs2
      clear d0 d1 d2 d3 d4 d5 b1 hs2 h21
      obtain ⟨⟨d0, d1, d2, d3, d4, d5⟩, _⟩ := b2.b0.cells6
      obtain ⟨⟨e0, e1, e2, e3, e4, e5⟩, ⟨z0, z1, z2, z3, z4, z5⟩, d6⟩ := b2.b1.cells6
      have B1 := Lib.hid b2
      clear b2
      go_wp2
      have hs9 := B1.out.done (.int .i64 a.F) (.int .i64 a.P) (.int .i64 a.T) (.int .i64 a.cr) (.int .i64 a.cl) (.slice A n cap)
      have n9 := (B1.out.b1.six (.int .i64 a.F) (.int .i64 a.P) (.int .i64 a.T) (.int .i64 a.cr) (.int .i64 a.cl) (.slice A n cap)).cells6.1
      unfold six at hs9 n9
      generalize (((((w2.setCell ⟨w.heap.size + 1, 0, none⟩ (.int .i64 a.F)).setCell ⟨w.heap.size + 1, 1, none⟩ (.int .i64 a.P)).setCell ⟨w.heap.size + 1, 2, none⟩ (.int .i64 a.T)).setCell ⟨w.heap.size + 1, 3, none⟩ (.int .i64 a.cr)).setCell ⟨w.heap.size + 1, 4, none⟩ (.int .i64 a.cl)).setCell ⟨w.heap.size + 1, 5, none⟩ (.slice A n cap) = W9 at hs9 n9 ⊢
      obtain ⟨y0, y1, y2, y3, y4, y5⟩ := n9
      exact bodyPost_ret (v := .tuple #[rv a A n cap, .int .i64 23]) (by simp [results, Try.results19, go_sem, rv, rcs, y0, y1, y2, y3, y4, y5]) rfl ⟨A, n, cap, l, rfl, hs9, H.out.same hs9, HR.out, by omega, fun i hi => .inl (HK.out i hi)⟩
    · have E : Hid (a.claim per vol = ({ a with T := per, f := drain a.f (per - a.P + 1) a.P.toNat vol, cl := a.cl + vol }, 0)) := by unfold Hid Ac.claim; rw [if_neg (by simpa using hc), if_neg hq]
      have RL2 := Lib.hid (HR.out.claim (cl := a.cl + vol) OK.out q1 q3 q4)
      have tq : decide (a.left per < vol) = false := by simpa using hq
      have HC := Lib.hid hc
      have p1 := OK.out.p1
      have p2 := OK.out.p2
      have o2 := OK.out.c0
      have o3 : a.cl ≤ 225179981368524800 := by have := OK.out.bd 0 (a.T + 1).toNat; have := OK.out.tot; have := OK.out.c1; have := OK.out.kk; omega
      obtain ⟨lo, hlo⟩ : ∃ lo, per - a.P + 1 = lo := ⟨_, rfl⟩
      rw [hlo] at E RL2
      have HON := Lib.hid (fun k e => HR.out.one OK.out (k := k) (e := e))
      have HLO := Lib.hid (fun k e (he : l[k]? = some e) => And.intro (HR.out.lo e (List.mem_of_getElem? he)) OK.out.t2)
      have HDM := Lib.hid (fun k => drl_mem lo (l.take k) vol q4 (fun e he => HR.out.nn e (List.mem_of_mem_take he)))
      have HDL := Lib.hid (fun k => drest_le lo (l.take k) vol q4 (fun e he => HR.out.nn e (List.mem_of_mem_take he)))
      generalize hPost : CE w KR n (a.claim per vol) = Post
      have HPost := Lib.hid hPost
      have HLOE := Lib.hid hlo
      clear hc hPost hlo
      go_enter Try.func19, Try.ntmps19
      go_wp2_with fail
      refine (h25.out _).mono ?_
      rintro e w1 ⟨rfl, hs1⟩
      rw [HC.out]
      have b1 := BX.out.to hs1
      clear h25 BX hs1
      obtain ⟨⟨d0, d1, d2, d3, d4, d5⟩, _⟩ := b1.b0.cells6
      go_wp2_with fail
      refine (h21.out _ b1.same).mono ?_
      rintro e w2 ⟨rfl, hs2⟩
      have b2 := b1.to hs2
      clear d0 d1 d2 d3 d4 d5 b1 hs2 h21
      obtain ⟨⟨d0, d1, d2, d3, d4, d5⟩, _⟩ := b2.b0.cells6
      have hzz := b2.b1.lt
      have hbl := b2.b0.lt
      have RD := Lib.hid ((H.out.same b2.same).reads.alloc (Nat.le_refl _) (.cells #[] 53))
      have B2 := Lib.hid b2
      clear b2
      go_upto_region 7 with (at_builtin; refine wpList_append_any _ rfl (.tmp 27) (.tmp 29) 28 rfl w2.heap.size 53 i0 _ 2 16 Try.underlying28 hi0 hz0 hz1 hz2 rfl (by decide) (.slice (some ⟨w2.heap.size, 0, none⟩) 0 0) 0 [] rfl (own_empty53 w2 w2.heap.size (Nat.le_refl _)) w2.heap.size A n cap (cellsC l) rfl RD.out (cellsC_one _) (by unfold maxLen; omega) (by omega) (by simp) ?_; intro v3 w3 hown3 hgr3 hat3; have s3 : Same w2 w3 := same_grown (Fr.alloc (Same.refl w2) _) hgr3 (fun g e => by cases e; exact Nat.le_refl _); have HO3 := Lib.hid hown3; clear hown3 hgr3 hat3; obtain ⟨A3, cap3, hv3, _, _⟩ := row_formN HO3.out; subst hv3; have b3 := B2.out.to s3; clear d0 d1 d2 d3 d4 d5)
      have HL0 : Hid (LR w a A n cap lo vol l (.slice A3 n cap3) w2.heap.size 0 w3) := by
        have ho := HO3.out
        rw [Nat.zero_add, List.nil_append] at ho
        exact ⟨by simpa [drl] using ho, b3⟩
      have HB : Hid (w.heap.size + 1 + 1 ≤ w2.heap.size) := by unfold Hid; omega
      generalize w2.heap.size = base at HL0 HB
      clear RD HO3 s3 b3 B2 hzz hbl
      go_wp2
      go_loopw [10, 11] (fun r i wr => ∃ k : Nat, k ≤ n ∧ i = .int .i64 k ∧ r = .int .i64 (drest lo vol (l.take k)) ∧ LR w a A n cap lo vol l (.slice A3 n cap3) base k wr) (fun _ i _ => n - (intOf i).toNat)
      case atStart => exact ⟨0, by omega, rfl, rfl, HL0.out⟩
      case round =>
        obtain ⟨k, hk, rfl, rfl, hL⟩ := hrel
        clear HL0
        obtain ⟨⟨d0, d1, d2, d3, d4, d5⟩, ⟨z0, z1, z2, z3, z4, z5⟩, d6⟩ := hL.bx.b0.cells6
        by_cases hlt : k < n
        · obtain ⟨e, he⟩ : ∃ e, l[k]? = some e := ⟨l[k]'(by omega), List.getElem?_eq_getElem _⟩
          obtain ⟨g, hA, c0, c1, cf, hbg, hgl⟩ := hL.get he
          subst hA
          have hdr := (HDM.out k).2.2
          have i1 : (0 : Int) ≤ (k : Int) := by omega
          have i2 : (k : Int) < (n : Int) := by omega
          obtain ⟨v1, v2⟩ := HON.out k _ he
          obtain ⟨⟨x1, x2⟩, x3⟩ := HLO.out k _ he
          have hle := HLOE.out
          by_cases hin : lo ≤ e.1
          · have ht := (drl_take (V := vol) he hin).2.1
            have HT := Lib.hid ht
            have HTK := Lib.hid (fun W hs u hu => hL.take (wr' := W) HB.out he hin hs (u := u) hu)
            have hcmp : per < e.1 + a.P := by omega
            obtain ⟨q, v⟩ := e
            simp only at c0 c1 v1 v2 x1 x2 hin hcmp HT HTK
            have hdv : drest lo vol (l.take k) ≤ vol := HDL.out k
            generalize drest lo vol (l.take k) = s at hdr HT HTK hdv
            have wr1 : IntKind.i64.wrap (q + a.P) = q + a.P := IntWalk.i64_in _ (by omega)
            clear ht he hL hle
            go_upto_region 11 with fail
            go_quiet (fail)
            clear wr1
            by_cases hu : v < s
            · have HE1 : Hid (drest lo vol (l.take (k + 1)) = s - v) := by unfold Hid; rw [HT.out]; omega
              have HE2 := Lib.hid (HTK.out (wr.drewN nq) (Same.drewN wr nq) 0 (by omega))
              clear HT HTK
              go_wp2
              go_roundw
              case rel => exact ⟨k + 1, by omega, by go_num, by rw [HE1.out], HE2.out⟩
              case measure => simp [intOf]; omega
            · have hu1 : s ≤ v := by omega
              have HE1 : Hid (drest lo vol (l.take (k + 1)) = 0) := by unfold Hid; rw [HT.out]; omega
              have HE2 := Lib.hid (HTK.out (wr.drewN nq) (Same.drewN wr nq) (v - s) (by omega))
              clear HT HTK
              go_wp2
              go_roundw
              case rel => exact ⟨k + 1, by omega, by go_num, by rw [HE1.out], HE2.out⟩
              case measure => simp [intOf]; omega
          · have ht := (drl_step (V := vol) he hin).2
            have HT := Lib.hid ht
            have HSP := Lib.hid (fun W hs => hL.step (wr' := W) he hin hs)
            have hcmp : ¬ per < e.1 + a.P := by omega
            obtain ⟨q, v⟩ := e
            simp only at c0 c1 v1 v2 x1 x2 hin hcmp HT HSP
            have wr1 : IntKind.i64.wrap (q + a.P) = q + a.P := IntWalk.i64_in _ (by omega)
            clear ht he hL hle
            go_upto_region 11 with fail
            go_quiet (fail)
            clear wr1
            have HE2 := Lib.hid (HSP.out (wr.drewN nq) (Same.drewN wr nq))
            clear HSP
            go_wp2
            go_roundw
            case rel => exact ⟨k + 1, by omega, by go_num, by rw [HT.out], HE2.out⟩
            case measure => simp [intOf]; omega
        · obtain rfl : k = n := by omega
          have hown := hL.own
          rw [List.take_of_length_le (by omega), List.drop_eq_nil_of_le (by omega), List.append_nil] at hown
          obtain ⟨⟨e0, e1, e2, e3, e4, e5⟩, ⟨y0, y1, y2, y3, y4, y5⟩, y6⟩ := hL.bx.b1.cells6
          have B3 := Lib.hid hL.bx
          have HOW := Lib.hid hown
          clear hL hown
          go_wp2
          have ff : Fr (fun i => i = w.heap.size) wr (((wr.setCell ⟨w.heap.size, 5, none⟩ (.slice A3 k cap3)).setCell ⟨w.heap.size, 2, none⟩ (.int .i64 per)).setCell ⟨w.heap.size, 4, none⟩ (.int .i64 (a.cl + vol))) :=
            Fr.setCell (Fr.setCell (Fr.setCell (Fr.refl (fun i => i = w.heap.size) wr) ⟨w.heap.size, 5, none⟩ _ (.inl rfl)) ⟨w.heap.size, 2, none⟩ _ (.inl rfl)) ⟨w.heap.size, 4, none⟩ _ (.inl rfl)
          have hfin := B3.out.fin ff (.int .i64 a.F) (.int .i64 a.P) (.int .i64 per) (.int .i64 a.cr) (.int .i64 (a.cl + vol)) (.slice A3 k cap3)
          unfold six at hfin
          generalize (((((((((wr.setCell ⟨w.heap.size, 5, none⟩ (.slice A3 k cap3)).setCell ⟨w.heap.size, 2, none⟩ (.int .i64 per)).setCell ⟨w.heap.size, 4, none⟩ (.int .i64 (a.cl + vol))).setCell ⟨w.heap.size + 1, 0, none⟩ (.int .i64 a.F)).setCell ⟨w.heap.size + 1, 1, none⟩ (.int .i64 a.P)).setCell ⟨w.heap.size + 1, 2, none⟩ (.int .i64 per)).setCell ⟨w.heap.size + 1, 3, none⟩ (.int .i64 a.cr)).setCell ⟨w.heap.size + 1, 4, none⟩ (.int .i64 (a.cl + vol))).setCell ⟨w.heap.size + 1, 5, none⟩ (.slice A3 k cap3)) = W9 at hfin ⊢
          obtain ⟨hs9, f9, k0, k1, k2, k3, k4, k5⟩ := hfin
          refine bodyPost_ret (v := .tuple #[rv { a with T := per, f := drain a.f lo a.P.toNat vol, cl := a.cl + vol } A3 k cap3, .int .i64 0]) (by simp [results, Try.results19, go_sem, rv, rcs, k0, k1, k2, k3, k4, k5]) rfl ?_
          rw [← HPost.out, E.out]
          obtain ⟨A4, cap4, hv4, hrc, hin⟩ := RC.of_own HOW.out (by rw [drl_len]; exact hl) (by omega)
          cases hv4
          have z9 := f9.size
          have hbb := HB.out
          refine ⟨A3, k, cap3, _, rfl, hs9, hrc.fr f9 (fun i hi e => ?_), RL2.out, by omega, fun i hi => ?_⟩
          · have := hin i hi
            omega
          · have := hin i hi
            exact .inr ⟨by omega, by omega⟩
  · have e : a.claim per vol = (a, a.check per vol) := by unfold Ac.claim; rw [if_pos hc]
    rw [e]
    have k1 : (a.check per vol != 0) = true := by simpa using hc
    clear e hc
    generalize a.check per vol = cd at k1 h25 ⊢
    go_enter Try.func19, Try.ntmps19
    go_wp2_with fail
    refine (h25.out _).mono ?_
    rintro e w1 ⟨rfl, hs1⟩
    have b1 := BX.out.to hs1
    clear h25 BX hs1
    obtain ⟨⟨d0, d1, d2, d3, d4, d5⟩, _⟩ := b1.b0.cells6
    obtain ⟨⟨e0, e1, e2, e3, e4, e5⟩, ⟨z0, z1, z2, z3, z4, z5⟩, d6⟩ := b1.b1.cells6
    have B1 := Lib.hid b1
    clear b1
    go_wp2
    have hs9 := B1.out.done (.int .i64 a.F) (.int .i64 a.P) (.int .i64 a.T) (.int .i64 a.cr) (.int .i64 a.cl) (.slice A n cap)
    have n9 := (B1.out.b1.six (.int .i64 a.F) (.int .i64 a.P) (.int .i64 a.T) (.int .i64 a.cr) (.int .i64 a.cl) (.slice A n cap)).cells6.1
    unfold six at hs9 n9
    generalize (((((w1.setCell ⟨w.heap.size + 1, 0, none⟩ (.int .i64 a.F)).setCell ⟨w.heap.size + 1, 1, none⟩ (.int .i64 a.P)).setCell ⟨w.heap.size + 1, 2, none⟩ (.int .i64 a.T)).setCell ⟨w.heap.size + 1, 3, none⟩ (.int .i64 a.cr)).setCell ⟨w.heap.size + 1, 4, none⟩ (.int .i64 a.cl)).setCell ⟨w.heap.size + 1, 5, none⟩ (.slice A n cap) = W9 at hs9 n9 ⊢
    obtain ⟨y0, y1, y2, y3, y4, y5⟩ := n9
    exact bodyPost_ret (v := .tuple #[rv a A n cap, .int .i64 cd]) (by simp [results, Try.results19, go_sem, rv, rcs, y0, y1, y2, y3, y4, y5]) rfl ⟨A, n, cap, l, rfl, hs9, H.out.same hs9, HR.out, by omega, fun i hi => .inl (HK.out i hi)⟩

set_option maxRecDepth 100000 in
set_option maxHeartbeats 1000000 in
theorem should_any (a : Ac) (K : Nat) (KR : Nat → Prop) (A : Option Addr) (n cap : Nat) (l : List Cr) (c : Bool) (per vol : Int) (w : World) (h : RC w A n l) (hr : RL a l) (ok : a.Ok K) (hK : ∀ i, InA A i → KR i) (hKl : ∀ i, KR i → i < w.heap.size) (hn : n ≤ 150) :
    Calls Try.prog 11 #[rv a A n cap, .agg #[.bool c, .int .i64 per, .int .i64 vol]] w (CE w KR n (a.step c per vol)) := by
  have H := Lib.hid h
  have hs2 : Same w (((w.alloc (.cells #[.int .i64 a.F, .int .i64 a.P, .int .i64 a.T, .int .i64 a.cr, .int .i64 a.cl, .slice A n cap] 30)).alloc (.cells #[.bool c, .int .i64 per, .int .i64 vol] 36)).alloc (.cells #[.int .i64 0, .int .i64 0, .int .i64 0, .int .i64 0, .int .i64 0, .slice none 0 0] 30)) := (((Fr.refl _ _).alloc _).alloc _).alloc _
  have b2 := Blk.new ((w.alloc (.cells #[.int .i64 a.F, .int .i64 a.P, .int .i64 a.T, .int .i64 a.cr, .int .i64 a.cl, .slice A n cap] 30)).alloc (.cells #[.bool c, .int .i64 per, .int .i64 vol] 36)) 30 #[.int .i64 0, .int .i64 0, .int .i64 0, .int .i64 0, .int .i64 0, .slice none 0 0]
  simp only [World.size_alloc] at b2
  obtain ⟨x, hx⟩ : ∃ x, a.step c per vol = x := ⟨_, rfl⟩
  have h19 := Lib.hid (fun W (hW : Same w W) => rclaim_any a K KR A n cap l per vol W (H.out.same hW) hr ok hK hn)
  have h20 := Lib.hid (fun W (hW : Same w W) => rcredit_any a K KR A n cap l per vol W (H.out.same hW) hr ok hK hn)
  have HX : Hid ((if c then a.claim per vol else a.credit per vol) = x) := hx
  rw [hx]
  have HS2 := Lib.hid hs2
  have B2 := Lib.hid b2
  unfold rv rcs at h19 h20 ⊢
  have fin : Hid (∀ (w5 : World) (A5 : Option Addr) (n5 cap5 : Nat) (l5 : List Cr), Same (((w.alloc (.cells #[.int .i64 a.F, .int .i64 a.P, .int .i64 a.T, .int .i64 a.cr, .int .i64 a.cl, .slice A n cap] 30)).alloc (.cells #[.bool c, .int .i64 per, .int .i64 vol] 36)).alloc (.cells #[.int .i64 0, .int .i64 0, .int .i64 0, .int .i64 0, .int .i64 0, .slice none 0 0] 30)) w5 → RC w5 A5 n5 l5 → RL x.1 l5 → n5 ≤ n + 1 → (∀ i, InA A5 i → KR i ∨ ((((w.alloc (.cells #[.int .i64 a.F, .int .i64 a.P, .int .i64 a.T, .int .i64 a.cr, .int .i64 a.cl, .slice A n cap] 30)).alloc (.cells #[.bool c, .int .i64 per, .int .i64 vol] 36)).alloc (.cells #[.int .i64 0, .int .i64 0, .int .i64 0, .int .i64 0, .int .i64 0, .slice none 0 0] 30)).heap.size ≤ i ∧ i < w5.heap.size)) →
      (∀ i, KR i → i < w.heap.size) →
      CE w KR n x (.returned (.tuple #[rv x.1 A5 n5 cap5, .int .i64 x.2])) (six w5 (w.heap.size + 1 + 1) (.int .i64 x.1.F) (.int .i64 x.1.P) (.int .i64 x.1.T) (.int .i64 x.1.cr) (.int .i64 x.1.cl) (.slice A5 n5 cap5))) := fun w5 A5 n5 cap5 l5 hs hrc hrl hn5 hin hkr => by
    have f := fr6 w5 (w.heap.size + 1 + 1) (.int .i64 x.1.F) (.int .i64 x.1.P) (.int .i64 x.1.T) (.int .i64 x.1.cr) (.int .i64 x.1.cl) (.slice A5 n5 cap5)
    have hz := f.size
    simp only [World.size_alloc] at hin
    refine ⟨A5, n5, cap5, l5, rfl, fr_trans2 (Fr.trans HS2.out hs) f (fun i hi e => by omega), hrc.fr f (fun i hi e => ?_), hrl, hn5, fun i hi => ?_⟩
    · rcases hin i hi with h1 | h1
      · have := hkr i h1; omega
      · omega
    · rcases hin i hi with h1 | h1
      · exact .inl h1
      · exact .inr ⟨by omega, by omega⟩
  have HKL := Lib.hid hKl
  clear h hr ok hK hKl hs2 b2 hx
  cases c with
  | true =>
    go_enter Try.func11, Try.ntmps11
    go_wp2_with fail
    refine (h19.out _ HS2.out).mono ?_
    rintro e w5 ⟨A5, n5, cap5, l5, rfl, hs5, hrc, hrl, hn5, hin⟩
    rw [show a.claim per vol = x from HX.out] at hrl ⊢
    have b5 := B2.out.fr hs5 (fun x => x)
    obtain ⟨⟨e0, e1, e2, e3, e4, e5⟩, ⟨z0, z1, z2, z3, z4, z5⟩, d6⟩ := b5.cells6
    have hF := Lib.hid (fin.out w5 A5 n5 cap5 l5 hs5 hrc hrl hn5 hin HKL.out)
    have n9 := (b5.six (.int .i64 x.1.F) (.int .i64 x.1.P) (.int .i64 x.1.T) (.int .i64 x.1.cr) (.int .i64 x.1.cl) (.slice A5 n5 cap5)).cells6.1
    have N9 := Lib.hid n9
    unfold rv rcs
    clear hs5 hrc hrl hn5 hin b5 n9 fin B2 HS2 h19 h20
    go_wp2
    have hF2 := hF.out
    have n9 := N9.out
    unfold six at hF2 n9
    generalize (((((w5.setCell ⟨w.heap.size + 1 + 1, 0, none⟩ (.int .i64 x.1.F)).setCell ⟨w.heap.size + 1 + 1, 1, none⟩ (.int .i64 x.1.P)).setCell ⟨w.heap.size + 1 + 1, 2, none⟩ (.int .i64 x.1.T)).setCell ⟨w.heap.size + 1 + 1, 3, none⟩ (.int .i64 x.1.cr)).setCell ⟨w.heap.size + 1 + 1, 4, none⟩ (.int .i64 x.1.cl)).setCell ⟨w.heap.size + 1 + 1, 5, none⟩ (.slice A5 n5 cap5) = W9 at hF2 n9 ⊢
    obtain ⟨y0, y1, y2, y3, y4, y5⟩ := n9
    exact bodyPost_ret (v := .tuple #[rv x.1 A5 n5 cap5, .int .i64 x.2]) (by simp [results, Try.results11, go_sem, rv, rcs, y0, y1, y2, y3, y4, y5]) rfl hF2
  | false =>
    go_enter Try.func11, Try.ntmps11
    go_wp2_with fail
    refine (h20.out _ HS2.out).mono ?_
    rintro e w5 ⟨A5, n5, cap5, l5, rfl, hs5, hrc, hrl, hn5, hin⟩
    rw [show a.credit per vol = x from HX.out] at hrl ⊢
    have b5 := B2.out.fr hs5 (fun x => x)
    obtain ⟨⟨e0, e1, e2, e3, e4, e5⟩, ⟨z0, z1, z2, z3, z4, z5⟩, d6⟩ := b5.cells6
    have hF := Lib.hid (fin.out w5 A5 n5 cap5 l5 hs5 hrc hrl hn5 hin HKL.out)
    have n9 := (b5.six (.int .i64 x.1.F) (.int .i64 x.1.P) (.int .i64 x.1.T) (.int .i64 x.1.cr) (.int .i64 x.1.cl) (.slice A5 n5 cap5)).cells6.1
    have N9 := Lib.hid n9
    unfold rv rcs
    clear hs5 hrc hrl hn5 hin b5 n9 fin B2 HS2 h19 h20
    go_wp2
    have hF2 := hF.out
    have n9 := N9.out
    unfold six at hF2 n9
    generalize (((((w5.setCell ⟨w.heap.size + 1 + 1, 0, none⟩ (.int .i64 x.1.F)).setCell ⟨w.heap.size + 1 + 1, 1, none⟩ (.int .i64 x.1.P)).setCell ⟨w.heap.size + 1 + 1, 2, none⟩ (.int .i64 x.1.T)).setCell ⟨w.heap.size + 1 + 1, 3, none⟩ (.int .i64 x.1.cr)).setCell ⟨w.heap.size + 1 + 1, 4, none⟩ (.int .i64 x.1.cl)).setCell ⟨w.heap.size + 1 + 1, 5, none⟩ (.slice A5 n5 cap5) = W9 at hF2 n9 ⊢
    obtain ⟨y0, y1, y2, y3, y4, y5⟩ := n9
    exact bodyPost_ret (v := .tuple #[rv x.1 A5 n5 cap5, .int .i64 x.2]) (by simp [results, Try.results11, go_sem, rv, rcs, y0, y1, y2, y3, y4, y5]) rfl hF2

end Go.Proofs.Ytpapgldjmglaiaa
