/-
  YardTakes returns true for every size, every list of calls and every item.
-/
import Derived.Test.YtahommgchnbnjaaTwo
namespace Go.Proofs.Ytahommgchnbnjaa.yardTakes
open Go.ChangeShapes Go.WideShapes Go.ChangeAt Go.RowKit
attribute [local go_sem ↓] Go.wp_at_zero Go.wp_at_succ

theorem below_end {w w2 w9 : World} (t : Below w.heap.size w w2) (h : Below w2.heap.size w2 w9) : (Ending.returned (.bool true)) = .returned (.bool true) ∧ Below w.heap.size w w9 := ⟨rfl, t.trans (h.mono t.size)⟩
theorem tot_take {c : Nat} {ys ys' : Ys} {x : Bs} {i m : Nat} {es : List Ent} {e0 : Ent} (h : TakeO c ys x i m es e0 ys') : totK ys' ys'.length + 1 = totK ys ys.length := by
  rw [totK_flat, totK_flat, List.take_length, List.take_length]
  have := h.perm.length_eq
  simpa using this

set_option maxRecDepth 100000 in
set_option maxHeartbeats 8000000 in
theorem walk (n c : Int) (A : Option Addr) (len cap : Nat) (xs : List OpD) (x : Bs) (hw : SizeW n c) (w : World) (hx : IsOps w A len xs) : Calls Try.prog 8 #[SizeV n c, .slice A len cap, .string x] w fun e w' => e = .returned (.bool true) ∧ Below w.heap.size w w' := by
  have hal : Same w (w.alloc (.cells #[.int .i64 n, .int .i64 c] 23)) := (Fr.refl _ _).alloc _
  have HX0 := Lib.hid (hx.same hal.below)
  have hml := hx.2.1
  have hxl := hx.1
  clear hx hw
  unfold SizeV
  go_enter Try.func8, Try.ntmps8
  go_wp2_with fail
  refine (short_any A len cap xs _ HX0.out).mono ?_
  rintro e w1 ⟨bb, rfl, rfl, hb⟩
  have bel0 := hal.below
  cases bb with
  | false =>
    clear hb
    go_wp2_with fail
    refine (awake_any _).mono ?_
    rintro e w9 ⟨rfl, hb9⟩
    go_wp2
    go_ret
    exact below_end bel0 hb9
  | true =>
    have hlen := hb rfl
    clear hb
    by_cases h16 : 16 < n
    · go_wp2_with fail
      refine (awake_any _).mono ?_
      rintro e w9 ⟨rfl, hb9⟩
      go_wp2
      go_ret
      exact below_end bel0 hb9
    · have t16 : decide (16 < n) = false := by simp [h16]
      have BX : Hid (∀ W, Below (w.heap.size + 1) (w.alloc (.cells #[.int .i64 n, .int .i64 c] 23)) W → W.cell? ⟨w.heap.size, 0, none⟩ = some (.int .i64 n) ∧ W.cell? ⟨w.heap.size, 1, none⟩ = some (.int .i64 c)) := fun W hW => by
        have bx := (Blk.new w 23 #[.int .i64 n, .int .i64 c]).below hW (by omega)
        exact ⟨bx.cell 0, bx.cell 1⟩
      by_cases hbad : NewBad n c
      · have HP := Lib.hid (fun W => play_bad n c A len cap W hbad)
        have q0 : (w.alloc (.cells #[.int .i64 n, .int .i64 c] 23)).cell? ⟨w.heap.size, 0, none⟩ = some (.int .i64 n) := by simp
        have q1 : (w.alloc (.cells #[.int .i64 n, .int .i64 c] 23)).cell? ⟨w.heap.size, 1, none⟩ = some (.int .i64 c) := by simp
        go_upto_region 3 with fail
        go_quiet (first | (go_at_call 23; exact (HP.out _).mono fun _ _ ⟨he, hw⟩ => ⟨he, _, hw.symm⟩))
        go_wp2_with fail
        refine (awake_any _).mono ?_
        rintro e w9 ⟨rfl, hb9⟩
        go_wp2
        go_ret
        exact below_end (below_drewN bel0 _) hb9
      · have hg : (1 ≤ n ∧ n ≤ 16) ∧ 1 ≤ c ∧ c ≤ 32 := by unfold NewBad at hbad; omega
        obtain ⟨⟨g1, g2⟩, g3, g4⟩ := hg
        obtain ⟨n, rfl⟩ : ∃ k : Nat, n = (k : Int) := ⟨n.toNat, by omega⟩
        obtain ⟨c, rfl⟩ : ∃ k : Nat, c = (k : Int) := ⟨c.toNat, by omega⟩
        clear hbad
        have hyl := play_len c n xs
        obtain ⟨W0, hW0⟩ : ∃ W0, w.alloc (.cells #[.int .i64 n, .int .i64 c] 23) = W0 := ⟨_, rfl⟩
        have hz0 : W0.heap.size = w.heap.size + 1 := by rw [← hW0]; simp
        have HP : Hid (∀ W, Below W0.heap.size W0 W → Calls Try.prog 23 #[.int .i64 n, .int .i64 c, .slice A len cap] W (PlayE W n c xs)) := fun W hW => by
          have h0 := HX0.out
          rw [hW0] at h0
          exact play_any n c A len cap xs W (by omega) (by omega) (by omega) (by omega) (h0.same hW) hlen
        rw [hW0, ← hz0] at BX
        rw [hW0] at bel0
        have BX0 := BX.out W0 (Below.refl _ _)
        obtain ⟨q0, q1⟩ := BX0
        have HW0 := Lib.hid hW0
        have HZ0 := Lib.hid hz0
        clear hW0 hz0
        go_upto_region 3 with fail
        rw [HW0.out]
        go_region_held3 (fun W => W.cell? ⟨w.heap.size, 0, none⟩ = some (.int .i64 n) ∧ W.cell? ⟨w.heap.size, 1, none⟩ = some (.int .i64 c))
          (first | exact ⟨q0, q1⟩ | exact BX.out _ bB | exact BX.out _ bA)
          ((go_at_call 23; (first | (refine (HP.out _ bA).mono ?_; rintro e wB ⟨rfl, hB⟩; have bB : Below W0.heap.size W0 wB := bA.trans (hB.bel.mono bA.size)) | (refine (HP.out _ (Below.refl _ _)).mono ?_; rintro e wA ⟨rfl, hA⟩; have bA : Below W0.heap.size W0 wA := hA.bel) | (refine (HP.out W0.drew ⟨rfl, rfl, rfl, Nat.le_refl _, fun _ _ => rfl⟩).mono ?_; rintro e wA ⟨rfl, hA⟩; have bA : Below W0.heap.size W0 wA := ⟨hA.bel.os, hA.bel.tape, hA.bel.output, hA.bel.size, hA.bel.block⟩))))
        have h2 : Y2 W0 wB (W0.heap.size + 1) W0.heap.size (wA.heap.size + 1) wA.heap.size c (playY c n xs).2 (playY c n xs).2 (playY c n xs).1 (playY c n xs).1 := by
          have h := Y2.of hA hB
          exact ⟨h.ex, h.bel.os, h.bel.tape, h.bel.output, h.bel.size, h.bel.block⟩
        obtain ⟨al, hI⟩ := play_inv c n xs
        generalize playY c n xs = s at h2 hI hyl
        obtain ⟨ys, p⟩ := s
        simp only at h2 hI hyl
        generalize W0.heap.size + 1 = gy at h2 ⊢
        generalize wA.heap.size + 1 = gz at h2 ⊢
        generalize wA.heap.size = bz at h2
        have HE : Hid (∀ W W', Y2 W0 W gy W0.heap.size gz bz c p p ys ys → Below W.heap.size W W' → Below w.heap.size w W') := fun W W' h hb => by
          have h1 := bel0.trans (h.bel.mono bel0.size)
          exact h1.trans (hb.mono h1.size)
        have HEN : Hid (∀ W W' zs, Y2 W0 W gy W0.heap.size gz bz c p p ys zs → Below W.heap.size W W' → Below w.heap.size w W') := fun W W' zs h hb => by
          have h1 := bel0.trans (h.bel.mono bel0.size)
          exact h1.trans (hb.mono h1.size)
        have HI := Lib.hid hI
        have HL := Lib.hid hyl
        clear hA hB bA bB q0 q1 hI hyl HP HX0 HE HW0 HZ0
        go_wp2_with fail
        refine (find_y (x := x) h2).mono ?_
        rintro e w3 ⟨rfl, h3⟩
        clear h2
        rcases take_cases c ys x with ⟨hf, het⟩ | ⟨i, m, hf, het⟩ | ⟨i, m, es0, e0, zs, ht⟩
        · have HET := Lib.hid het
          rw [yFind_none hf]
          unfold findV
          simp only
          rw [show ((0 : Nat) : Int) = 0 from rfl]
          clear hf het
          go_wp2_with fail
          refine (take_z (x := x) h3).mono ?_
          rintro e w4 ⟨rfl, h4⟩
          rw [HET.out] at h4 ⊢
          simp only at h4 ⊢
          rw [show ((0 : Nat) : Int) = 0 from rfl]
          have H4 := Lib.hid h4
          have b4 := BX.out _ h4.bel
          obtain ⟨z0, z1⟩ := b4
          clear h3 h4
          go_wp2
          go_loopw [14] (fun i wr => ∃ k : Nat, k ≤ n ∧ i = .int .i64 k ∧ Y2 W0 wr gy W0.heap.size gz bz c p p ys ys) (fun i _ => n - (intOf i).toNat)
          case atStart => exact ⟨0, by omega, rfl, H4.out⟩
          case round =>
            obtain ⟨k, hk, rfl, h5⟩ := hrel
            clear H4 z0 z1
            obtain ⟨z0, z1⟩ := BX.out _ h5.bel
            by_cases hlt : k < n
            · obtain ⟨es, hes⟩ : ∃ es, ys[k]? = some es := ⟨ys[k]'(by have := HL.out; omega), List.getElem?_eq_getElem _⟩
              have k1 : (k : Int) < (n : Int) := by omega
              obtain ⟨N, hN⟩ : ∃ N, es.length = N := ⟨_, rfl⟩
              obtain ⟨s, hse⟩ : ∃ s, es.map Prod.fst = s := ⟨_, rfl⟩
              have HN := Lib.hid hN
              have HSE := Lib.hid hse
              have HES := Lib.hid hes
              clear hN hse hes
              go_wp2_with fail
              refine (bay_y h5 HES.out HN.out HSE.out).mono ?_
              rintro e w6 ⟨A6, cap6, rfl, r6, hs6, h6⟩
              clear h5 hs6
              go_wp2_with fail
              refine (bay_z h6 HES.out HN.out HSE.out).mono ?_
              rintro e w7 ⟨A7, cap7, rfl, r7, hs7, h7⟩
              replace r6 := r6.same hs7
              clear h6 hs7
              go_wp2_with fail
              refine (starts_true A7 A6 N N cap7 cap6 s s _ r7 r6 ⟨[], by simp⟩).mono ?_
              rintro e w8 ⟨rfl, hs8⟩
              have H8 := Lib.hid (h7.same hs8)
              clear h7 hs8 r6 r7 z0 z1
              go_wp2
              go_roundw
              case rel => exact ⟨k + 1, by omega, by go_num, H8.out⟩
              case measure => simp [intOf]; omega
            · obtain ⟨T, hT⟩ : ∃ T, totK ys ys.length = T := ⟨_, rfl⟩
              have HT := Lib.hid hT
              have hT2 : T ≤ 512 := by
                rw [← hT, HL.out]
                exact Nat.le_trans (totK_le h5.ok.1.le n) (Nat.mul_le_mul (show n ≤ 16 by omega) (show c ≤ 32 by omega))
              have tt : ((T : Int) == (T : Int) - 0) = true := by simp
              clear hT
              go_wp2_with fail
              refine (len_z h5 HT.out).mono ?_
              rintro e w6 ⟨rfl, h6⟩
              clear h5
              go_wp2_with fail
              refine (len_y h6 HT.out).mono ?_
              rintro e w7 ⟨rfl, h7⟩
              clear h6
              go_wp2_with fail
              refine (awake_any _).mono ?_
              rintro e w9 ⟨rfl, hb9⟩
              have hE := HEN.out _ _ _ h7 hb9
              clear h7 z0 z1
              go_wp2
              go_ret
              exact ⟨rfl, hE⟩
        · have HET := Lib.hid het
          rw [yFind_some hf]
          generalize lenAt ys i - 1 - m = av
          unfold findV
          simp only
          clear hf het
          go_wp2_with fail
          refine (take_z (x := x) h3).mono ?_
          rintro e w4 ⟨rfl, h4⟩
          rw [HET.out] at h4 ⊢
          simp only at h4 ⊢
          rw [show ((0 : Nat) : Int) = 0 from rfl]
          have H4 := Lib.hid h4
          have b4 := BX.out _ h4.bel
          obtain ⟨z0, z1⟩ := b4
          clear h3 h4
          go_wp2
          go_loopw [14] (fun i wr => ∃ k : Nat, k ≤ n ∧ i = .int .i64 k ∧ Y2 W0 wr gy W0.heap.size gz bz c p p ys ys) (fun i _ => n - (intOf i).toNat)
          case atStart => exact ⟨0, by omega, rfl, H4.out⟩
          case round =>
            obtain ⟨k, hk, rfl, h5⟩ := hrel
            clear H4 z0 z1
            obtain ⟨z0, z1⟩ := BX.out _ h5.bel
            by_cases hlt : k < n
            · obtain ⟨es, hes⟩ : ∃ es, ys[k]? = some es := ⟨ys[k]'(by have := HL.out; omega), List.getElem?_eq_getElem _⟩
              have k1 : (k : Int) < (n : Int) := by omega
              obtain ⟨N, hN⟩ : ∃ N, es.length = N := ⟨_, rfl⟩
              obtain ⟨s, hse⟩ : ∃ s, es.map Prod.fst = s := ⟨_, rfl⟩
              have HN := Lib.hid hN
              have HSE := Lib.hid hse
              have HES := Lib.hid hes
              clear hN hse hes
              go_wp2_with fail
              refine (bay_y h5 HES.out HN.out HSE.out).mono ?_
              rintro e w6 ⟨A6, cap6, rfl, r6, hs6, h6⟩
              clear h5 hs6
              go_wp2_with fail
              refine (bay_z h6 HES.out HN.out HSE.out).mono ?_
              rintro e w7 ⟨A7, cap7, rfl, r7, hs7, h7⟩
              replace r6 := r6.same hs7
              clear h6 hs7
              go_wp2_with fail
              refine (starts_true A7 A6 N N cap7 cap6 s s _ r7 r6 ⟨[], by simp⟩).mono ?_
              rintro e w8 ⟨rfl, hs8⟩
              have H8 := Lib.hid (h7.same hs8)
              clear h7 hs8 r6 r7 z0 z1
              go_wp2
              go_roundw
              case rel => exact ⟨k + 1, by omega, by go_num, H8.out⟩
              case measure => simp [intOf]; omega
            · obtain ⟨T, hT⟩ : ∃ T, totK ys ys.length = T := ⟨_, rfl⟩
              have HT := Lib.hid hT
              have hT2 : T ≤ 512 := by
                rw [← hT, HL.out]
                exact Nat.le_trans (totK_le h5.ok.1.le n) (Nat.mul_le_mul (show n ≤ 16 by omega) (show c ≤ 32 by omega))
              have tt : ((T : Int) == (T : Int) - 0) = true := by simp
              clear hT
              go_wp2_with fail
              refine (len_z h5 HT.out).mono ?_
              rintro e w6 ⟨rfl, h6⟩
              clear h5
              go_wp2_with fail
              refine (len_y h6 HT.out).mono ?_
              rintro e w7 ⟨rfl, h7⟩
              clear h6
              go_wp2_with fail
              refine (awake_any _).mono ?_
              rintro e w9 ⟨rfl, hb9⟩
              have hE := HEN.out _ _ _ h7 hb9
              clear h7 z0 z1
              go_wp2
              go_ret
              exact ⟨rfl, hE⟩
        · have HZL := Lib.hid (ht.len.trans HL.out)
          obtain ⟨av, hav⟩ : ∃ av, lenAt ys i - 1 - m = av := ⟨_, rfl⟩
          have hla := lenAt_some ht.hes
          have hml := (List.getElem?_eq_some_iff.1 ht.hm).1
          have HET : Hid (yTake c ys x = (zs, av, 0)) := by unfold Hid; rw [ht.e, hav]
          have HAV : Hid (av + m + 1 = es0.length) := by unfold Hid; omega
          rw [yFind_some ht.h, hav]
          unfold findV
          simp only
          have HTO := Lib.hid ht
          clear ht hla hml hav
          go_wp2_with fail
          refine (take_z (x := x) h3).mono ?_
          rintro e w4 ⟨rfl, h4⟩
          rw [HET.out] at h4 ⊢
          simp only at h4 ⊢
          have H4 := Lib.hid h4
          have b4 := BX.out _ h4.bel
          obtain ⟨z0, z1⟩ := b4
          clear h3 h4
          go_wp2
          go_loopw [14] (fun i wr => ∃ k : Nat, k ≤ n ∧ i = .int .i64 k ∧ Y2 W0 wr gy W0.heap.size gz bz c p p ys zs) (fun i _ => n - (intOf i).toNat)
          case atStart => exact ⟨0, by omega, rfl, H4.out⟩
          case round =>
            obtain ⟨k, hk, rfl, h5⟩ := hrel
            clear H4 z0 z1
            obtain ⟨z0, z1⟩ := BX.out _ h5.bel
            by_cases hlt : k < n
            · obtain ⟨es, hes⟩ : ∃ es, ys[k]? = some es := ⟨ys[k]'(by have := HL.out; omega), List.getElem?_eq_getElem _⟩
              obtain ⟨fs, hfs⟩ : ∃ es, zs[k]? = some es := ⟨zs[k]'(by have := HZL.out; omega), List.getElem?_eq_getElem _⟩
              have k1 : (k : Int) < (n : Int) := by omega
              obtain ⟨N, hN⟩ : ∃ N, es.length = N := ⟨_, rfl⟩
              obtain ⟨s, hse⟩ : ∃ s, es.map Prod.fst = s := ⟨_, rfl⟩
              obtain ⟨M, hM⟩ : ∃ N, fs.length = N := ⟨_, rfl⟩
              obtain ⟨r, hre⟩ : ∃ s, fs.map Prod.fst = s := ⟨_, rfl⟩
              have hNc : N ≤ c := by rw [← hN]; exact h5.ok.1.le es (List.mem_of_getElem? hes)
              have hMc : M ≤ c := by rw [← hM]; exact h5.ok.2.le fs (List.mem_of_getElem? hfs)
              have HN := Lib.hid hN
              have HSE := Lib.hid hse
              have HES := Lib.hid hes
              have HM := Lib.hid hM
              have HRE := Lib.hid hre
              have HFS := Lib.hid hfs
              clear hN hse hes hM hre hfs
              by_cases hki : k = i
              · have t : ((k : Int) == (i : Int)) = true := by simp [hki]
                have HC : Hid (M + av + 1 = N ∧ ∃ zz, s = r ++ zz) := by
                  unfold Hid
                  have e1 : es = es0 := by
                    have := HES.out
                    rw [hki, HTO.out.hes] at this
                    exact (Option.some.inj this).symm
                  have e2 : fs = es0.take m := by
                    have := HFS.out
                    rw [hki, HTO.out.bay] at this
                    exact (Option.some.inj this).symm
                  have hml := (List.getElem?_eq_some_iff.1 HTO.out.hm).1
                  have h3 : fs.length = m := by rw [e2, List.length_take]; omega
                  rw [← HN.out, ← HM.out, ← HSE.out, ← HRE.out, e1]
                  refine ⟨by have := HAV.out; omega, (es0.drop m).map Prod.fst, ?_⟩
                  rw [e2, ← List.map_append, List.take_append_drop]
                have t2 : ((M : Int) != (N : Int) - 1 - (av : Int)) = false := by
                  have h0 := HC.out.1
                  have : (M : Int) = (N : Int) - 1 - (av : Int) := by omega
                  simp [this]
                have hav2 : av ≤ 32 := by have := HC.out.1; omega
                clear hki
                go_wp2_with fail
                refine (bay_y h5 HES.out HN.out HSE.out).mono ?_
                rintro e w6 ⟨A6, cap6, rfl, r6, hs6, h6⟩
                clear h5 hs6
                go_wp2_with fail
                refine (bay_z h6 HFS.out HM.out HRE.out).mono ?_
                rintro e w7 ⟨A7, cap7, rfl, r7, hs7, h7⟩
                replace r6 := r6.same hs7
                clear h6 hs7
                go_wp2_with fail
                refine (starts_true A6 A7 N M cap6 cap7 s r _ r6 r7 HC.out.2).mono ?_
                rintro e w8 ⟨rfl, hs8⟩
                have H8 := Lib.hid (h7.same hs8)
                clear h7 hs8 r6 r7 z0 z1
                go_wp2
                go_roundw
                case rel => exact ⟨k + 1, by omega, by go_num, H8.out⟩
                case measure => simp [intOf]; omega
              · have t : ((k : Int) == (i : Int)) = false := by
                  have : (k : Int) ≠ i := by omega
                  simp [this]
                have HC : Hid (∃ zz, r = s ++ zz) := by
                  unfold Hid
                  obtain ⟨gs, hgs⟩ := HTO.out.others k es hki HES.out
                  have e2 : fs = es ++ gs := by
                    have := HFS.out
                    rw [hgs] at this
                    exact (Option.some.inj this).symm
                  exact ⟨gs.map Prod.fst, by rw [← HSE.out, ← HRE.out, e2, List.map_append]⟩
                clear hki
                go_wp2_with fail
                refine (bay_y h5 HES.out HN.out HSE.out).mono ?_
                rintro e w6 ⟨A6, cap6, rfl, r6, hs6, h6⟩
                clear h5 hs6
                go_wp2_with fail
                refine (bay_z h6 HFS.out HM.out HRE.out).mono ?_
                rintro e w7 ⟨A7, cap7, rfl, r7, hs7, h7⟩
                replace r6 := r6.same hs7
                clear h6 hs7
                go_wp2_with fail
                refine (starts_true A7 A6 M N cap7 cap6 r s _ r7 r6 HC.out).mono ?_
                rintro e w8 ⟨rfl, hs8⟩
                have H8 := Lib.hid (h7.same hs8)
                clear h7 hs8 r6 r7 z0 z1
                go_wp2
                go_roundw
                case rel => exact ⟨k + 1, by omega, by go_num, H8.out⟩
                case measure => simp [intOf]; omega
            · obtain ⟨T, hT⟩ : ∃ T, totK ys ys.length = T := ⟨_, rfl⟩
              obtain ⟨U, hU⟩ : ∃ U, totK zs zs.length = U := ⟨_, rfl⟩
              have hTU := tot_take HTO.out
              rw [hT, hU] at hTU
              have HT := Lib.hid hT
              have HU := Lib.hid hU
              have hT2 : T ≤ 512 := by
                rw [← hT, HL.out]
                exact Nat.le_trans (totK_le h5.ok.1.le n) (Nat.mul_le_mul (show n ≤ 16 by omega) (show c ≤ 32 by omega))
              have tt : ((U : Int) == (T : Int) - 1) = true := by
                have : (U : Int) = (T : Int) - 1 := by omega
                simp [this]
              clear hT hU hTU
              go_wp2_with fail
              refine (len_z h5 HU.out).mono ?_
              rintro e w6 ⟨rfl, h6⟩
              clear h5
              go_wp2_with fail
              refine (len_y h6 HT.out).mono ?_
              rintro e w7 ⟨rfl, h7⟩
              clear h6
              go_wp2_with fail
              refine (awake_any _).mono ?_
              rintro e w9 ⟨rfl, hb9⟩
              have hE := HEN.out _ _ _ h7 hb9
              clear h7 z0 z1
              go_wp2
              go_ret
              exact ⟨rfl, hE⟩

theorem own : ownKnob Try.prog.godebug = none := by kernel_rfl
theorem laidOut : laidOutB Try.prog = true := by kernel_rfl

set_option maxRecDepth 100000 in
theorem lifted (os : Os) (started : os.Started) (H : Type) (enc : TypeId × Value → H) :
    ReturnsInHanded {} Try.checked os 8 .any (Rows.yardTakesSpec.pre6 enc Try.prog Try.f8 Rows.yardTakesRow.domain false) (Rows.yardTakesSpec.post enc Try.prog Try.f8 false true false false) := by
  refine returnsInHanded_of_change (C := Try.checked) own started (by kernel_rfl) Try.func8
    (ChangeSpec.witness6 (enc := enc) (C := Try.checked) false ⟨#[], #[.agg #[.int .i64 0, .int .i64 0], .slice none 0 0, .string ⟨#[]⟩], []⟩ 8 (by kernel_rfl) (by kernel_rfl) (by kernel_rfl) (by kernel_rfl)) ?_
  intro W base args ds gs before hval0 hW hcnd _
  have hval : ∀ (j : Nat) t v, Try.f8.params[j]? = some t → args[j]? = some v → Value.okWide Try.prog W .any base t v := hval0
  have hW' := hW
  obtain ⟨p, q, hA0, hV, rfl, hfz, hnd⟩ := hW
  have hA : DataW.TrodAll enc Try.prog W 0 (fun _ => true) true Try.f8.params.toList args.toList ds p := hA0
  rw [Try.params8] at hA hval
  obtain ⟨v0, vs0, d0, ds0, p0, q0, hargs, rfl, rfl, h0, r0⟩ := trodAll_cons hA
  obtain ⟨v1, vs1, d1, ds1, p1, q1, rfl, rfl, rfl, h1, r1⟩ := trodAll_cons r0
  obtain ⟨v2, vs2, d2, ds2, p2, q2, rfl, rfl, rfl, h2, r2⟩ := trodAll_cons r1
  obtain ⟨rfl, rfl, rfl⟩ := trodAll_nil r2
  obtain rfl : args = #[v0, v1, v2] := by cases args; simp_all
  obtain ⟨rfl, rfl⟩ := trodVars_none hV
  have k0 := h0
  have lt0 : ∀ x ∈ p0, x.block < W.heap.size := by obtain ⟨m, hm⟩ := k0; exact DataW.trod_lt m _ _ _ hm
  have ok0 := hval 0 23 v0 rfl rfl
  obtain ⟨n0, c0, rfl, hn0⟩ := open_size ok0 h0
  have k1 := h1
  have lt1 : ∀ x ∈ p1, x.block < W.heap.size := by obtain ⟨m, hm⟩ := k1; exact DataW.trod_lt m _ _ _ hm
  have ok1 := hval 1 24 v1 rfl rfl
  obtain ⟨A1, len1, cap1, xs1, rfl, hx1⟩ := open_ops ok1 h1
  have k2 := h2
  have lt2 : ∀ x ∈ p2, x.block < W.heap.size := by obtain ⟨m, hm⟩ := k2; exact DataW.trod_lt m _ _ _ hm
  have ok2 := hval 2 9 v2 rfl rfl
  obtain ⟨s2, rfl, hs2⟩ := open_str ok2 h2
  clear hA0 hval0
  refine (walk n0 c0 A1 len1 cap1 xs1 s2 hn0 W hx1).mono fun e W' ⟨he, bel⟩ => ?_
  subst he
  exact ⟨_, rfl, _, _, _, [], _, [], hW', trodAll_mk1 (shut_bool Try.underlying4 _), (trodAll_cons_mk (Below.trod laidOut (by kernel_rfl) (of_decide_eq_true (by kernel_rfl)) k0 bel lt0) (trodAll_cons_mk (Below.trod laidOut (by kernel_rfl) (of_decide_eq_true (by kernel_rfl)) k1 bel lt1) (trodAll_cons_mk (Below.trod laidOut (by kernel_rfl) (of_decide_eq_true (by kernel_rfl)) k2 bel lt2) trodAll_mk0))), rfl, bel.frame _, fun h => by cases h⟩

theorem over : Rows.yardTakesRow.holds Try.pinned (OpenSpec.ofChange Rows.yardTakesSpec) :=
  OpenClaim.holds_of_wide 8 Try.f8 rfl rfl rfl rfl rfl rfl rfl ⟨rfl, rfl, rfl, rfl, rfl⟩ rfl rfl rfl rfl rfl (by kernel_rfl) Try.func8 (by kernel_rfl)
    (of_decide_eq_true (by kernel_rfl)) (by unfold Func.isWrapper; first | (rw [if_pos (by decide +kernel)]; kernel_rfl) | (rw [if_neg (by decide +kernel)]; exact ⟨rfl, rfl⟩))
    (fun os started H enc _ => lifted os started H enc)

theorem proved : Rows.YardTakesSaid := over
end Go.Proofs.Ytahommgchnbnjaa.yardTakes
