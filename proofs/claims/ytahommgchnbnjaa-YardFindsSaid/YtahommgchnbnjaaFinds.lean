/-
  YardFinds returns true for every size, every list of calls and every item.
-/
import Derived.Test.YtahommgchnbnjaaPlay
namespace Go.Proofs.Ytahommgchnbnjaa.yardFinds
open Go.ChangeShapes Go.WideShapes Go.ChangeAt Go.RowKit

/-- Whether an item was seen in k bays and m entries of the next one. -/
def anyKM (ys : Ys) (x : Bs) (k m : Nat) : Bool := ((ys.take k).flatten ++ (ys[k]?.getD []).take m).any (fun e => decide (e.1 = x))
theorem any_zero (ys : Ys) (x : Bs) : anyKM ys x 0 0 = false := by simp [anyKM]
theorem any_entry {ys : Ys} {x : Bs} {k m : Nat} {es : List Ent} {e : Ent} (h : ys[k]? = some es) (he : es[m]? = some e) : anyKM ys x k (m + 1) = (anyKM ys x k m || decide (e.1 = x)) := by
  unfold anyKM
  rw [h]
  simp only [Option.getD_some]
  rw [List.take_add_one, he, ← List.append_assoc, List.any_append]
  simp
theorem any_bay {ys : Ys} {x : Bs} {k : Nat} {es : List Ent} (h : ys[k]? = some es) : anyKM ys x (k + 1) 0 = anyKM ys x k es.length := by
  unfold anyKM
  rw [h]
  simp only [Option.getD_some, List.take_zero, List.append_nil, List.take_length]
  rw [List.take_add_one, h]
  simp
theorem any_end {ys : Ys} {x : Bs} {k : Nat} (h : k = ys.length) : anyKM ys x k 0 = (findY ys x 0).isSome := by
  subst h
  rw [Bool.eq_iff_iff, findY_isSome]
  unfold anyKM
  simp only [List.take_length, List.take_zero, List.append_nil, List.any_eq_true, decide_eq_true_eq]
theorem tot_bay {ys : Ys} {k : Nat} {es : List Ent} (h : ys[k]? = some es) : totK ys (k + 1) = totK ys k + es.length := by rw [totK, lenAt_some h]

theorem bay_n {w0 w : World} {K : Nat → Prop} {g b c p k N : Nat} {ys : Ys} {es : List Ent} {s : List Bs} (h : YB w0 K w g b c p ys) (hk : ys[k]? = some es) (hN : es.length = N) (hs : es.map Prod.fst = s) : Calls Try.prog 17 #[.pointer (some ⟨g, 0, none⟩), .int .i64 k] w fun e w' =>
    ∃ A cap, e = .returned (.slice A N cap) ∧ RS w' A N s ∧ Same w w' := by
  have hkl := (List.getElem?_eq_some_iff.1 hk).1
  have h16 := h.ok.n2
  have := bay_to (i := (k : Int)) h ((yBay_in hk).trans hs) (by omega)
  have hl : s.length = N := by rw [← hs, ← hN]; simp
  rw [hl] at this
  exact this.mono fun e w' ⟨A, cap, he, hr, _, hs, _⟩ => ⟨A, cap, he, hr, hs⟩

theorem below_end {w w2 w9 : World} (t : Below w.heap.size w w2) (h : Below w2.heap.size w2 w9) : (Ending.returned (.bool true)) = .returned (.bool true) ∧ Below w.heap.size w w9 := ⟨rfl, t.trans (h.mono t.size)⟩

set_option maxRecDepth 100000 in
set_option maxHeartbeats 4000000 in
theorem walk (n c : Int) (A : Option Addr) (len cap : Nat) (xs : List OpD) (x : Bs) (hw : SizeW n c) (w : World) (hx : IsOps w A len xs) : Calls Try.prog 7 #[SizeV n c, .slice A len cap, .string x] w fun e w' => e = .returned (.bool true) ∧ Below w.heap.size w w' := by
  have hal : Same w (w.alloc (.cells #[.int .i64 n, .int .i64 c] 23)) := (Fr.refl _ _).alloc _
  have HX0 := Lib.hid (hx.same hal.below)
  have hml := hx.2.1
  have hxl := hx.1
  clear hx hw
  unfold SizeV
  go_enter Try.func7, Try.ntmps7
  go_wp2_with fail
  refine (short_any A len cap xs _ HX0.out).mono ?_
  rintro e w1 ⟨bb, rfl, rfl, hb⟩
  have bel0 := hal.below
  cases bb with
  | false =>
    clear hb
    go_wp2_with fail
    refine (awake_any _).mono ?_
    rintro e w9 ⟨rfl, hb9⟩
    go_wp2
    go_ret
    exact below_end bel0 hb9
  | true =>
    have hlen := hb rfl
    clear hb
    by_cases h16 : 16 < n
    · go_wp2_with fail
      refine (awake_any _).mono ?_
      rintro e w9 ⟨rfl, hb9⟩
      go_wp2
      go_ret
      exact below_end bel0 hb9
    · have t16 : decide (16 < n) = false := by simp [h16]
      by_cases hbad : NewBad n c
      · go_wp2_with fail
        refine (play_bad n c _ _ _ _ hbad).mono ?_
        rintro e w' ⟨rfl, rfl⟩
        go_wp2_with fail
        refine (awake_any _).mono ?_
        rintro e w9 ⟨rfl, hb9⟩
        go_wp2
        go_ret
        exact below_end bel0 hb9
      · have hg : (1 ≤ n ∧ n ≤ 16) ∧ 1 ≤ c ∧ c ≤ 32 := by unfold NewBad at hbad; omega
        obtain ⟨⟨g1, g2⟩, g3, g4⟩ := hg
        obtain ⟨n, rfl⟩ : ∃ k : Nat, n = (k : Int) := ⟨n.toNat, by omega⟩
        obtain ⟨c, rfl⟩ : ∃ k : Nat, c = (k : Int) := ⟨c.toNat, by omega⟩
        clear hbad
        go_wp2_with fail
        refine (play_any n c A len cap xs _ (by omega) (by omega) (by omega) (by omega) HX0.out hlen).mono ?_
        rintro e w2 ⟨rfl, h2⟩
        have bx : Blk w2 w.heap.size 23 #[.int .i64 n, .int .i64 c] := (Blk.new w 23 #[.int .i64 n, .int .i64 c]).below h2.bel (by simp)
        have h3 := h2.base bel0
        obtain ⟨al, hI⟩ := play_inv c n xs
        simp only [World.size_alloc] at h3
        have hyl : (playY c n xs).1.length = n := play_len c n xs
        generalize playY c n xs = s at h3 hI hyl
        obtain ⟨ys, p⟩ := s
        simp only at h3 hI hyl
        have HY := Lib.hid h3
        have HI := Lib.hid hI
        have BX := Lib.hid bx
        clear h2 h3 hI bx bel0 hal
        go_wp2
        go_loopw [8, 9, 10] (fun t s i wr => ∃ k : Nat, k ≤ n ∧ i = .int .i64 k ∧ s = .int .i64 (totK ys k : Nat) ∧ t = .bool (anyKM ys x k 0) ∧ Same w2 wr) (fun _ _ i _ => n - (intOf i).toNat)
        case atStart => exact ⟨0, by omega, rfl, rfl, by rw [any_zero], Same.refl _⟩
        case round =>
          obtain ⟨k, hk, rfl, rfl, rfl, hs⟩ := hrel
          have bx := BX.out.fr hs (fun x => x)
          have b0 := bx.cell 0
          have b1 := bx.cell 1
          simp at b0 b1
          clear bx
          by_cases hlt : k < n
          · obtain ⟨es, hes⟩ : ∃ es, ys[k]? = some es := ⟨ys[k]'(by omega), List.getElem?_eq_getElem _⟩
            obtain ⟨N, hN⟩ : ∃ N, es.length = N := ⟨_, rfl⟩
            obtain ⟨s, hse⟩ : ∃ s, es.map Prod.fst = s := ⟨_, rfl⟩
            have hNc : N ≤ c := by rw [← hN]; exact HY.out.ok.le es (List.mem_of_getElem? hes)
            have htl := totK_le HY.out.ok.le k
            have ht2 : totK ys k ≤ 512 := Nat.le_trans htl (Nat.mul_le_mul (show k ≤ 16 by omega) (show c ≤ 32 by omega))
            have HT := Lib.hid (tot_bay hes)
            rw [hN] at HT
            have HAB := Lib.hid (any_bay (x := x) hes)
            rw [hN] at HAB
            have k1 : (k : Int) < (n : Int) := by omega
            have HN := Lib.hid hN
            have HSE := Lib.hid hse
            have HES := Lib.hid hes
            generalize totK ys k = tk at ht2 HT
            clear htl hN hse hes
            go_wp2_with fail
            refine (bay_n (HY.out.same hs) HES.out HN.out HSE.out).mono ?_
            rintro e w4 ⟨A4, cap4, rfl, hr4, hs4⟩
            have hs4' : Same w2 w4 := Fr.trans hs hs4
            have bx := BX.out.fr hs4' (fun x => x)
            have b0' := bx.cell 0
            have b1' := bx.cell 1
            simp at b0' b1'
            have HR4 := Lib.hid hr4
            have HS4 := Lib.hid hs4'
            clear hs hs4 hs4' hr4 bx b0 b1
            have nc : decide (c < N) = false := by simp; omega
            go_wp2
            go_loopw [8, 12] (fun t i wr => ∃ m : Nat, m ≤ N ∧ i = .int .i64 m ∧ t = .bool (anyKM ys x k m) ∧ Same w2 wr ∧ RS wr A4 N s) (fun _ i _ => N - (intOf i).toNat)
            case atStart => exact ⟨0, by omega, rfl, rfl, HS4.out, HR4.out⟩
            case round =>
              obtain ⟨m, hm, rfl, rfl, hs5, hr5⟩ := hrel
              clear HR4 HS4 b0' b1'
              by_cases hml : m < N
              · obtain ⟨e, he⟩ : ∃ e, es[m]? = some e := ⟨es[m]'(by have := HN.out; omega), List.getElem?_eq_getElem _⟩
                have hsm : s[m]? = some e.1 := by rw [← HSE.out]; simp [he]
                obtain ⟨g5, o5, hA5, c5, _⟩ := hr5.2.2 m e.1 hsm
                subst hA5
                have m1 : (0 : Int) ≤ (m : Int) := by omega
                have m2 : (m : Int) < (N : Int) := by omega
                have hfi := HI.out.find HES.out he
                obtain ⟨q, hq⟩ : ∃ q, N - 1 - m = q := ⟨_, rfl⟩
                have hyf : yFind ys e.1 = (k, q, true) := by rw [yFind_some hfi, lenAt_some HES.out, HN.out, hq]
                have HYF := Lib.hid hyf
                have HAE := Lib.hid (any_entry (x := x) HES.out he)
                have q1 : ((q : Int) != (N : Int) - 1 - (m : Int)) = false := by
                  have : (q : Int) = (N : Int) - 1 - (m : Int) := by omega
                  simp [this]
                have HRS := Lib.hid hr5
                have HS5 := Lib.hid hs5
                have HYW := Lib.hid (HY.out.same hs5)
                clear hfi hyf hr5 hs5 hsm he hq
                cases htb : anyKM ys x k m with
                | true =>
                  have HA1 : Hid (anyKM ys x k (m + 1) = true) := by unfold Hid; rw [HAE.out, htb]; rfl
                  clear htb HAE
                  go_wp2_with fail
                  refine (find_to HYW.out HYF.out).mono ?_
                  rintro e' w6 ⟨rfl, _, hs6⟩
                  have HS6 : Hid (Same w2 w6) := Fr.trans HS5.out hs6
                  have HR6 := Lib.hid (HRS.out.same hs6)
                  clear hs6 c5 HS5 HRS
                  go_wp2
                  go_roundw
                  case rel => exact ⟨m + 1, by omega, by go_num, by rw [HA1.out], HS6.out, HR6.out⟩
                  case measure => simp [intOf]; omega
                | false =>
                  by_cases hex : e.1 = x
                  · have ky : (e.1.toList == x.toList) = true := (Lib.bytes_beq_iff _ _).2 hex
                    have HA1 : Hid (anyKM ys x k (m + 1) = true) := by unfold Hid; rw [HAE.out, htb]; simp [hex]
                    clear htb HAE hex
                    go_wp2_with fail
                    refine (find_to HYW.out HYF.out).mono ?_
                    rintro e' w6 ⟨rfl, _, hs6⟩
                    have HS6 : Hid (Same w2 w6) := Fr.trans HS5.out hs6
                    have HR6 := Lib.hid (HRS.out.same hs6)
                    clear hs6 c5 HS5 HRS
                    go_wp2
                    go_roundw
                    case rel => exact ⟨m + 1, by omega, by go_num, by rw [HA1.out], HS6.out, HR6.out⟩
                    case measure => simp [intOf]; omega
                  · have ky : (e.1.toList == x.toList) = false := (Lib.bytes_beq_false_iff _ _).2 hex
                    have HA1 : Hid (anyKM ys x k (m + 1) = false) := by unfold Hid; rw [HAE.out, htb]; simp [hex]
                    clear htb HAE hex
                    go_wp2_with fail
                    refine (find_to HYW.out HYF.out).mono ?_
                    rintro e' w6 ⟨rfl, _, hs6⟩
                    have HS6 : Hid (Same w2 w6) := Fr.trans HS5.out hs6
                    have HR6 := Lib.hid (HRS.out.same hs6)
                    clear hs6 c5 HS5 HRS
                    go_wp2
                    go_roundw
                    case rel => exact ⟨m + 1, by omega, by go_num, by rw [HA1.out], HS6.out, HR6.out⟩
                    case measure => simp [intOf]; omega
              · have hmN : m = N := by omega
                subst hmN
                have HS5 := Lib.hid hs5
                clear hs5 hr5
                go_wp2
                go_roundw
                case rel => exact ⟨k + 1, by omega, by go_num, by rw [HT.out]; go_num, by rw [HAB.out], HS5.out⟩
                case measure => simp [intOf]; omega
          · have hkn : k = n := by omega
            subst hkn
            have hae := any_end (x := x) (ys := ys) hyl.symm
            have hln := HI.out.len
            rw [hyl] at hln
            rw [hae]
            have HLN : Hid (totK ys ys.length = totK ys k) := by rw [hyl]; rfl
            have htl := totK_le HY.out.ok.le k
            generalize totK ys k = tk at HLN ⊢
            have HYW := Lib.hid (HY.out.same hs)
            clear hae hln hs
            cases hf : findY ys x 0 with
            | none =>
              have HYF := Lib.hid (yFind_none hf)
              clear hf
              go_wp2_with fail
              refine (find_to HYW.out HYF.out).mono ?_
              rintro e' w6 ⟨rfl, h6, hs6⟩
              clear hs6
              go_wp2_with fail
              refine (len_to h6 HLN.out).mono ?_
              rintro e' w7 ⟨rfl, h7, hs7⟩
              have hb7 := h7.bel
              clear h6 h7 hs7
              go_wp2_with fail
              refine (awake_any _).mono ?_
              rintro e w9 ⟨rfl, hb9⟩
              go_wp2
              go_ret
              exact below_end hb7 hb9
            | some r =>
              have HYF := Lib.hid (yFind_some (i := r.1) (m := r.2) hf)
              generalize lenAt ys r.1 - 1 - r.2 = q at HYF
              generalize r.1 = r1 at HYF
              clear hf
              go_wp2_with fail
              refine (find_to HYW.out HYF.out).mono ?_
              rintro e' w6 ⟨rfl, h6, hs6⟩
              clear hs6
              go_wp2_with fail
              refine (len_to h6 HLN.out).mono ?_
              rintro e' w7 ⟨rfl, h7, hs7⟩
              have hb7 := h7.bel
              clear h6 h7 hs7
              go_wp2_with fail
              refine (awake_any _).mono ?_
              rintro e w9 ⟨rfl, hb9⟩
              go_wp2
              go_ret
              exact below_end hb7 hb9

theorem own : ownKnob Try.prog.godebug = none := by kernel_rfl
theorem laidOut : laidOutB Try.prog = true := by kernel_rfl

set_option maxRecDepth 100000 in
theorem lifted (os : Os) (started : os.Started) (H : Type) (enc : TypeId × Value → H) :
    ReturnsInHanded {} Try.checked os 7 .any (Rows.yardFindsSpec.pre6 enc Try.prog Try.f7 Rows.yardFindsRow.domain false) (Rows.yardFindsSpec.post enc Try.prog Try.f7 false true false false) := by
  refine returnsInHanded_of_change (C := Try.checked) own started (by kernel_rfl) Try.func7
    (ChangeSpec.witness6 (enc := enc) (C := Try.checked) false ⟨#[], #[.agg #[.int .i64 0, .int .i64 0], .slice none 0 0, .string ⟨#[]⟩], []⟩ 8 (by kernel_rfl) (by kernel_rfl) (by kernel_rfl) (by kernel_rfl)) ?_
  intro W base args ds gs before hval0 hW hcnd _
  have hval : ∀ (j : Nat) t v, Try.f7.params[j]? = some t → args[j]? = some v → Value.okWide Try.prog W .any base t v := hval0
  have hW' := hW
  obtain ⟨p, q, hA0, hV, rfl, hfz, hnd⟩ := hW
  have hA : DataW.TrodAll enc Try.prog W 0 (fun _ => true) true Try.f7.params.toList args.toList ds p := hA0
  rw [Try.params7] at hA hval
  obtain ⟨v0, vs0, d0, ds0, p0, q0, hargs, rfl, rfl, h0, r0⟩ := trodAll_cons hA
  obtain ⟨v1, vs1, d1, ds1, p1, q1, rfl, rfl, rfl, h1, r1⟩ := trodAll_cons r0
  obtain ⟨v2, vs2, d2, ds2, p2, q2, rfl, rfl, rfl, h2, r2⟩ := trodAll_cons r1
  obtain ⟨rfl, rfl, rfl⟩ := trodAll_nil r2
  obtain rfl : args = #[v0, v1, v2] := by cases args; simp_all
  obtain ⟨rfl, rfl⟩ := trodVars_none hV
  have k0 := h0
  have lt0 : ∀ x ∈ p0, x.block < W.heap.size := by obtain ⟨m, hm⟩ := k0; exact DataW.trod_lt m _ _ _ hm
  have ok0 := hval 0 23 v0 rfl rfl
  obtain ⟨n0, c0, rfl, hn0⟩ := open_size ok0 h0
  have k1 := h1
  have lt1 : ∀ x ∈ p1, x.block < W.heap.size := by obtain ⟨m, hm⟩ := k1; exact DataW.trod_lt m _ _ _ hm
  have ok1 := hval 1 24 v1 rfl rfl
  obtain ⟨A1, len1, cap1, xs1, rfl, hx1⟩ := open_ops ok1 h1
  have k2 := h2
  have lt2 : ∀ x ∈ p2, x.block < W.heap.size := by obtain ⟨m, hm⟩ := k2; exact DataW.trod_lt m _ _ _ hm
  have ok2 := hval 2 9 v2 rfl rfl
  obtain ⟨s2, rfl, hs2⟩ := open_str ok2 h2
  clear hA0 hval0
  refine (walk n0 c0 A1 len1 cap1 xs1 s2 hn0 W hx1).mono fun e W' ⟨he, bel⟩ => ?_
  subst he
  exact ⟨_, rfl, _, _, _, [], _, [], hW', trodAll_mk1 (shut_bool Try.underlying4 _), (trodAll_cons_mk (Below.trod laidOut (by kernel_rfl) (of_decide_eq_true (by kernel_rfl)) k0 bel lt0) (trodAll_cons_mk (Below.trod laidOut (by kernel_rfl) (of_decide_eq_true (by kernel_rfl)) k1 bel lt1) (trodAll_cons_mk (Below.trod laidOut (by kernel_rfl) (of_decide_eq_true (by kernel_rfl)) k2 bel lt2) trodAll_mk0))), rfl, bel.frame _, fun h => by cases h⟩

theorem over : Rows.yardFindsRow.holds Try.pinned (OpenSpec.ofChange Rows.yardFindsSpec) :=
  OpenClaim.holds_of_wide 7 Try.f7 rfl rfl rfl rfl rfl rfl rfl ⟨rfl, rfl, rfl, rfl, rfl⟩ rfl rfl rfl rfl rfl (by kernel_rfl) Try.func7 (by kernel_rfl)
    (of_decide_eq_true (by kernel_rfl)) (by unfold Func.isWrapper; first | (rw [if_pos (by decide +kernel)]; kernel_rfl) | (rw [if_neg (by decide +kernel)]; exact ⟨rfl, rfl⟩))
    (fun os started H enc _ => lifted os started H enc)

theorem proved : Rows.YardFindsSaid := over
end Go.Proofs.Ytahommgchnbnjaa.yardFinds
