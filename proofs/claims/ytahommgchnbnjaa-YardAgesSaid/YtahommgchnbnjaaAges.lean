/-
  YardAges returns true for every size and every list of calls.
-/
import Derived.Test.YtahommgchnbnjaaArgs
import Derived.Test.YtahommgchnbnjaaPlainc
namespace Go.Proofs.Ytahommgchnbnjaa.yardAges
open Go.ChangeShapes Go.WideShapes Go.ChangeAt Go.RowKit
attribute [local go_sem ↓] Go.wp_at_zero Go.wp_at_succ

/-- What holds while items are put. -/
structure R1 (w : World) (g b c : Nat) (k : Nat) (v : Value) (wr : World) (al : List Ent) (p : Nat) (ys : Ys) : Prop where
  pk : p ≤ k
  y : YB w (fun i => v.ownBlock = some i) wr g b c p ys
  inv : Inv ys p al
  ak : al.length ≤ k
  own : wr.ownsRow w.heap.size 9 1 v al.length (cellsS (al.map Prod.fst))
theorem R1.stay {w wr wr' : World} {g b c k p p' : Nat} {v : Value} {al : List Ent} {ys ys' : Ys} (h : R1 w g b c k v wr al p ys) (hp : p' = p) (hys : ys' = ys) (hY : YB w (fun i => v.ownBlock = some i) wr' g b c p' ys') (hf : Fr (fun i => ¬ v.ownBlock = some i) wr wr') : R1 w g b c (k + 1) v wr' al p' ys' := by
  subst hp
  subst hys
  exact ⟨Nat.le_succ_of_le h.pk, hY, h.inv, Nat.le_succ_of_le h.ak, own_fr h.own hf (fun i hi hn => hn hi)⟩
theorem R1.more {w w1 w2 : World} {g b c k p : Nat} {v v' : Value} {al : List Ent} {ys : Ys} {x : Bs} {o : Obj} (pk : p ≤ k) (al_ : al.length ≤ k) (hY : YB w (fun i => v.ownBlock = some i) w1 g b c (p + 1) ys) (hI : Inv ys (p + 1) (al ++ [(x, p)])) (ho : w1.ownsRow w.heap.size 9 1 v al.length (cellsS (al.map Prod.fst)))
    (hown : w2.ownsRow w.heap.size 9 1 v' (al.length + 1) (cellsS (al.map Prod.fst) ++ [.string x])) (hgr : (w1.alloc o).grownBy w2 v.ownBlock) (hat : v'.ownBlock = v.ownBlock ∨ v'.ownBlock = some (w1.alloc o).heap.size) : R1 w g b c (k + 1) v' w2 (al ++ [(x, p)]) (p + 1) ys := by
  have f : Fr (fun i => v.ownBlock = some i) w1 w2 := ((Fr.refl _ _).alloc o).trans (Fr.of_row hgr)
  have hz := f.size
  have hza : (w1.alloc o).heap.size = w1.heap.size + 1 := by simp
  have hz2 := hgr.size
  refine ⟨by omega, (hY.growK f (fun i hi => ⟨hi, own_base ho hi⟩)).mono (fun i hi => ?_), hI, by simp; omega, ?_⟩
  · rcases hat with e | e
    · exact .inl (by rw [← e]; exact hi)
    · have hl := (own_lt hown hi).2
      rw [e, hza] at hi
      cases hi
      exact .inr ⟨by omega, hl⟩
  · rw [List.length_append, List.map_append]
    have e : cellsS (al.map Prod.fst ++ [(x, p)].map Prod.fst) = cellsS (al.map Prod.fst) ++ [.string x] := by simp [cellsS]
    rw [e]
    exact hown

/-- What holds while items are taken. -/
structure R2 (w : World) (g b c : Nat) (A : Option Addr) (N : Nat) (xs : List Bs) (al : List Ent) (wr : World) (p : Nat) (ys : Ys) : Prop where
  y : YB w (fun i => InA A i) wr g b c p ys
  inv : Inv ys p al
  rs : RS wr A N xs

theorem below_end {w w2 w9 : World} (t : Below w.heap.size w w2) (h : Below w2.heap.size w2 w9) : (Ending.returned (.bool true)) = .returned (.bool true) ∧ Below w.heap.size w w9 := ⟨rfl, t.trans (h.mono t.size)⟩

set_option maxRecDepth 100000 in
set_option maxHeartbeats 4000000 in
theorem walk (n c : Int) (A : Option Addr) (len cap : Nat) (xs : List OpD) (hw : SizeW n c) (w : World) (hx : IsOps w A len xs) : Calls Try.prog 3 #[SizeV n c, .slice A len cap] w fun e w' => e = .returned (.bool true) ∧ Below w.heap.size w w' := by
  obtain ⟨i0, hi0, hz0, hz1, hz2⟩ := info_parts info9
  have hal : Same w (w.alloc (.cells #[.int .i64 n, .int .i64 c] 23)) := (Fr.refl _ _).alloc _
  have HX := Lib.hid hx
  have HX0 := Lib.hid (hx.same hal.below)
  have hml := hx.2.1
  have hxl := hx.1
  have kn : ByteArray.toList nul = [] := by decide +kernel
  clear hx hw
  unfold SizeV
  go_enter Try.func3, Try.ntmps3
  go_wp2_with fail
  refine (short_any A len cap xs _ HX0.out).mono ?_
  rintro e w1 ⟨bb, rfl, rfl, hb⟩
  have bel0 := hal.below
  cases bb with
  | false =>
    clear hb
    go_wp2_with fail
    refine (awake_any _).mono ?_
    rintro e w9 ⟨rfl, hb9⟩
    go_wp2
    go_ret
    exact below_end bel0 hb9
  | true =>
    have hlen := hb rfl
    clear hb
    by_cases hbad : NewBad n c
    · go_wp2_with fail
      refine (new_bad n c _ hbad).mono ?_
      rintro e w' ⟨rfl, rfl⟩
      go_wp2_with fail
      refine (awake_any _).mono ?_
      rintro e w9 ⟨rfl, hb9⟩
      go_wp2
      go_ret
      exact below_end bel0 hb9
    · have hg : (1 ≤ n ∧ n ≤ 16) ∧ 1 ≤ c ∧ c ≤ 32 := by unfold NewBad at hbad; omega
      obtain ⟨⟨g1, g2⟩, g3, g4⟩ := hg
      obtain ⟨n, rfl⟩ : ∃ k : Nat, n = (k : Int) := ⟨n.toNat, by omega⟩
      obtain ⟨c, rfl⟩ : ∃ k : Nat, c = (k : Int) := ⟨c.toNat, by omega⟩
      clear hbad
      go_wp2_with fail
      refine (new_yb n c _ (by omega) (by omega) (by omega) (by omega)).mono ?_
      rintro e w2 ⟨rfl, h2, hs2⟩
      replace h2 := h2.base bel0
      have HR : Hid (R1 w (w.heap.size + 1 + 1) (w.heap.size + 1) c 0 (.slice none 0 0) w2 [] 0 (List.replicate n [])) := by
        refine ⟨Nat.le_refl _, ?_, inv_new n, Nat.le_refl _, ⟨rfl, .inl ⟨rfl, rfl⟩⟩⟩
        have h3 := h2.mono (K' := fun i => (Value.slice none 0 0).ownBlock = some i) (fun i hi => by cases hi)
        simpa using h3
      clear h2 hs2 hal
      go_wp2
      go_loopw [7, 8] (fun v i wr => ∃ k : Nat, k ≤ len ∧ i = .int .i64 k ∧ ∃ al p ys, R1 w (w.heap.size + 1 + 1) (w.heap.size + 1) c k v wr al p ys) (fun _ i _ => len - (intOf i).toNat)
      case atStart => exact ⟨0, by omega, rfl, [], 0, _, HR.out⟩
      case round =>
        obtain ⟨k, hk, rfl, al, p, ys, hR⟩ := hrel
        clear HR
        by_cases hlt : k < len
        · obtain ⟨y, hy⟩ : ∃ y, xs[k]? = some y := ⟨xs[k]'(by omega), List.getElem?_eq_getElem _⟩
          obtain ⟨bb, o, rfl, hbl, -, c1, c2, hwf⟩ := HX.out.2.2 k y hy
          have i1 : (0 : Int) ≤ (k : Int) := by omega
          have i2 : (k : Int) < (len : Int) := by omega
          have HC : Hid (∀ W, Below w.heap.size w W → W.cell? ⟨bb, o + k * 3 + 1, none⟩ = some (.int .i64 y.bay) ∧ W.cell? ⟨bb, o + k * 3 + 2, none⟩ = some (.string y.item)) := fun W hW => ⟨(hW.cell (p := ⟨bb, _, none⟩) hbl).trans c1, (hW.cell (p := ⟨bb, _, none⟩) hbl).trans c2⟩
          obtain ⟨d1, d2⟩ := HC.out _ hR.y.bel
          have hp := hR.pk
          have HP := Lib.hid (fun W (hW : YB w (fun i => u7.ownBlock = some i) W (w.heap.size + 1 + 1) (w.heap.size + 1) c p ys) => put_yb (x := y.item) hW (by omega) hwf.2.1)
          have hY := hR.y
          clear hy hwf c1 c2
          go_upto_region 10 with fail
          go_region_held3 (fun W => W.cell? ⟨bb, o + k * 3 + 1, none⟩ = some (.int .i64 y.bay) ∧ W.cell? ⟨bb, o + k * 3 + 2, none⟩ = some (.string y.item))
            (first | exact ⟨d1, d2⟩ | exact HC.out _ hY5.bel)
            ((go_at_call 12; (first | refine (HP.out _ hY).mono ?_ | refine (HP.out _ (hY.same ((Fr.refl _ _).drew))).mono ?_); rintro e w5 ⟨rfl, hY5, hf5⟩))
          have hf6 : Fr (fun i => ¬ u7.ownBlock = some i) wr w5 := ⟨hf5.os, hf5.tape, hf5.output, hf5.size, hf5.block⟩
          clear hf5 hY HP
          rcases put_cases c ys p y.bay y.item with ⟨ec, he, hput⟩ | ⟨kk, es, hi, hes, hx, hf, hl, hput⟩
          · rw [hput] at hY5 ⊢
            simp only at hY5 ⊢
            have HRR := Lib.hid (hR.stay rfl rfl hY5 hf6)
            have t : (ec == 0) = false := by simp [he]
            clear he hput hR hY5 hf6
            go_wp2
            go_roundw
            case rel => exact ⟨k + 1, by omega, by go_num, al, p, ys, HRR.out⟩
            case measure => simp [intOf]; omega
          · rw [hput] at hY5 ⊢
            simp only at hY5 ⊢
            have HI := Lib.hid (hR.inv.put hes hx hf)
            have HO := Lib.hid (own_fr hR.own hf6 (fun i hi hn => hn hi))
            have hak := hR.ak
            obtain ⟨e1, e2⟩ := HC.out _ hY5.bel
            have hz5 := hY5.bel.size
            have HY5 := Lib.hid hY5
            clear hput hR hY5 hf6 hes hx hf hi d1 d2
            go_wp2_with ((at_builtin; refine wpList_append_any _ rfl _ _ 31 rfl w.heap.size 9 i0 _ 1 16 Try.underlying31 hi0 hz0 hz1 hz2 rfl (by decide) _ al.length _ rfl (HO.out.alloc _) (w5.heap.size + 1) (some ⟨w5.heap.size, 0, none⟩) 1 1 [.string y.item] rfl (reads_one w5 9 (.string y.item)) (by simp [Value.oneCell']) (by unfold maxLen; omega) (by omega) (by simp; omega) ?_; intro v' w6 hown6 hgr6 hat6))
            have HRR := Lib.hid (R1.more hp hak HY5.out HI.out HO.out hown6 hgr6 hat6)
            clear hown6 hgr6 hat6
            go_wp2
            go_roundw
            case rel => exact ⟨k + 1, by omega, by go_num, _, _, _, HRR.out⟩
            case measure => simp [intOf]; omega
        · obtain ⟨A', cap', rfl, hrs, hin⟩ := RS.of_own hR.own (by simp)
          have hak := hR.ak
          have HR2 : Hid (R2 w (w.heap.size + 1 + 1) (w.heap.size + 1) c A' al.length (al.map Prod.fst) (al.drop 0) wr p ys) := ⟨hR.y.mono hin, hR.inv, hrs⟩
          clear hR hrs hin
          go_wp2
          go_loopw [9] (fun i wr => ∃ k : Nat, k ≤ al.length ∧ i = .int .i64 k ∧ ∃ ys, R2 w (w.heap.size + 1 + 1) (w.heap.size + 1) c A' al.length (al.map Prod.fst) (al.drop k) wr p ys) (fun i _ => al.length - (intOf i).toNat)
          case atStart => exact ⟨0, by omega, rfl, _, HR2.out⟩
          case round =>
            obtain ⟨j, hj, rfl, ys, hR⟩ := hrel
            clear HR2
            by_cases hjl : j < al.length
            · obtain ⟨a, ha⟩ : ∃ a, al[j]? = some a := ⟨al[j], List.getElem?_eq_getElem hjl⟩
              have hdr : al.drop j = a :: al.drop (j + 1) := by
                rw [List.drop_eq_getElem_cons hjl]
                rw [List.getElem?_eq_getElem hjl] at ha
                rw [Option.some.inj ha]
              have hI := hR.inv
              rw [hdr] at hI
              have hold := hI.old
              have hY := hR.y
              have hrs := hR.rs
              have hra : (al.map Prod.fst)[j]? = some a.1 := by simp [ha]
              have j1 : (0 : Int) ≤ (j : Int) := by omega
              have j2 : (j : Int) < (al.length : Int) := by omega
              have HJ := Lib.hid hra
              clear hR ha hdr hra
              go_wp2_with fail
              refine (oldest_to (x := a.1) (f := true) hY (by rw [hold]; rfl)).mono ?_
              rintro e w5 ⟨rfl, hY5, hs5⟩
              have hrs5 := hrs.same hs5
              obtain ⟨g5, o5, rfl, c5, _⟩ := hrs5.2.2 j a.1 HJ.out
              clear hY hrs hs5 hold
              have HRS := Lib.hid hrs5
              clear hrs5
              go_wp2_with fail
              refine (take_yb (x := a.1) hY5).mono ?_
              rintro e w6 ⟨rfl, hY6, hf6⟩
              rcases take_cases c ys a.1 with ⟨hn, _⟩ | ⟨_, _, _, het⟩ | ⟨i, m, es, e0, ys', ht⟩
              · have := (hI.is a.1).2 (by simp)
                rw [hn] at this
                cases this
              · rw [het] at hY6 ⊢
                simp only at hY6 ⊢
                clear hY5 hf6 het c5
                have hb6 := hY6.bel
                go_wp2_with fail
                refine (awake_any _).mono ?_
                rintro e w9 ⟨rfl, hb9⟩
                go_wp2
                go_ret
                exact below_end hb6 hb9
              · rw [ht.e] at hY6 ⊢
                simp only at hY6 ⊢
                have hI2 := hI.take ht.hx ht.perm
                rw [take_head hI.nd] at hI2
                have HRR : Hid (R2 w (w.heap.size + 1 + 1) (w.heap.size + 1) c (some ⟨g5, o5, none⟩) al.length (al.map Prod.fst) (al.drop (j + 1)) w6 p ys') := ⟨hY6, hI2, HRS.out.keep hf6 (fun i hi => hi)⟩
                generalize lenAt ys i - 1 - m = mv
                clear hI hI2 hY5 hY6 hf6 ht c5 HRS
                go_wp2
                go_roundw
                case rel => exact ⟨j + 1, by omega, by go_num, ys', HRR.out⟩
                case measure => simp [intOf]; omega
            · have hdr : al.drop j = [] := List.drop_eq_nil_of_le (by omega)
              have hI := hR.inv
              rw [hdr] at hI
              have hold := hI.old
              have hln := hI.len
              have hY := hR.y
              have HLN := Lib.hid hln
              have HOL := Lib.hid hold
              clear hR hdr hI hold hln
              go_wp2_with fail
              refine (oldest_to (x := nul) (f := false) hY (by rw [HOL.out]; rfl)).mono ?_
              rintro e w5 ⟨rfl, hY5, hs5⟩
              clear hs5 hY
              go_wp2_with fail
              refine (len_to (n := 0) hY5 HLN.out).mono ?_
              rintro e w6 ⟨rfl, hY6, hs6⟩
              have hb6 := hY6.bel
              clear hs6 hY5 hY6
              go_wp2_with fail
              refine (awake_any _).mono ?_
              rintro e w9 ⟨rfl, hb9⟩
              go_wp2
              go_ret
              exact below_end hb6 hb9

theorem own : ownKnob Try.prog.godebug = none := by kernel_rfl
theorem laidOut : laidOutB Try.prog = true := by kernel_rfl

set_option maxRecDepth 100000 in
theorem lifted (os : Os) (started : os.Started) (H : Type) (enc : TypeId × Value → H) :
    ReturnsInHanded {} Try.checked os 3 .any (Rows.yardAgesSpec.pre6 enc Try.prog Try.f3 Rows.yardAgesRow.domain false) (Rows.yardAgesSpec.post enc Try.prog Try.f3 false true false false) := by
  refine returnsInHanded_of_change (C := Try.checked) own started (by kernel_rfl) Try.func3
    (ChangeSpec.witness6 (enc := enc) (C := Try.checked) false ⟨#[], #[.agg #[.int .i64 0, .int .i64 0], .slice none 0 0], []⟩ 8 (by kernel_rfl) (by kernel_rfl) (by kernel_rfl) (by kernel_rfl)) ?_
  intro W base args ds gs before hval0 hW hcnd _
  have hval : ∀ (j : Nat) t v, Try.f3.params[j]? = some t → args[j]? = some v → Value.okWide Try.prog W .any base t v := hval0
  have hW' := hW
  obtain ⟨p, q, hA0, hV, rfl, hfz, hnd⟩ := hW
  have hA : DataW.TrodAll enc Try.prog W 0 (fun _ => true) true Try.f3.params.toList args.toList ds p := hA0
  rw [Try.params3] at hA hval
  obtain ⟨v0, vs0, d0, ds0, p0, q0, hargs, rfl, rfl, h0, r0⟩ := trodAll_cons hA
  obtain ⟨v1, vs1, d1, ds1, p1, q1, rfl, rfl, rfl, h1, r1⟩ := trodAll_cons r0
  obtain ⟨rfl, rfl, rfl⟩ := trodAll_nil r1
  obtain rfl : args = #[v0, v1] := by cases args; simp_all
  obtain ⟨rfl, rfl⟩ := trodVars_none hV
  have k0 := h0
  have lt0 : ∀ x ∈ p0, x.block < W.heap.size := by obtain ⟨m, hm⟩ := k0; exact DataW.trod_lt m _ _ _ hm
  have ok0 := hval 0 23 v0 rfl rfl
  obtain ⟨n0, c0, rfl, hn0⟩ := open_size ok0 h0
  have k1 := h1
  have lt1 : ∀ x ∈ p1, x.block < W.heap.size := by obtain ⟨m, hm⟩ := k1; exact DataW.trod_lt m _ _ _ hm
  have ok1 := hval 1 24 v1 rfl rfl
  obtain ⟨A1, len1, cap1, xs1, rfl, hx1⟩ := open_ops ok1 h1
  clear hA0 hval0
  refine (walk n0 c0 A1 len1 cap1 xs1 hn0 W hx1).mono fun e W' ⟨he, bel⟩ => ?_
  subst he
  exact ⟨_, rfl, _, _, _, [], _, [], hW', trodAll_mk1 (shut_bool Try.underlying4 _), (trodAll_cons_mk (Below.trod laidOut (by kernel_rfl) (of_decide_eq_true (by kernel_rfl)) k0 bel lt0) (trodAll_cons_mk (Below.trod laidOut (by kernel_rfl) (of_decide_eq_true (by kernel_rfl)) k1 bel lt1) trodAll_mk0)), rfl, bel.frame _, fun h => by cases h⟩

theorem over : Rows.yardAgesRow.holds Try.pinned (OpenSpec.ofChange Rows.yardAgesSpec) :=
  OpenClaim.holds_of_wide 3 Try.f3 rfl rfl rfl rfl rfl rfl rfl ⟨rfl, rfl, rfl, rfl, rfl⟩ rfl rfl rfl rfl rfl (by kernel_rfl) Try.func3 (by kernel_rfl)
    (of_decide_eq_true (by kernel_rfl)) (by unfold Func.isWrapper; first | (rw [if_pos (by decide +kernel)]; kernel_rfl) | (rw [if_neg (by decide +kernel)]; exact ⟨rfl, rfl⟩))
    (fun os started H enc _ => lifted os started H enc)

theorem proved : Rows.YardAgesSaid := over
end Go.Proofs.Ytahommgchnbnjaa.yardAges
