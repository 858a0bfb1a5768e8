/-
  The walk of Take.
-/
import Derived.Test.YtahommgchnbnjaaWalkf
namespace Go.Proofs.Ytahommgchnbnjaa
open Go.RowKit
attribute [local go_sem ↓] Go.wp_at_zero Go.wp_at_succ

/-- The yard at w0 has become Z at W. -/
structure MR (w0 : World) (g b c p n : Nat) (l0 : List Bay) (W : World) (Z : List Bay) : Prop where
  y : IsY W g b Z c p
  u : Upd w0 W g b l0 Z
  n : Z.length = n
section
variable {w0 W W' : World} {g b c p n : Nat} {l0 Z : List Bay}
theorem MR.same (h : MR w0 g b c p n l0 W Z) (hs : Same W W') : MR w0 g b c p n l0 W' Z := ⟨h.y.same hs, h.u.trans (Upd.same hs _ _ _), h.n⟩
theorem MR.drew (h : MR w0 g b c p n l0 W Z) : MR w0 g b c p n l0 W.drew Z := h.same ((Fr.refl _ _).drew)
theorem MR.cell (h : MR w0 g b c p n l0 W Z) : W.cell? ⟨g, 0, none⟩ = some (.slice (some ⟨b, 0, none⟩) n n) := by
  have := h.y.blk.cell 0
  rw [h.n] at this
  exact this
theorem first_m {i j : Nat} (h : MR w0 g b c p n l0 W Z) (hj : firstS c (Z.map Bay.es) i = j) : Calls Try.prog 28 #[.pointer (some ⟨g, 0, none⟩), .int .i64 i] W fun e W' => e = .returned (.int .i64 j) ∧ MR w0 g b c p n l0 W' Z := by
  subst hj
  refine (first_any g b c p i Z W h.y).mono ?_
  rintro e W' ⟨he, m, rfl⟩
  exact ⟨he, h.same (Same.drewN W m)⟩
theorem pop_m {i : Nat} {x : Bay} {e0 : Ent} (h : MR w0 g b c p n l0 W Z) (hx : Z[i]? = some x) (he : x.es.getLast? = some e0) : Calls Try.prog 29 #[.pointer (some ⟨b, i, none⟩)] W fun e W' => e = .returned (.agg #[.string e0.1, .int .i64 (e0.2 : Nat)]) ∧ ∃ v', MR w0 g b c p n l0 W' (Z.set i ⟨x.es.dropLast, v'⟩) := by
  refine (pop_any g b c p i e0 Z x W h.y hx he).mono ?_
  rintro e W' ⟨he, v', hy, hu⟩
  exact ⟨he, v', hy, h.u.trans hu, by rw [List.length_set]; exact h.n⟩
theorem push_m {j k : Nat} {x : Bay} {s : Bs} (h : MR w0 g b c p n l0 W Z) (hx : Z[j]? = some x) (hl : x.es.length < c) : Calls Try.prog 26 #[.pointer (some ⟨b, j, none⟩), .agg #[.string s, .int .i64 k]] W fun e W' => e = .returned (.tuple #[]) ∧ ∃ v', MR w0 g b c p n l0 W' (Z.set j ⟨x.es ++ [(s, k)], v'⟩) := by
  refine (push_any g b c p j k s Z x W h.y hx hl).mono ?_
  rintro e W' ⟨he, v', hy, hu⟩
  exact ⟨he, v', hy, h.u.trans hu, by rw [List.length_set]; exact h.n⟩
end

/-- How Take ends. -/
def TakeE (w : World) (g b c p : Nat) (ls : List Bay) (y : Ys × Nat × Int) (e : Ending) (w' : World) : Prop := e = .returned (.tuple #[.int .i64 (y.2.1 : Nat), .int .i64 y.2.2]) ∧ ∃ ls', IsY w' g b ls' c p ∧ ls'.map Bay.es = y.1 ∧ Upd w w' g b ls ls'
theorem TakeE.stay {w w' : World} {g b c p : Nat} {ls : List Bay} (h : IsY w g b ls c p) (hs : Same w w') (n : Int) : TakeE w g b c p ls (ls.map Bay.es, 0, n) (.returned (.tuple #[.int .i64 0, .int .i64 n])) w' := ⟨rfl, ls, h.same hs, rfl, Upd.same hs _ _ _⟩

/-- What stands at the head of the loop behind t moves. -/
structure TR (w : World) (g b c p n i : Nat) (ls : List Bay) (t : Nat) (wr : World) : Prop where
  ex : ∃ Z, MR w g b c p n ls wr Z ∧ Z.map Bay.es = movesY c i t (ls.map Bay.es)
  room : roomK c (movesY c i t (ls.map Bay.es)) i n + t = roomK c (ls.map Bay.es) i n
  len : lenAt (movesY c i t (ls.map Bay.es)) i + t = lenAt (ls.map Bay.es) i

theorem bay_of {Z : List Bay} {ys : Ys} (h : Z.map Bay.es = ys) {k : Nat} (hk : k < Z.length) : ∃ x, Z[k]? = some x ∧ ys[k]? = some x.es := by
  refine ⟨Z[k], List.getElem?_eq_getElem hk, ?_⟩
  rw [← h]
  simp [hk]

set_option maxRecDepth 100000 in
set_option maxHeartbeats 2000000 in
theorem take_any (g b c p : Nat) (ls : List Bay) (x : Bs) (w : World) (h : IsY w g b ls c p) :
    Calls Try.prog 14 #[.pointer (some ⟨g, 0, none⟩), .string x] w (TakeE w g b c p ls (yTake c (ls.map Bay.es) x)) := by
  have hl := h.len
  have hc := h.ok.c2
  have H := Lib.hid h
  obtain ⟨n, hn⟩ : ∃ n, ls.length = n := ⟨_, rfl⟩
  rw [hn] at hl
  have HN := Lib.hid hn
  have hlen : (ls.map Bay.es).length = n := by rw [List.length_map, hn]
  have HL := Lib.hid hlen
  obtain ⟨r, hr⟩ : ∃ r, yTake c (ls.map Bay.es) x = r := ⟨_, rfl⟩
  have HR := Lib.hid hr
  rw [hr]
  clear h hn hr hlen
  go_enter Try.func14, Try.ntmps14
  go_wp2_with fail
  refine (find_any g b c p ls x w H.out).mono ?_
  rintro e w3 ⟨rfl, hs3⟩
  cases hf : findY (ls.map Bay.es) x 0 with
  | none =>
    rw [yFind_none hf]
    have HE := Lib.hid (HR.out.symm.trans (yTake_none hf))
    have HS := Lib.hid hs3
    unfold findV
    simp only
    clear hf hs3
    go_wp2
    refine bodyPost_ret (results_tmp2 rfl _ _ _) rfl ?_
    rw [HE.out]
    exact TakeE.stay H.out HS.out 8
  | some q =>
    obtain ⟨i, m⟩ := q
    rw [yFind_some hf]
    obtain ⟨i', es, e, hii, hes, hem, hex, _, _⟩ := findY_inv _ _ _ _ _ hf
    obtain rfl : i = i' := by omega
    have hil : i < n := by have := (List.getElem?_eq_some_iff.1 hes).1; rw [HL.out] at this; exact this
    have hml := (List.getElem?_eq_some_iff.1 hem).1
    have hla := lenAt_some hes
    obtain ⟨a, ha⟩ : ∃ a, lenAt (ls.map Bay.es) i - 1 - m = a := ⟨_, rfl⟩
    obtain ⟨R, hR⟩ : ∃ R, roomK c (ls.map Bay.es) i n = R := ⟨_, rfl⟩
    obtain ⟨L, hL⟩ : ∃ L, lenAt (ls.map Bay.es) i = L := ⟨_, rfl⟩
    have hesc : es.length ≤ c := H.out.ok.le es (List.mem_of_getElem? hes)
    have hR2 : R ≤ 512 := by
      rw [← hR]
      exact Nat.le_trans (roomK_le _ _ _ _) (Nat.mul_le_mul (show n ≤ 16 by omega) hc)
    have haL : a + m + 1 = L := by omega
    have hL2 : L ≤ 32 := by omega
    have HRm := Lib.hid (fun W (hW : Same w W) => room_any g b c p i ls W (H.out.same hW) (by have := HN.out; omega))
    have HE1 : Hid (R < a → r = (ls.map Bay.es, 0, 12)) := fun hlt => HR.out.symm.trans (yTake_full hf (by rw [HL.out, hR, ha]; exact hlt))
    have HE2 : Hid (¬ R < a → r = (popY (movesY c i a (ls.map Bay.es)) i, a, 0)) := fun hlt => by
      have := HR.out.symm.trans (yTake_ok (c := c) hf (by rw [HL.out, hR, ha]; exact hlt))
      rw [ha] at this
      exact this
    rw [ha]
    rw [HN.out, hR] at HRm
    have HLL := Lib.hid hL
    have HRR := Lib.hid hR
    unfold findV
    simp only
    clear hf hes hem hex hla ha hR hL hii hesc
    go_wp2_with fail
    refine (HRm.out _ hs3).mono ?_
    rintro e w4 ⟨rfl, nn, hw4⟩
    have hs4 : Same w w4 := by rw [hw4]; exact Fr.drewN hs3 nn
    clear hw4 HRm hs3
    by_cases hRa : R < a
    · have hRa2 : (R : Int) < (a : Int) := by omega
      have HE := Lib.hid (HE1.out hRa)
      have HS := Lib.hid hs4
      clear hs4
      go_wp2
      refine bodyPost_ret (results_tmp2 rfl _ _ _) rfl ?_
      rw [HE.out]
      exact TakeE.stay H.out HS.out 12
    · have hRa2 : ¬ (R : Int) < (a : Int) := by omega
      have HE := Lib.hid (HE2.out hRa)
      have HT0 : Hid (TR w g b c p n i ls 0 w4) := ⟨⟨ls, ⟨H.out.same hs4, Upd.same hs4 _ _ _, HN.out⟩, rfl⟩, rfl, rfl⟩
      clear hs4 HE1 HE2
      go_wp2
      go_loopw [26] (fun i' wr => ∃ t : Nat, t ≤ a ∧ i' = .int .i64 t ∧ TR w g b c p n i ls t wr) (fun i' _ => a - (intOf i').toNat)
      case atStart => exact ⟨0, by omega, rfl, HT0.out⟩
      case round =>
        obtain ⟨t, ht, rfl, hT⟩ := hrel
        clear HT0
        obtain ⟨⟨Z, hZ, hZm⟩, hroom, hlenT⟩ := hT
        rw [HRR.out] at hroom
        rw [HLL.out] at hlenT
        by_cases hlt : t < a
        · have hlt2 : (t : Int) < (a : Int) := by omega
          have hYl : (movesY c i t (ls.map Bay.es)).length = n := by rw [← hZm, List.length_map, hZ.n]
          obtain ⟨x, hx, hxe⟩ := bay_of hZm (k := i) (by rw [hZ.n]; exact hil)
          have hlx := lenAt_some hxe
          have hne : x.es ≠ [] := fun e => by rw [e] at hlx; simp at hlx; omega
          obtain ⟨e0, he0⟩ : ∃ e0, x.es.getLast? = some e0 := ⟨_, List.getLast?_eq_some_getLast hne⟩
          obtain ⟨fs, k1, k2, k3, k4, k5, k6, k7, k8⟩ := moveY_step (c := c) hxe he0 (by rw [hYl]; omega)
          have hS : Hid (movesY c i (t + 1) (ls.map Bay.es) = ((movesY c i t (ls.map Bay.es)).set i x.es.dropLast).set (firstS c (movesY c i t (ls.map Bay.es)) i) (fs ++ [e0])) := by rw [movesY_succ]; exact k5
          have hS2 : Hid (roomK c (movesY c i (t + 1) (ls.map Bay.es)) i n + (t + 1) = roomK c (ls.map Bay.es) i n) := by
            unfold Hid
            rw [movesY_succ, HRR.out]
            rw [hYl] at k7
            omega
          have hS3 : Hid (lenAt (movesY c i (t + 1) (ls.map Bay.es)) i + (t + 1) = lenAt (ls.map Bay.es) i) := by
            unfold Hid
            rw [movesY_succ, HLL.out]
            omega
          rw [hYl] at k1
          obtain ⟨y, hy, hye⟩ := bay_of hZm (k := firstS c (movesY c i t (ls.map Bay.es)) i) (by rw [hZ.n]; exact k1)
          obtain rfl : y.es = fs := by rw [hye] at k3; exact Option.some.inj k3
          have hF0 : firstS c (Z.map Bay.es) i = firstS c (movesY c i t (ls.map Bay.es)) i := by rw [hZm]
          have hF1 : ∀ v, firstS c ((Z.set i ⟨x.es.dropLast, v⟩).map Bay.es) i = firstS c (movesY c i t (ls.map Bay.es)) i := fun v => by rw [List.map_set, hZm]; exact firstS_set
          have hS4 : Hid (∀ v v', ((Z.set i ⟨x.es.dropLast, v⟩).set (firstS c (movesY c i t (ls.map Bay.es)) i) ⟨y.es ++ [(e0.1, e0.2)], v'⟩).map Bay.es = movesY c i (t + 1) (ls.map Bay.es)) := fun v v' => by rw [hS.out, List.map_set, List.map_set, hZm]
          generalize firstS c (movesY c i t (ls.map Bay.es)) i = j at k1 k2 hy hF0 hF1 hS4
          have hy1 : ∀ v, (Z.set i ⟨x.es.dropLast, v⟩)[j]? = some y := fun v => by rw [List.getElem?_set, if_neg (Ne.symm k2)]; exact hy
          have i1 : (0 : Int) ≤ (j : Int) := by omega
          have i2 : (j : Int) < (n : Int) := by omega
          have i3 : (0 : Int) ≤ (i : Int) := by omega
          have i4 : (i : Int) < (n : Int) := by omega
          have q0 := hZ.cell
          have HF0 := Lib.hid hF0
          have HF1 := Lib.hid hF1
          have HY1 := Lib.hid hy1
          have HX := Lib.hid hx
          have HX0 := Lib.hid he0
          have K4 := Lib.hid k4
          clear hF0 hF1 hy1 hx he0 k3 k4 k5 k6 k7 k8 hS hye hy hne hlx hxe hYl hZm
          go_upto_region 10 with fail
          go_region_held3 (fun W => W.cell? ⟨g, 0, none⟩ = some (.slice (some ⟨b, 0, none⟩) n n))
            (first | exact q0 | exact hC.cell | exact hB.cell | exact hA.cell)
            (first | (go_at_call 28; (first | refine (first_m hB (HF1.out _)).mono ?_ | refine (first_m hB.drew (HF1.out _)).mono ?_ | refine (first_m hZ HF0.out).mono ?_ | refine (first_m hZ.drew HF0.out).mono ?_); rintro e wA ⟨rfl, hA⟩) | (go_at_call 29; (first | refine (pop_m hA HX.out HX0.out).mono ?_ | refine (pop_m hA.drew HX.out HX0.out).mono ?_ | refine (pop_m hZ HX.out HX0.out).mono ?_ | refine (pop_m hZ.drew HX.out HX0.out).mono ?_); rintro e wB ⟨rfl, vB, hB⟩) | (go_at_call 26; (first | refine (push_m hA (HY1.out _) K4.out).mono ?_ | refine (push_m hB (HY1.out _) K4.out).mono ?_); rintro e wC ⟨rfl, vC, hC⟩))
          all_goals
            have HT : Hid (TR w g b c p n i ls (t + 1) wC) := ⟨⟨_, hC, hS4.out _ _⟩, hS2.out, hS3.out⟩
            clear hA hB hC hZ
            go_wp2
            go_roundw
            case rel => exact ⟨t + 1, by omega, by go_num, HT.out⟩
            case measure => simp [intOf]; omega
        · have hta : t = a := by omega
          subst hta
          obtain ⟨x, hx, hxe⟩ := bay_of hZm (k := i) (by rw [hZ.n]; exact hil)
          have hlx := lenAt_some hxe
          have hne : x.es ≠ [] := fun e => by rw [e] at hlx; simp at hlx; omega
          obtain ⟨e0, he0⟩ : ∃ e0, x.es.getLast? = some e0 := ⟨_, List.getLast?_eq_some_getLast hne⟩
          have i3 : (0 : Int) ≤ (i : Int) := by omega
          have i4 : (i : Int) < (n : Int) := by omega
          have q0 := hZ.cell
          have HPZ : Hid (∀ v, (Z.set i ⟨x.es.dropLast, v⟩).map Bay.es = popY (movesY c i t (ls.map Bay.es)) i) := fun v => by
            rw [List.map_set, hZm]
            unfold popY
            rw [hxe]
            rfl
          clear hxe hlx hne hZm
          go_wp2_with fail
          refine (pop_m hZ hx he0).mono ?_
          rintro e w6 ⟨rfl, v6, h6⟩
          have H6 := Lib.hid h6
          clear hZ h6 hx he0
          go_wp2
          refine bodyPost_ret (results_tmp2 rfl _ _ _) rfl ?_
          rw [HE.out]
          exact ⟨rfl, _, H6.out.y, HPZ.out _, H6.out.u⟩

end Go.Proofs.Ytahommgchnbnjaa
