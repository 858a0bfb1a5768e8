/-
  The walk of the reference's Take.
-/
import Derived.Test.YtahommgchnbnjaaRefd
import Derived.IntWalk
namespace Go.Proofs.Ytahommgchnbnjaa
open Go.RowKit
attribute [local go_sem ↓] Go.wp_at_zero Go.wp_at_succ

/-- The yard that Take works on, in a variable at h2. -/
structure XS (w : World) (K : Nat → Prop) (c n : Nat) (A : Option Addr) (cap : Nat) (G : Option Addr) (m capG h2 : Nat) (W : World) (A' : Option Addr) (cap' : Nat) (ts : List (List Bs)) : Prop where
  bx : RBox w W w.heap.size (.int .i64 c) (.slice A n cap) (.slice G m capG)
  b2 : Blk W h2 47 #[.int .i64 c, .slice A' n cap', .slice G m capG]
  lo : w.heap.size + 1 + 1 ≤ h2
  rb : RB (fun j => K j ∨ (w.heap.size + 1 + 1 ≤ j ∧ j < W.heap.size ∧ j ≠ h2)) W A' n ts
section
variable {w W W5 W6 : World} {K : Nat → Prop} {c n cap m capG h2 cap' cap6 : Nat} {A G A' A6 : Option Addr} {ts ts6 : List (List Bs)}
theorem XS.same (h : XS w K c n A cap G m capG h2 W A' cap' ts) (hs : Same W W5) : XS w K c n A cap G m capG h2 W5 A' cap' ts :=
  ⟨h.bx.to hs, h.b2.fr hs (fun x => x), h.lo, (h.rb.same hs).mono fun j hj => hj.elim .inl fun hj => .inr ⟨hj.1, Nat.lt_of_lt_of_le hj.2.1 hs.size, hj.2.2⟩⟩
theorem XS.turn (h : XS w K c n A cap G m capG h2 W A' cap' ts) (hK : ∀ i, K i → i < w.heap.size) (hs : Same W W6) (hR : RB (fun j => K j ∨ (w.heap.size + 1 + 1 ≤ j ∧ j < W6.heap.size ∧ j ≠ h2)) W6 A6 n ts6) :
    XS w K c n A cap G m capG h2 (((W6.setCell ⟨h2, 0, none⟩ (.int .i64 c)).setCell ⟨h2, 1, none⟩ (.slice A6 n cap6)).setCell ⟨h2, 2, none⟩ (.slice G m capG)) A6 cap6 ts6 := by
  have f := fr3 W6 h2 (.int .i64 c) (.slice A6 n cap6) (.slice G m capG)
  have h6 := h.same hs
  have lo := h.lo
  refine ⟨⟨h6.bx.b0.fr f (by omega), h6.bx.b1.fr f (by omega), fr_trans2 h6.bx.same f (fun i hi e => by omega), Nat.le_refl _⟩, h6.b2.set3, h.lo, ?_⟩
  have hR2 := hR.fr f (fun j hj e => by
    rcases hj with hj | hj
    · have := hK j hj; omega
    · exact hj.2.2 e)
  exact hR2.mono fun j hj => hj.elim .inl fun hj => .inr ⟨hj.1, Nat.lt_of_lt_of_le hj.2.1 f.size, hj.2.2⟩
theorem XS.chg {i : Nat} {xs : List Bs} {u : Value} (h : XS w K c n A cap G m capG h2 W A' cap' ts) (hs : Same W W5) (hi : i < n) (hu : PV (fun j => W.heap.size ≤ j ∧ j < W5.heap.size) W5 xs u) :
    Calls Try.prog 34 #[rv c A' n cap' G m capG, .int .i64 i, u] W5 fun e W6 => ∃ A6 cap6, e = .returned (rv c A6 n cap6 G m capG) ∧ Same W5 W6 ∧ RB (fun j => K j ∨ (w.heap.size + 1 + 1 ≤ j ∧ j < W6.heap.size ∧ j ≠ h2)) W6 A6 n (ts.set i xs) := by
  have hl := h.b2.lt
  have lo := h.lo
  have hz := hs.size
  have hR : RB (fun j => K j ∨ (w.heap.size + 1 + 1 ≤ j ∧ j < W5.heap.size ∧ j ≠ h2)) W5 A' n ts := (h.same hs).rb
  refine (changed_any (fun j => K j ∨ (w.heap.size + 1 + 1 ≤ j ∧ j < W5.heap.size ∧ j ≠ h2)) c A' n cap' G m capG ts i xs u W5 hR hi (hu.mono fun j hj => .inr ⟨by omega, hj.2, by omega⟩)).mono ?_
  rintro e W6 ⟨A6, cap6, he, hs6, hR6⟩
  have hz6 := hs6.size
  refine ⟨A6, cap6, he, hs6, hR6.mono fun j hj => ?_⟩
  rcases hj with (hj | hj) | hj
  · exact .inl hj
  · exact .inr ⟨hj.1, by omega, hj.2.2⟩
  · exact .inr ⟨by omega, hj.2, by omega⟩
theorem XS.bay {k : Nat} {xs : List Bs} (h : XS w K c n A cap G m capG h2 W A' cap' ts) (hk : ts[k]? = some xs) : ∃ g o B capB, A' = some ⟨g, o, none⟩ ∧ W.cell? ⟨g, o + k, none⟩ = some (.slice B xs.length capB) ∧ xs.length ≤ capB ∧ capB ≤ 9223372036854775807 ∧ RS W B xs.length xs := by
  obtain ⟨g, o, v, e, c0, _, B, capB, rfl, h1, h2, hr, _⟩ := h.rb.2.2.2 k xs hk
  exact ⟨g, o, B, capB, e, c0, h1, h2, hr⟩
end

theorem erase_last (xs : List Bs) : xs.eraseIdx (xs.length - 1) = xs.dropLast := by
  rw [List.eraseIdx_eq_take_drop_succ, List.dropLast_eq_take]
  by_cases h : xs = []
  · subst h; rfl
  · have := List.length_pos_iff.2 h
    rw [List.drop_eq_nil_of_le (by omega), List.append_nil]
theorem map_dropLast' (es : List Ent) : (es.map Prod.fst).dropLast = es.dropLast.map Prod.fst := by rw [List.dropLast_eq_take, List.dropLast_eq_take, List.length_map, List.map_take]

/-- The ages behind a Take. -/
def alTake (c : Nat) (ys : Ys) (x : Bs) (al : List Ent) : List Ent := if (yTake c ys x).2.2 = 0 then al.filter (fun e => decide (e.1 ≠ x)) else al
theorem erase_age : ∀ (al : List Ent) (x : Bs), (al.map Prod.fst).Nodup → x ∈ al.map Prod.fst → ∃ k : Nat, atI (al.map Prod.fst) x = k ∧ k < al.length ∧ (al.map Prod.fst).eraseIdx k = (al.filter (fun e => decide (e.1 ≠ x))).map Prod.fst
  | [], _, _, h => by simp at h
  | a :: al, x, hd, h => by
    rw [List.map_cons, List.nodup_cons] at hd
    by_cases hx : a.1 = x
    · subst hx
      refine ⟨0, atI_hit (by simp) (by simp), by simp, ?_⟩
      rw [List.filter_cons, if_neg (by simp), filter_self hd.1]
      simp
    · have hm : x ∈ al.map Prod.fst := by
        rw [List.map_cons] at h
        rcases List.mem_cons.1 h with h | h
        · exact absurd h.symm hx
        · exact h
      obtain ⟨k, h1, h2, h3⟩ := erase_age al x hd.2 hm
      have hk : ∀ y ∈ (al.map Prod.fst).take k, y ≠ x := fun y hy e => by
        subst e
        obtain ⟨j, hj, e⟩ := List.mem_take_iff_getElem.1 hy
        have hjl : j < (al.map Prod.fst).length := by omega
        have key : ∀ (xs : List Bs) (y : Bs) (k j : Nat) (hj : j < xs.length), atI xs y = k → xs[j] = y → k ≤ j := by
          intro xs y k j hj hk e
          unfold atI at hk
          cases hf : xs.findIdx? (fun z => decide (z = y)) with
          | none =>
            rw [List.findIdx?_eq_none_iff] at hf
            have := hf xs[j] (List.getElem_mem hj)
            simp [e] at this
          | some r =>
            rw [hf] at hk
            simp only at hk
            have hr : r = k := by omega
            subst hr
            rw [List.findIdx?_eq_some_iff_getElem] at hf
            obtain ⟨_, _, h3⟩ := hf
            rcases Nat.lt_or_ge j r with hlt | hge
            · have := h3 j hlt
              simp [e] at this
            · exact hge
        have := key _ _ k j hjl h1 e
        omega
      have hxk : (al.map Prod.fst)[k]? = some x := by
        unfold atI at h1
        cases hf : (al.map Prod.fst).findIdx? (fun z => decide (z = x)) with
        | none => rw [hf] at h1; simp at h1
        | some r =>
          rw [hf] at h1
          simp only at h1
          have hr : r = k := by omega
          subst hr
          rw [List.findIdx?_eq_some_iff_getElem] at hf
          obtain ⟨hl, he, _⟩ := hf
          rw [List.getElem?_eq_getElem hl]
          simpa using he
      refine ⟨k + 1, ?_, by simp; omega, ?_⟩
      · refine atI_hit (fun y hy => ?_) (by rw [List.map_cons, List.getElem?_cons_succ]; exact hxk)
        rw [List.map_cons, List.take_succ_cons] at hy
        rcases List.mem_cons.1 hy with rfl | hy
        · exact hx
        · exact hk y hy
      · rw [List.map_cons, List.eraseIdx_cons_succ, h3, List.filter_cons, if_pos (by simpa using hx), List.map_cons]

/-- What stands at the head of the loop behind t moves. -/
structure RT (w : World) (K : Nat → Prop) (c n : Nat) (A : Option Addr) (cap : Nat) (G : Option Addr) (m capG h2 i : Nat) (ys : Ys) (t : Nat) (W : World) : Prop where
  ex : ∃ A' cap', XS w K c n A cap G m capG h2 W A' cap' (strs (movesY c i t ys))
  room : roomK c (movesY c i t ys) i n + t = roomK c ys i n
  len : lenAt (movesY c i t ys) i + t = lenAt ys i
  yl : (movesY c i t ys).length = n
  le : ∀ es ∈ movesY c i t ys, es.length ≤ 32

set_option maxRecDepth 100000 in
set_option maxHeartbeats 4000000 in
theorem rtake_any (K : Nat → Prop) (c : Nat) (A : Option Addr) (n cap : Nat) (G : Option Addr) (m capG p : Nat) (ys : Ys) (al : List Ent) (x : Bs) (w : World) (h : RY K w A n G m capG (strs ys) (al.map Prod.fst)) (hI : Inv ys p al) (hK : ∀ i, K i → i < w.heap.size) (ok : YOk c ys) (hm : m ≤ 600) :
    Calls Try.prog 22 #[rv c A n cap G m capG, .string x] w (REnd w K c n (strs (yTake c ys x).1) ((alTake c ys x al).map Prod.fst) [.int .i64 ((yTake c ys x).2.1 : Nat), .int .i64 (yTake c ys x).2.2]) := by
  have hn := h.rb.2.1
  have hl : ys.length = n := by have := h.rb.1; simpa [strs] using this
  have hc2 := ok.c2
  have H := Lib.hid h
  have HK := Lib.hid hK
  have OK := Lib.hid ok
  have HI := Lib.hid hI
  have stay : Hid (∀ (e : Int) (W : World), e ≠ 0 → yTake c ys x = (ys, 0, e) → Same w W → REnd w K c n (strs (yTake c ys x).1) ((alTake c ys x al).map Prod.fst) [.int .i64 ((yTake c ys x).2.1 : Nat), .int .i64 (yTake c ys x).2.2] (.returned (.tuple #[rv c A n cap G m capG, .int .i64 0, .int .i64 e])) W) := fun e W he hp hs => by
    unfold alTake
    rw [hp]
    simp only
    rw [if_neg he]
    exact REnd.stay H.out hs _
  have bx : RBox w ((w.alloc (.cells #[.int .i64 c, .slice A n cap, .slice G m capG] 47)).alloc (.cells #[.int .i64 0, .slice none 0 0, .slice none 0 0] 47)) w.heap.size (.int .i64 c) (.slice A n cap) (.slice G m capG) := by
    have b1 := Blk.new (w.alloc (.cells #[.int .i64 c, .slice A n cap, .slice G m capG] 47)) 47 #[.int .i64 0, .slice none 0 0, .slice none 0 0]
    rw [World.size_alloc] at b1
    exact ⟨(Blk.new w 47 _).alloc _, b1, ((Fr.refl _ _).alloc _).alloc _, Nat.le_refl _⟩
  have BX := Lib.hid bx
  have h33 := Lib.hid (fun W (hW : Same w W) => rfind_any K c A n cap G m capG ys x W (H.out.rb.same hW) (fun es he => Nat.le_trans (OK.out.le es he) hc2))
  clear h hK ok bx hI
  generalize hPost : REnd w K c n (strs (yTake c ys x).1) ((alTake c ys x al).map Prod.fst) [.int .i64 ((yTake c ys x).2.1 : Nat), .int .i64 (yTake c ys x).2.2] = Post at stay ⊢
  have HPost := Lib.hid hPost
  clear hPost
  unfold rv at h33 ⊢
  go_enter Try.func22, Try.ntmps22
  go_wp2_with fail
  refine (h33.out _ BX.out.same).mono ?_
  rintro e w3 ⟨rfl, hs3⟩
  have b3 := BX.out.to hs3
  clear hs3 h33 BX
  obtain ⟨⟨d0, d1, d2⟩, ⟨d3, d4, d5⟩, d6⟩ := b3.b0.three
  have B3 := Lib.hid b3
  cases hf : findY ys x 0 with
  | none =>
    rw [yFind_none hf]
    have HE := Lib.hid (yTake_none (c := c) hf)
    unfold findV
    simp only
    obtain ⟨⟨q0, q1, q2⟩, ⟨q3, q4, q5⟩, q6⟩ := b3.b1.three
    clear hf b3
    go_wp2
    have hs9 := B3.out.done (.int .i64 c) (.slice A n cap) (.slice G m capG)
    have n9 := (B3.out.b1.set3 (x' := .int .i64 c) (y' := .slice A n cap) (z' := .slice G m capG)).three.1
    generalize (((w3.setCell ⟨w.heap.size + 1, 0, none⟩ (.int .i64 c)).setCell ⟨w.heap.size + 1, 1, none⟩ (.slice A n cap)).setCell ⟨w.heap.size + 1, 2, none⟩ (.slice G m capG)) = W9 at hs9 n9 ⊢
    obtain ⟨y0, y1, y2⟩ := n9
    exact bodyPost_ret (v := .tuple #[rv c A n cap G m capG, .int .i64 0, .int .i64 8]) (by simp [results, Try.results22, go_sem, rv, y0, y1, y2]) rfl (stay.out 8 _ (by omega) HE.out hs9)
  | some q =>
    obtain ⟨i, q⟩ := q
    rw [yFind_some hf]
    obtain ⟨i', es, e0, hii, hes, hem, hex, _, _⟩ := findY_inv _ _ _ _ _ hf
    obtain rfl : i = i' := by omega
    have hil : i < n := by have := (List.getElem?_eq_some_iff.1 hes).1; omega
    have hml := (List.getElem?_eq_some_iff.1 hem).1
    have hla := lenAt_some hes
    obtain ⟨a, ha⟩ : ∃ a, lenAt ys i - 1 - q = a := ⟨_, rfl⟩
    obtain ⟨R, hR⟩ : ∃ R, roomK c ys i n = R := ⟨_, rfl⟩
    obtain ⟨L, hL⟩ : ∃ L, lenAt ys i = L := ⟨_, rfl⟩
    have hesc : es.length ≤ c := OK.out.le es (List.mem_of_getElem? hes)
    have haL : a + q + 1 = L := by omega
    have hL2 : L ≤ 32 := by omega
    have HE1 : Hid (R < a → yTake c ys x = (ys, 0, 12)) := fun hlt => yTake_full hf (by rw [hl, hR, ha]; exact hlt)
    have HE2 : Hid (¬ R < a → yTake c ys x = (popY (movesY c i a ys) i, a, 0)) := fun hlt => by
      have := yTake_ok (c := c) hf (by rw [hl, hR, ha]; exact hlt)
      rw [ha] at this
      exact this
    have HXA : Hid (x ∈ al.map Prod.fst) := (HI.out.is x).1 (by rw [hf]; rfl)
    rw [ha]
    have HLL := Lib.hid hL
    have HRR := Lib.hid hR
    unfold findV
    simp only
    have hbl := b3.b1.lt
    have HT0 : Hid (RT w K c n A cap G m capG w3.heap.size i ys 0 (w3.alloc (.cells #[.int .i64 c, .slice A n cap, .slice G m capG] 47))) := by
      have hs := box47 w3 (.int .i64 c) (.slice A n cap) (.slice G m capG)
      exact ⟨⟨A, cap, ⟨b3.to hs, Blk.new _ _ _, by omega, (H.out.rb.same (b3.to hs).same).mono fun j hj => .inl hj⟩⟩, rfl, rfl, hl, fun es he => Nat.le_trans (OK.out.le es he) hc2⟩
    clear hf hes hem hex hla ha hR hL hii hesc b3
    go_wp2
    generalize w3.heap.size = h2 at HT0 ⊢
    clear d0 d1 d2 d3 d4 d5 d6 B3 hbl
    go_loopw [11] (fun i' wr => ∃ t : Nat, t ≤ a ∧ i' = .int .i64 t ∧ RT w K c n A cap G m capG h2 i ys t wr) (fun i' _ => a - (intOf i').toNat)
    case atStart => exact ⟨0, by omega, rfl, HT0.out⟩
    case round =>
      obtain ⟨t, ht, rfl, hT⟩ := hrel
      clear HT0
      obtain ⟨⟨A', cap', hX⟩, hroom, hlenT, hyl, hle⟩ := hT
      rw [HRR.out] at hroom
      rw [HLL.out] at hlenT
      obtain ⟨⟨d0, d1, d2⟩, ⟨d3, d4, d5⟩, d6⟩ := hX.b2.three
      by_cases hlt : t < a
      · have hlt2 : (t : Int) < (a : Int) := by omega
        have h36 := Lib.hid (rroom_any _ c A' n cap' G m capG (movesY c i t ys) i _ hX.rb hle hc2)
        by_cases hz : roomK c (movesY c i t ys) i n = 0
        · rw [rroom_full (by rw [hyl]; exact hz)] at h36
          have HE := Lib.hid (HE1.out (by omega))
          unfold rv at h36
          clear hz
          go_wp2_with fail
          refine h36.out.mono ?_
          rintro e w5 ⟨rfl, hs5⟩
          have hX5 := hX.same hs5
          clear d0 d1 d2 d3 d4 d5 d6 hs5 hX h36
          obtain ⟨⟨d0, d1, d2⟩, ⟨d3, d4, d5⟩, d6⟩ := hX5.bx.b0.three
          obtain ⟨⟨q0, q1, q2⟩, ⟨q3, q4, q5⟩, q6⟩ := hX5.bx.b1.three
          have B5 := Lib.hid hX5.bx
          clear hX5
          go_wp2
          have hs9 := B5.out.done (.int .i64 c) (.slice A n cap) (.slice G m capG)
          have n9 := (B5.out.b1.set3 (x' := .int .i64 c) (y' := .slice A n cap) (z' := .slice G m capG)).three.1
          generalize (((w5.setCell ⟨w.heap.size + 1, 0, none⟩ (.int .i64 c)).setCell ⟨w.heap.size + 1, 1, none⟩ (.slice A n cap)).setCell ⟨w.heap.size + 1, 2, none⟩ (.slice G m capG)) = W9 at hs9 n9 ⊢
          obtain ⟨y0, y1, y2⟩ := n9
          exact bodyPost_ret (v := .tuple #[rv c A n cap G m capG, .int .i64 0, .int .i64 12]) (by simp [results, Try.results22, go_sem, rv, y0, y1, y2]) rfl (stay.out 12 _ (by omega) HE.out hs9)
        · obtain ⟨es1, hes1⟩ : ∃ es, (movesY c i t ys)[i]? = some es := ⟨(movesY c i t ys)[i]'(by omega), List.getElem?_eq_getElem _⟩
          have hlx := lenAt_some hes1
          obtain ⟨N1, hN1⟩ : ∃ N1, es1.length = N1 + 1 := ⟨es1.length - 1, by omega⟩
          have hne : es1 ≠ [] := fun e => by rw [e] at hN1; simp at hN1
          obtain ⟨et, het⟩ : ∃ e0, es1.getLast? = some e0 := ⟨_, List.getLast?_eq_some_getLast hne⟩
          obtain ⟨fs, k1, k2, k3, k4, k5, k6, k7, k8⟩ := moveY_step (c := c) hes1 het (by rw [hyl]; omega)
          rw [rroom_some (by rw [hyl]; omega)] at h36
          have hS1 : Hid (movesY c i (t + 1) ys = ((movesY c i t ys).set i es1.dropLast).set (firstS c (movesY c i t ys) i) (fs ++ [et])) := by rw [movesY_succ]; exact k5
          have hS2 : Hid (roomK c (movesY c i (t + 1) ys) i n + (t + 1) = roomK c ys i n) := by
            unfold Hid
            rw [movesY_succ, HRR.out]
            rw [hyl] at k7
            omega
          have hS3 : Hid (lenAt (movesY c i (t + 1) ys) i + (t + 1) = lenAt ys i) := by
            unfold Hid
            rw [movesY_succ, HLL.out]
            omega
          rw [hyl] at k1
          have hS4 : Hid ((movesY c i (t + 1) ys).length = n) := by unfold Hid; rw [hS1.out]; simp [hyl]
          have hS5 : Hid (∀ es ∈ movesY c i (t + 1) ys, es.length ≤ 32) := fun es he => by
            rw [hS1.out] at he
            rcases List.mem_or_eq_of_mem_set he with he | rfl
            · rcases List.mem_or_eq_of_mem_set he with he | rfl
              · exact hle es he
              · have := hle es1 (List.mem_of_getElem? hes1)
                simp
                omega
            · simp
              omega
          have hN2 : N1 + 1 ≤ 32 := by rw [← hN1]; exact hle es1 (List.mem_of_getElem? hes1)
          have hfl : fs.length ≤ 32 := by omega
          generalize firstS c (movesY c i t ys) i = j at k1 k2 k3 h36 hS1
          have htk : ((es1.map Prod.fst))[N1]? = some et.1 := by
            rw [List.getLast?_eq_getElem?, hN1] at het
            simp only [Nat.add_sub_cancel] at het
            simp [het]
          have hse : Hid (strs (movesY c i (t + 1) ys) = (((strs (movesY c i t ys)).set i ((es1.map Prod.fst).eraseIdx N1))).set j (fs.map Prod.fst ++ [et.1])) := by
            unfold Hid
            have e1 : (es1.map Prod.fst).eraseIdx N1 = es1.dropLast.map Prod.fst := by
              have := erase_last (es1.map Prod.fst)
              rw [List.length_map, hN1] at this
              simp only [Nat.add_sub_cancel] at this
              rw [this, map_dropLast']
            rw [hS1.out, strs_set, strs_set, e1, List.map_append]
            rfl
          have hbi := strs_get hes1
          have hbj : ((strs (movesY c i t ys)).set i ((es1.map Prod.fst).eraseIdx N1))[j]? = some (fs.map Prod.fst) := by
            rw [List.getElem?_set, if_neg (Ne.symm k2)]
            exact strs_get k3
          have hll : (es1.map Prod.fst).length = N1 + 1 := by rw [List.length_map, hN1]
          have hlf : (fs.map Prod.fst).length ≤ 32 := by rw [List.length_map]; exact hfl
          unfold rv at h36
          generalize es1.map Prod.fst = xi at htk hse hbi hbj hll
          generalize fs.map Prod.fst = xj at hse hbj hlf
          generalize et.1 = top at htk hse
          generalize strs (movesY c i t ys) = ts at hX hse hbi hbj
          have HTK := Lib.hid htk
          have HBI := Lib.hid hbi
          have HBJ := Lib.hid hbj
          have HLI := Lib.hid hll
          obtain ⟨M, hM⟩ : ∃ M, xj.length = M := ⟨_, rfl⟩
          have HM := Lib.hid hM
          rw [hM] at hlf
          clear hz hes1 hlx hN1 hne het k3 k4 k5 k6 k7 k8 hS1 htk hbi hbj hll hM hle hyl hlenT hroom hfl
          go_wp2_with fail
          refine h36.out.mono ?_
          rintro e w5 ⟨rfl, hs5⟩
          have hX5 := hX.same hs5
          clear d0 d1 d2 d3 d4 d5 d6 hs5 hX h36
          obtain ⟨⟨d0, d1, d2⟩, ⟨d3, d4, d5⟩, d6⟩ := hX5.b2.three
          obtain ⟨g, o, B, capB, hA, c0, hcb, hcb2, hrs⟩ := hX5.bay HBI.out
          subst hA
          rw [HLI.out] at c0 hcb hrs
          obtain ⟨gt, ot, hB, ct, _⟩ := hrs.2.2 N1 top HTK.out
          subst hB
          have j0 : (0 : Int) ≤ (j : Int) := by omega
          have j1 : (j : Int) < (n : Int) := by omega
          have j2 : (0 : Int) ≤ (i : Int) := by omega
          have j3 : (i : Int) < (n : Int) := by omega
          have j4 : ¬ (j : Int) < 0 := by omega
          have j5 : (N1 : Int) < (N1 : Int) + 1 := by omega
          have j6 : (0 : Int) ≤ (N1 : Int) := by omega
          have HX5 := Lib.hid hX5
          have HRS := Lib.hid hrs
          clear hX5 hrs
          go_upto_region 13 with fail
          have H34 : Hid (∀ (W : World) (u : Value), Same w5 W → PV (fun j => w5.heap.size ≤ j ∧ j < W.heap.size) W (xi.eraseIdx N1) u → Calls Try.prog 34 #[rv c (some ⟨g, o, none⟩) n cap' G m capG, .int .i64 i, u] W fun e W6 => ∃ A6 cap6, e = .returned (rv c A6 n cap6 G m capG) ∧ Same W W6 ∧ RB (fun j => K j ∨ (w.heap.size + 1 + 1 ≤ j ∧ j < W6.heap.size ∧ j ≠ h2)) W6 A6 n (ts.set i (xi.eraseIdx N1))) := fun W u hs hu => HX5.out.chg hs hil hu
          unfold rv at H34
          have wr1 : IntKind.i64.wrap (N1 : Int) = (N1 : Int) := IntWalk.i64_in _ (by omega)
          go_region_with (first | (go_at_call 37; (first | refine (without_any _ (N1 + 1) capB N1 xi w5.drew HRS.out (by omega) (by omega) hcb hcb2).mono ?_ | refine (without_any _ (N1 + 1) capB N1 xi w5 HRS.out (by omega) (by omega) hcb hcb2).mono ?_); rintro e w6 ⟨v6, rfl, hp6, hs6⟩; have s6 : Same w5 w6 := ⟨hs6.os, hs6.tape, hs6.output, hs6.size, hs6.block⟩; have HP6 := Lib.hid hp6; obtain ⟨B6, cap6, hv6, _⟩ := hp6; generalize (xi.eraseIdx N1).length = N6 at hv6; subst hv6; obtain ⟨⟨f0, f1, f2⟩, _⟩ := (HX5.out.same s6).b2.three; clear hs6) | (go_at_call 34; refine (H34.out _ _ s6 HP6.out).mono ?_; rintro e w7 ⟨A7, cap7, rfl, hs7, hR7⟩; have s7 : Same w5 w7 := Fr.trans s6 hs7; obtain ⟨⟨f0', f1', f2'⟩, ⟨f3', f4', f5'⟩, f6'⟩ := (HX5.out.same s7).b2.three; have HR7 := Lib.hid hR7; clear hs7 hR7))
          all_goals
            have hX8 := HX5.out.turn (cap6 := cap7) HK.out s7 HR7.out
            generalize (((w7.setCell ⟨h2, 0, none⟩ (.int .i64 c)).setCell ⟨h2, 1, none⟩ (.slice A7 n cap7)).setCell ⟨h2, 2, none⟩ (.slice G m capG)) = W8 at hX8 ⊢
            clear d0 d1 d2 d3 d4 d5 d6 f0 f1 f2 f0' f1' f2' f3' f4' f5' f6' s6 s7 HR7 HP6 H34 HX5 HRS c0 ct wr1
            obtain ⟨⟨d0, d1, d2⟩, ⟨d3, d4, d5⟩, d6⟩ := hX8.b2.three
            obtain ⟨g8, o8, B8, capB8, hA8, c8, hcb8, hcb82, hrs8⟩ := hX8.bay HBJ.out
            subst hA8
            rw [HM.out] at c8 hcb8 hrs8
            have HX8 := Lib.hid hX8
            have HRS8 := Lib.hid hrs8
            have H34 : Hid (∀ (W : World) (u : Value), Same W8 W → PV (fun j => W8.heap.size ≤ j ∧ j < W.heap.size) W (xj ++ [top]) u → Calls Try.prog 34 #[rv c (some ⟨g8, o8, none⟩) n cap7 G m capG, .int .i64 j, u] W fun e W6 => ∃ A6 cap6, e = .returned (rv c A6 n cap6 G m capG) ∧ Same W W6 ∧ RB (fun j => K j ∨ (w.heap.size + 1 + 1 ≤ j ∧ j < W6.heap.size ∧ j ≠ h2)) W6 A6 n ((ts.set i (xi.eraseIdx N1)).set j (xj ++ [top]))) := fun W u hs hu => HX8.out.chg hs k1 hu
            unfold rv at H34
            clear hX8 hrs8
            go_upto_region 14 with fail
            go_region_with (first | (go_at_call 35; (first | refine (with_any B8 M capB8 xj top W8.drew HRS8.out (by omega)).mono ?_ | refine (with_any B8 M capB8 xj top W8 HRS8.out (by omega)).mono ?_); rintro e w6 ⟨v6, rfl, hp6, hs6⟩; have s6 : Same W8 w6 := ⟨hs6.os, hs6.tape, hs6.output, hs6.size, hs6.block⟩; have HP6 := Lib.hid hp6; obtain ⟨B6, cap6, hv6, _⟩ := hp6; generalize (xj ++ [top]).length = N6 at hv6; subst hv6; obtain ⟨⟨f0, f1, f2⟩, _⟩ := (HX8.out.same s6).b2.three; clear hs6) | (go_at_call 34; refine (H34.out _ _ s6 HP6.out).mono ?_; rintro e w7 ⟨A9, cap9, rfl, hs7, hR7⟩; have s7 : Same W8 w7 := Fr.trans s6 hs7; obtain ⟨⟨f0', f1', f2'⟩, ⟨f3', f4', f5'⟩, f6'⟩ := (HX8.out.same s7).b2.three; have HR7 := Lib.hid hR7; clear hs7 hR7))
            all_goals
              have hX9 := HX8.out.turn (cap6 := cap9) HK.out s7 HR7.out
              rw [← hse.out] at hX9
              generalize (((w7.setCell ⟨h2, 0, none⟩ (.int .i64 c)).setCell ⟨h2, 1, none⟩ (.slice A9 n cap9)).setCell ⟨h2, 2, none⟩ (.slice G m capG)) = W10 at hX9 ⊢
              have HT : Hid (RT w K c n A cap G m capG h2 i ys (t + 1) W10) := ⟨⟨_, _, hX9⟩, hS2.out, hS3.out, hS4.out, hS5.out⟩
              clear d0 d1 d2 d3 d4 d5 d6 f0 f1 f2 f0' f1' f2' f3' f4' f5' f6' s6 s7 HR7 HP6 H34 HX8 HRS8 c8 hX9
              go_wp2
              go_roundw
              case rel => exact ⟨t + 1, by omega, by go_num, HT.out⟩
              case measure => simp [intOf]; omega
      · obtain rfl : t = a := by omega
        have HE := Lib.hid (HE2.out (by omega))
        obtain ⟨es1, hes1⟩ : ∃ es, (movesY c i t ys)[i]? = some es := ⟨(movesY c i t ys)[i]'(by omega), List.getElem?_eq_getElem _⟩
        have hlx := lenAt_some hes1
        have hN1 : es1.length = q + 1 := by omega
        have hse : Hid (strs (popY (movesY c i t ys) i) = (strs (movesY c i t ys)).set i ((es1.map Prod.fst).eraseIdx q)) := by
          unfold Hid
          have e1 : (es1.map Prod.fst).eraseIdx q = es1.dropLast.map Prod.fst := by
            have := erase_last (es1.map Prod.fst)
            rw [List.length_map, hN1] at this
            simp only [Nat.add_sub_cancel] at this
            rw [this, map_dropLast']
          unfold popY
          rw [strs_set, e1, hes1]
          rfl
        obtain ⟨ka, ha1, ha2, ha3⟩ := erase_age al x HI.out.nd HXA.out
        have hagl : al.length = m := by have := H.out.ag.1; simpa using this
        have HA3 : Hid ((al.map Prod.fst).eraseIdx ka = (alTake c ys x al).map Prod.fst) := by
          unfold Hid alTake
          rw [HE.out, ha3]
          rfl
        have HA3L : Hid (((al.map Prod.fst).eraseIdx ka).length = m - 1) := by
          unfold Hid
          rw [List.length_eraseIdx, List.length_map, hagl, if_pos (by omega)]
        have hbi := strs_get hes1
        have hll : (es1.map Prod.fst).length = q + 1 := by rw [List.length_map, hN1]
        generalize es1.map Prod.fst = xi at hse hbi hll
        generalize strs (movesY c i t ys) = ts at hX hse hbi
        obtain ⟨g, o, B, capB, hA, c0, hcb, hcb2, hrs⟩ := hX.bay hbi
        subst hA
        rw [hll] at c0 hcb hrs
        have hka : ka < m := by omega
        have HAT := Lib.hid ha1
        have j2 : (0 : Int) ≤ (i : Int) := by omega
        have j3 : (i : Int) < (n : Int) := by omega
        have HX5 := Lib.hid hX
        have HRS := Lib.hid hrs
        have H34 : Hid (∀ (W : World) (u : Value), Same wr W → PV (fun j => wr.heap.size ≤ j ∧ j < W.heap.size) W (xi.eraseIdx q) u → Calls Try.prog 34 #[rv c (some ⟨g, o, none⟩) n cap' G m capG, .int .i64 i, u] W fun e W6 => ∃ A6 cap6, e = .returned (rv c A6 n cap6 G m capG) ∧ Same W W6 ∧ RB (fun j => K j ∨ (w.heap.size + 1 + 1 ≤ j ∧ j < W6.heap.size ∧ j ≠ h2)) W6 A6 n (ts.set i (xi.eraseIdx q))) := fun W u hs hu => HX5.out.chg hs hil hu
        unfold rv at H34
        have wr1 : IntKind.i64.wrap (q : Int) = (q : Int) := IntWalk.i64_in _ (by omega)
        clear hX hrs hbi hll hes1 hlx hN1 ha1 ha3 hroom hlenT hyl hle hagl
        go_upto_region 16 with fail
        go_region_with (first | (go_at_call 37; (first | refine (without_any _ (q + 1) capB q xi wr.drew HRS.out (by omega) (by omega) hcb hcb2).mono ?_ | refine (without_any _ (q + 1) capB q xi wr HRS.out (by omega) (by omega) hcb hcb2).mono ?_); rintro e w6 ⟨v6, rfl, hp6, hs6⟩; have s6 : Same wr w6 := ⟨hs6.os, hs6.tape, hs6.output, hs6.size, hs6.block⟩; have HP6 := Lib.hid hp6; obtain ⟨B6, cap6, hv6, _⟩ := hp6; generalize (xi.eraseIdx q).length = N6 at hv6; subst hv6; obtain ⟨⟨f0, f1, f2⟩, _⟩ := (HX5.out.same s6).b2.three; clear hs6) | (go_at_call 34; refine (H34.out _ _ s6 HP6.out).mono ?_; rintro e w7 ⟨A7, cap7, rfl, hs7, hR7⟩; have s7 : Same wr w7 := Fr.trans s6 hs7; obtain ⟨⟨f0', f1', f2'⟩, ⟨f3', f4', f5'⟩, f6'⟩ := (HX5.out.same s7).b2.three; have HR7 := Lib.hid hR7; clear hs7 hR7))
        all_goals
          have hX8 := HX5.out.turn (cap6 := cap7) HK.out s7 HR7.out
          rw [← hse.out] at hX8
          generalize (((w7.setCell ⟨h2, 0, none⟩ (.int .i64 c)).setCell ⟨h2, 1, none⟩ (.slice A7 n cap7)).setCell ⟨h2, 2, none⟩ (.slice G m capG)) = W8 at hX8 ⊢
          clear d0 d1 d2 d3 d4 d5 d6 f0 f1 f2 f0' f1' f2' f3' f4' f5' f6' s6 s7 HR7 HP6 H34 HX5 HRS c0 wr1
          obtain ⟨⟨d0, d1, d2⟩, ⟨d3, d4, d5⟩, d6⟩ := hX8.b2.three
          have hag := (H.out.same hX8.bx.same).ag
          have hmc := H.out.mc
          have hcc := H.out.cc
          have HX8 := Lib.hid hX8
          have HAG := Lib.hid hag
          have H38 : Hid (Calls Try.prog 38 #[.slice G m capG, .string x] W8.drew fun e w' => e = .returned (.int .i64 (ka : Int)) ∧ W8.drew = w') := by
            have := at_any G m capG (al.map Prod.fst) x W8.drew hag
            rw [HAT.out] at this
            exact this
          clear hX8 hag
          have hlo := HX8.out.lo
          go_upto_region 17 with fail
          go_region_with (first | (go_at_call 38; refine H38.out.mono ?_; rintro e w6 ⟨rfl, rfl⟩) | (go_at_call 37; refine (without_any G m capG ka (al.map Prod.fst) W8.drew HAG.out (by omega) (by omega) hmc hcc).mono ?_; rintro e w9 ⟨v9, rfl, hp9, hs9⟩; have s9 : Same W8 w9 := ⟨hs9.os, hs9.tape, hs9.output, hs9.size, hs9.block⟩; have HP9 := Lib.hid hp9; obtain ⟨G9, capG9, hv9, _⟩ := hp9; rw [HA3L.out] at hv9; subst hv9; obtain ⟨⟨f0, f1, f2⟩, ⟨f3, f4, f5⟩, f6⟩ := (HX8.out.same s9).b2.three; clear hs9))
          all_goals
            have X9 := Lib.hid (HX8.out.same s9)
            obtain ⟨⟨q0, q1, q2⟩, ⟨q3, q4, q5⟩, q6⟩ := (HX8.out.same s9).bx.b1.three
            clear d0 d1 d2 d3 d4 d5 d6 H38
            have hbl := (HX8.out.same s9).bx.b0.lt
            go_wp2
            have f9 : Fr (fun j => j = h2 ∨ j = w.heap.size + 1) w9 ((((w9.setCell ⟨h2, 2, none⟩ (.slice G9 (m - 1) capG9)).setCell ⟨w.heap.size + 1, 0, none⟩ (.int .i64 c)).setCell ⟨w.heap.size + 1, 1, none⟩ (.slice A7 n cap7)).setCell ⟨w.heap.size + 1, 2, none⟩ (.slice G9 (m - 1) capG9)) :=
              Fr.trans ((Fr.refl _ _).setCell _ _ (.inl (.inl rfl))) ((fr3 (w9.setCell ⟨h2, 2, none⟩ (.slice G9 (m - 1) capG9)) (w.heap.size + 1) (.int .i64 c) (.slice A7 n cap7) (.slice G9 (m - 1) capG9)).mono fun j _ e => .inr e)
            have n9 := ((X9.out.bx.b1.far (p := ⟨h2, 2, none⟩) (by show w.heap.size + 1 ≠ h2; omega) (.slice G9 (m - 1) capG9)).set3 (x' := .int .i64 c) (y' := .slice A7 n cap7) (z' := .slice G9 (m - 1) capG9)).three.1
            generalize ((((w9.setCell ⟨h2, 2, none⟩ (.slice G9 (m - 1) capG9)).setCell ⟨w.heap.size + 1, 0, none⟩ (.int .i64 c)).setCell ⟨w.heap.size + 1, 1, none⟩ (.slice A7 n cap7)).setCell ⟨w.heap.size + 1, 2, none⟩ (.slice G9 (m - 1) capG9)) = W9 at f9 n9 ⊢
            obtain ⟨y0, y1, y2⟩ := n9
            refine bodyPost_ret (v := .tuple #[rv c A7 n cap7 G9 (m - 1) capG9, .int .i64 t, .int .i64 0]) (by simp [results, Try.results22, go_sem, rv, y0, y1, y2]) rfl ?_
            have hs9 : Same w W9 := fr_trans2 X9.out.bx.same f9 (fun j hj e => by omega)
            have z8 := HX8.out.b2.lt
            have z9 := f9.size
            obtain ⟨G9', capG9', hv9, hc9, hc9', hr9, hk9⟩ := HP9.out
            rw [HA3L.out] at hv9 hc9 hr9
            cases hv9
            rw [← HPost.out, HE.out]
            refine ⟨A7, cap7, G9, m - 1, capG9, rfl, hs9, ⟨(X9.out.rb.fr f9 (fun j hj e => ?_)).mono fun j hj => ?_, ?_, hc9, hc9', fun j hj => ?_⟩⟩
            · rcases hj with hj | hj
              · have := HK.out j hj; omega
              · have := hj.2.2; omega
            · rcases hj with hj | hj
              · exact .inl hj
              · exact .inr ⟨by omega, by omega⟩
            · rw [← HA3.out]
              exact hr9.fr f9 (fun j hj e => by have h8 : W8.heap.size ≤ j := (hk9 j hj).1; omega)
            · have h8 : W8.heap.size ≤ j ∧ j < w9.heap.size := hk9 j hj
              exact .inr ⟨by omega, by omega⟩

end Go.Proofs.Ytahommgchnbnjaa
