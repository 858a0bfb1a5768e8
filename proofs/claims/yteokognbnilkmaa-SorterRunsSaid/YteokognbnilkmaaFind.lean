/-
  The walks of the closures that find is handed, and of find.
-/
import Derived.Test.YteokognbnilkmaaMem
namespace Go.Proofs.Yteokognbnilkmaa
open Go.RowKit

/-- How a quiet call ends. -/
def Quiet (w : World) (v : Value) (e : Ending) (w' : World) : Prop := e = .returned v ∧ ∃ m, w' = w.drewN m

theorem beq_bytes (x y : Bs) : (x.toList == y.toList) = decide (x = y) := by
  by_cases h : x = y
  · rw [(Lib.bytes_beq_iff x y).2 h]; simp [h]
  · rw [(Lib.bytes_beq_false_iff x y).2 h]; simp [h]

section
variable {g b c : Nat} {ls : List Cl} {i : Nat} {x : Cl}

set_option maxHeartbeats 400000 in
theorem c25 (bi : Nat) (q : Bs) (w : World) (h : IsSo w g b ls c) (hx : ls[i]? = some x) (hq : w.cell? ⟨bi, 0, none⟩ = some (.string q)) :
    Calls Try.prog 25 #[.pointer (some ⟨b, i * 3, none⟩), .pointer (some ⟨bi, 0, none⟩)] w (Quiet w (.bool (pHas q x.bin))) := by
  obtain ⟨c0, c1, c2⟩ := arr_cells h.arr hx
  obtain ⟨r, e, _⟩ := (h.cl i x hx).look q
  have hl : ∀ n, (Instr.lookup 62 (.map (some r)) (.string q) false).run Try.prog (w.drewN n) = .ok (.bool (decide (q ∈ x.items))) (w.drewN n) := fun n => by
    obtain ⟨r', e', hl⟩ := (((h.drewN n).cl i x hx).look q)
    rw [e] at e'
    cases e'
    exact hl
  rw [e] at c2
  have HP : Hid (pHas q x.bin = decide (q ∈ x.items)) := rfl
  generalize pHas q x.bin = pb at HP ⊢
  clear h hx e
  go_enter Try.func25, Try.ntmps25
  go_wp2
  go_quiet (fail)
  go_wp2
  go_ret
  exact ⟨by rw [HP.out]; rfl, _, rfl⟩

set_option maxHeartbeats 400000 in
theorem c27 (w : World) (h : IsSo w g b ls c) (hx : ls[i]? = some x) :
    Calls Try.prog 27 #[.pointer (some ⟨g, 0, none⟩), .pointer (some ⟨b, i * 3, none⟩)] w (Quiet w (.bool (pFull c x.bin))) := by
  obtain ⟨c0, c1, c2⟩ := arr_cells h.arr hx
  have d1 := h.blk.cell 1
  simp at d1
  have hle := h.le hx
  have hc2 := h.ok.c2
  obtain ⟨A, cap, hv, hn, _⟩ := row_form (h.cl i x hx).row
  rw [hv] at c1
  have HP := Lib.hid (show pFull c x.bin = decide (c ≤ x.items.length) from rfl)
  generalize pFull c x.bin = pb at HP ⊢
  clear h hx hv
  go_enter Try.func27, Try.ntmps27
  go_wp2
  go_quiet (fail)
  go_wp2
  go_ret
  exact ⟨by rw [HP.out]; rfl, _, rfl⟩

set_option maxHeartbeats 400000 in
theorem c28 (w : World) (h : IsSo w g b ls c) (hx : ls[i]? = some x) :
    Calls Try.prog 28 #[.pointer (some ⟨b, i * 3, none⟩)] w (Quiet w (.bool (pEmpty x.bin))) := by
  obtain ⟨c0, c1, c2⟩ := arr_cells h.arr hx
  have hle := h.le hx
  have hc2 := h.ok.c2
  obtain ⟨A, cap, hv, hn, _⟩ := row_form (h.cl i x hx).row
  rw [hv] at c1
  have HP := Lib.hid (show pEmpty x.bin = ((x.items.length : Int) == 0) by
    unfold pEmpty Cl.bin
    show (x.items.length == 0) = _
    rw [Bool.eq_iff_iff]
    simp)
  generalize pEmpty x.bin = pb at HP ⊢
  clear h hx hv
  go_enter Try.func28, Try.ntmps28
  go_wp2
  go_ret
  exact ⟨by rw [HP.out]; rfl, 0, rfl⟩

theorem quiet_of {P : Program} {f : FuncId} {args : Array Value} {w : World} {n : Nat} {v : Value} (h : Calls P f args (w.drewN n) (Quiet (w.drewN n) v)) : Calls P f args (w.drewN n) fun e w'' => e = .returned v ∧ ∃ m, w'' = w.drewN m :=
  h.mono fun _ _ ⟨he, m, hm⟩ => ⟨he, n + m, by rw [hm, World.drewN_drewN]⟩

set_option maxHeartbeats 400000 in
theorem c26 (bk bs : Nat) (k : Bs) (w : World) (h : IsSo w g b ls c) (hx : ls[i]? = some x) (hk : w.cell? ⟨bk, 0, none⟩ = some (.string k)) (hs : w.cell? ⟨bs, 0, none⟩ = some (.pointer (some ⟨g, 0, none⟩))) :
    Calls Try.prog 26 #[.pointer (some ⟨b, i * 3, none⟩), .pointer (some ⟨bk, 0, none⟩), .pointer (some ⟨bs, 0, none⟩)] w (Quiet w (.bool (pKey c k x.bin))) := by
  obtain ⟨c0, c1, c2⟩ := arr_cells h.arr hx
  have hle := h.le hx
  have hc2 := h.ok.c2
  by_cases he : x.key = k
  · have HP := Lib.hid (show pKey c k x.bin = !pFull c x.bin by unfold pKey pFull Cl.bin; simp [he])
    have k1 : (x.key.toList == k.toList) = true := (Lib.bytes_beq_iff _ _).2 he
    generalize pKey c k x.bin = pb at HP ⊢
    clear he
    go_enter Try.func26, Try.ntmps26
    go_wp2
    go_quiet ((go_at_call 27; exact quiet_of (c27 _ (h.drewN _) hx)))
    go_wp2
    go_ret
    exact ⟨by rw [HP.out]; rfl, _, rfl⟩
  · have HP := Lib.hid (show pKey c k x.bin = false by unfold pKey Cl.bin; simp [he])
    have k1 : (x.key.toList == k.toList) = false := (Lib.bytes_beq_false_iff _ _).2 he
    generalize pKey c k x.bin = pb at HP ⊢
    clear he h hx
    go_enter Try.func26, Try.ntmps26
    go_wp2
    go_quiet (fail)
    go_wp2
    go_ret
    exact ⟨by rw [HP.out]; rfl, _, rfl⟩
end

/-- What holds at the head of each round of find. -/
def FRel (w : World) (p : Bin → Bool) (ls : List Cl) (i : Value) (wr : World) : Prop :=
  ∃ (k : Nat), k ≤ ls.length ∧ i = .int .i64 k ∧ (∀ x ∈ (ls.map Cl.bin).take k, p x = false) ∧ ∃ m, wr = w.drewN m
/-- What find returns. -/
def fndV (p : Bin → Bool) (ls : List Cl) : Value := .tuple #[.int .i64 ((fnd p (ls.map Cl.bin)).getD 0 : Nat), .bool (fnd p (ls.map Cl.bin)).isSome]

section
variable {g b c : Nat} {ls : List Cl}
set_option maxHeartbeats 1000000 in
theorem findHas (bi : Nat) (q : Bs) (w : World) (h : IsSo w g b ls c) (hq : w.cell? ⟨bi, 0, none⟩ = some (.string q)) :
    Calls Try.prog 24 #[.pointer (some ⟨g, 0, none⟩), .func (.func 25) #[] #[.pointer (some ⟨bi, 0, none⟩)]] w (Quiet w (fndV (pHas q) ls)) := by
  have d0 := h.blk.cell 0
  simp at d0
  obtain ⟨hn, hn1⟩ := h.len
  have hlen : (ls.length : Int) ≤ 16 := by omega
  have H := Lib.hid h
  have hR : FRel w (pHas q) ls (.int .i64 0) w := ⟨0, by omega, rfl, by simp, 0, rfl⟩
  clear h
  go_enter Try.func24, Try.ntmps24
  go_wp2
  go_loopw [14] (fun i wr => FRel w (pHas q) ls i wr) (fun i _ => ls.length - (intOf i).toNat)
  case atStart => exact hR
  case round =>
    obtain ⟨k, hk, rfl, hp, m, rfl⟩ := hrel
    clear hR
    have HP := Lib.hid hp
    clear hp
    by_cases hlt : k < ls.length
    · obtain ⟨x, hx⟩ : ∃ x, ls[k]? = some x := ⟨ls[k], List.getElem?_eq_getElem hlt⟩
      have hlt2 : (k : Int) < (ls.length : Int) := by omega
      have hbx := H.out.bin hx
      cases hb : (pHas q) x.bin with
      | true =>
        have HF : Hid (fndV (pHas q) ls = .tuple #[.int .i64 (k : Nat), .bool true]) := by unfold fndV; rw [fnd_hit HP.out hbx hb]; rfl
        have hc := c25 bi q (w.drewN m) (H.out.drewN m) hx hq
        rw [hb] at hc
        have HC := Lib.hid hc
        clear hb hbx hx hc
        go_wp2_with fail
        refine HC.out.mono ?_
        rintro e w' ⟨rfl, m2, rfl⟩
        go_wp2
        refine bodyPost_ret (results_tmp2 rfl _ _ _) rfl ?_
        exact ⟨by rw [HF.out]; rfl, m + m2, rfl⟩
      | false =>
        have HF := Lib.hid (take_step HP.out hbx hb)
        have hc := c25 bi q (w.drewN m) (H.out.drewN m) hx hq
        rw [hb] at hc
        have HC := Lib.hid hc
        clear hb hbx hx hc
        go_wp2_with fail
        refine HC.out.mono ?_
        rintro e w' ⟨rfl, m2, rfl⟩
        go_wp2
        go_roundw
        case rel => exact ⟨k + 1, by omega, by simp, HF.out, m + m2, rfl⟩
        case measure => simp [intOf]; omega
    · have hk2 : k = ls.length := by omega
      have HF : Hid (fndV (pHas q) ls = .tuple #[.int .i64 (0 : Nat), .bool false]) := by
        have hp := HP.out
        rw [List.take_of_length_le (by simp; omega)] at hp
        unfold fndV
        rw [fnd_none hp]
        rfl
      clear hk2
      go_wp2
      refine bodyPost_ret (results_tmp2 rfl _ _ _) rfl ?_
      exact ⟨by rw [HF.out]; rfl, m, rfl⟩

set_option maxHeartbeats 1000000 in
theorem findKey (bk bs : Nat) (q : Bs) (w : World) (h : IsSo w g b ls c) (hk : w.cell? ⟨bk, 0, none⟩ = some (.string q)) (hs : w.cell? ⟨bs, 0, none⟩ = some (.pointer (some ⟨g, 0, none⟩))) :
    Calls Try.prog 24 #[.pointer (some ⟨g, 0, none⟩), .func (.func 26) #[] #[.pointer (some ⟨bk, 0, none⟩), .pointer (some ⟨bs, 0, none⟩)]] w (Quiet w (fndV (pKey c q) ls)) := by
  have d0 := h.blk.cell 0
  simp at d0
  obtain ⟨hn, hn1⟩ := h.len
  have hlen : (ls.length : Int) ≤ 16 := by omega
  have H := Lib.hid h
  have hR : FRel w (pKey c q) ls (.int .i64 0) w := ⟨0, by omega, rfl, by simp, 0, rfl⟩
  clear h
  go_enter Try.func24, Try.ntmps24
  go_wp2
  go_loopw [14] (fun i wr => FRel w (pKey c q) ls i wr) (fun i _ => ls.length - (intOf i).toNat)
  case atStart => exact hR
  case round =>
    obtain ⟨k, hkl, rfl, hp, m, rfl⟩ := hrel
    clear hR
    have HP := Lib.hid hp
    clear hp
    by_cases hlt : k < ls.length
    · obtain ⟨x, hx⟩ : ∃ x, ls[k]? = some x := ⟨ls[k], List.getElem?_eq_getElem hlt⟩
      have hlt2 : (k : Int) < (ls.length : Int) := by omega
      have hbx := H.out.bin hx
      cases hb : (pKey c q) x.bin with
      | true =>
        have HF : Hid (fndV (pKey c q) ls = .tuple #[.int .i64 (k : Nat), .bool true]) := by unfold fndV; rw [fnd_hit HP.out hbx hb]; rfl
        have hc := c26 bk bs q (w.drewN m) (H.out.drewN m) hx hk hs
        rw [hb] at hc
        have HC := Lib.hid hc
        clear hb hbx hx hc
        go_wp2_with fail
        refine HC.out.mono ?_
        rintro e w' ⟨rfl, m2, rfl⟩
        go_wp2
        refine bodyPost_ret (results_tmp2 rfl _ _ _) rfl ?_
        exact ⟨by rw [HF.out]; rfl, m + m2, rfl⟩
      | false =>
        have HF := Lib.hid (take_step HP.out hbx hb)
        have hc := c26 bk bs q (w.drewN m) (H.out.drewN m) hx hk hs
        rw [hb] at hc
        have HC := Lib.hid hc
        clear hb hbx hx hc
        go_wp2_with fail
        refine HC.out.mono ?_
        rintro e w' ⟨rfl, m2, rfl⟩
        go_wp2
        go_roundw
        case rel => exact ⟨k + 1, by omega, by simp, HF.out, m + m2, rfl⟩
        case measure => simp [intOf]; omega
    · have hk2 : k = ls.length := by omega
      have HF : Hid (fndV (pKey c q) ls = .tuple #[.int .i64 (0 : Nat), .bool false]) := by
        have hp := HP.out
        rw [List.take_of_length_le (by simp; omega)] at hp
        unfold fndV
        rw [fnd_none hp]
        rfl
      clear hk2
      go_wp2
      refine bodyPost_ret (results_tmp2 rfl _ _ _) rfl ?_
      exact ⟨by rw [HF.out]; rfl, m, rfl⟩

set_option maxHeartbeats 1000000 in
theorem findEmpty (w : World) (h : IsSo w g b ls c) :
    Calls Try.prog 24 #[.pointer (some ⟨g, 0, none⟩), .func (.func 28) #[] #[]] w (Quiet w (fndV pEmpty ls)) := by
  have d0 := h.blk.cell 0
  simp at d0
  obtain ⟨hn, hn1⟩ := h.len
  have hlen : (ls.length : Int) ≤ 16 := by omega
  have H := Lib.hid h
  have hR : FRel w pEmpty ls (.int .i64 0) w := ⟨0, by omega, rfl, by simp, 0, rfl⟩
  clear h
  go_enter Try.func24, Try.ntmps24
  go_wp2
  go_loopw [14] (fun i wr => FRel w pEmpty ls i wr) (fun i _ => ls.length - (intOf i).toNat)
  case atStart => exact hR
  case round =>
    obtain ⟨k, hk, rfl, hp, m, rfl⟩ := hrel
    clear hR
    have HP := Lib.hid hp
    clear hp
    by_cases hlt : k < ls.length
    · obtain ⟨x, hx⟩ : ∃ x, ls[k]? = some x := ⟨ls[k], List.getElem?_eq_getElem hlt⟩
      have hlt2 : (k : Int) < (ls.length : Int) := by omega
      have hbx := H.out.bin hx
      cases hb : pEmpty x.bin with
      | true =>
        have HF : Hid (fndV pEmpty ls = .tuple #[.int .i64 (k : Nat), .bool true]) := by unfold fndV; rw [fnd_hit HP.out hbx hb]; rfl
        have hc := c28 (w.drewN m) (H.out.drewN m) hx
        rw [hb] at hc
        have HC := Lib.hid hc
        clear hb hbx hx hc
        go_wp2_with fail
        refine HC.out.mono ?_
        rintro e w' ⟨rfl, m2, rfl⟩
        go_wp2
        refine bodyPost_ret (results_tmp2 rfl _ _ _) rfl ?_
        exact ⟨by rw [HF.out]; rfl, m + m2, rfl⟩
      | false =>
        have HF := Lib.hid (take_step HP.out hbx hb)
        have hc := c28 (w.drewN m) (H.out.drewN m) hx
        rw [hb] at hc
        have HC := Lib.hid hc
        clear hb hbx hx hc
        go_wp2_with fail
        refine HC.out.mono ?_
        rintro e w' ⟨rfl, m2, rfl⟩
        go_wp2
        go_roundw
        case rel => exact ⟨k + 1, by omega, by simp, HF.out, m + m2, rfl⟩
        case measure => simp [intOf]; omega
    · have hk2 : k = ls.length := by omega
      have HF : Hid (fndV pEmpty ls = .tuple #[.int .i64 (0 : Nat), .bool false]) := by
        have hp := HP.out
        rw [List.take_of_length_le (by simp; omega)] at hp
        unfold fndV
        rw [fnd_none hp]
        rfl
      clear hk2
      go_wp2
      refine bodyPost_ret (results_tmp2 rfl _ _ _) rfl ?_
      exact ⟨by rw [HF.out]; rfl, m, rfl⟩

set_option maxHeartbeats 1000000 in
theorem findFull (w : World) (h : IsSo w g b ls c) :
    Calls Try.prog 24 #[.pointer (some ⟨g, 0, none⟩), .func (.func 27) #[.pointer (some ⟨g, 0, none⟩)] #[]] w (Quiet w (fndV (pFull c) ls)) := by
  have d0 := h.blk.cell 0
  simp at d0
  obtain ⟨hn, hn1⟩ := h.len
  have hlen : (ls.length : Int) ≤ 16 := by omega
  have H := Lib.hid h
  have hR : FRel w (pFull c) ls (.int .i64 0) w := ⟨0, by omega, rfl, by simp, 0, rfl⟩
  clear h
  go_enter Try.func24, Try.ntmps24
  go_wp2
  go_loopw [14] (fun i wr => FRel w (pFull c) ls i wr) (fun i _ => ls.length - (intOf i).toNat)
  case atStart => exact hR
  case round =>
    obtain ⟨k, hk, rfl, hp, m, rfl⟩ := hrel
    clear hR
    have HP := Lib.hid hp
    clear hp
    by_cases hlt : k < ls.length
    · obtain ⟨x, hx⟩ : ∃ x, ls[k]? = some x := ⟨ls[k], List.getElem?_eq_getElem hlt⟩
      have hlt2 : (k : Int) < (ls.length : Int) := by omega
      have hbx := H.out.bin hx
      cases hb : (pFull c) x.bin with
      | true =>
        have HF : Hid (fndV (pFull c) ls = .tuple #[.int .i64 (k : Nat), .bool true]) := by unfold fndV; rw [fnd_hit HP.out hbx hb]; rfl
        have hc := c27 (w.drewN m) (H.out.drewN m) hx
        rw [hb] at hc
        have HC := Lib.hid hc
        clear hb hbx hx hc
        go_wp2_with fail
        refine HC.out.mono ?_
        rintro e w' ⟨rfl, m2, rfl⟩
        go_wp2
        refine bodyPost_ret (results_tmp2 rfl _ _ _) rfl ?_
        exact ⟨by rw [HF.out]; rfl, m + m2, rfl⟩
      | false =>
        have HF := Lib.hid (take_step HP.out hbx hb)
        have hc := c27 (w.drewN m) (H.out.drewN m) hx
        rw [hb] at hc
        have HC := Lib.hid hc
        clear hb hbx hx hc
        go_wp2_with fail
        refine HC.out.mono ?_
        rintro e w' ⟨rfl, m2, rfl⟩
        go_wp2
        go_roundw
        case rel => exact ⟨k + 1, by omega, by simp, HF.out, m + m2, rfl⟩
        case measure => simp [intOf]; omega
    · have hk2 : k = ls.length := by omega
      have HF : Hid (fndV (pFull c) ls = .tuple #[.int .i64 (0 : Nat), .bool false]) := by
        have hp := HP.out
        rw [List.take_of_length_le (by simp; omega)] at hp
        unfold fndV
        rw [fnd_none hp]
        rfl
      clear hk2
      go_wp2
      refine bodyPost_ret (results_tmp2 rfl _ _ _) rfl ?_
      exact ⟨by rw [HF.out]; rfl, m, rfl⟩

end

end Go.Proofs.Yteokognbnilkmaa
