/-
  The walks of Len, Fullest, Full and Take.
-/
import Derived.Test.YteokognbnilkmaaWalka
namespace Go.Proofs.Yteokognbnilkmaa
open Go.RowKit

/-- How a call ends that turns nothing. -/
def Still (w : World) (v : Value) (e : Ending) (w' : World) : Prop := e = .returned v ∧ Same w w'
theorem Quiet.still {w w' : World} {v : Value} {e : Ending} (h : Quiet w v e w') : Still w v e w' := by
  obtain ⟨h1, m, rfl⟩ := h
  exact ⟨h1, Same.drewN w m⟩

theorem IsSo.forms {w : World} {g b c i : Nat} {ls : List Cl} {x : Cl} (h : IsSo w g b ls c) (hx : ls[i]? = some x) : ∃ A cap r, x.v = .slice A x.items.length cap ∧ x.m = .map (some r) := by
  obtain ⟨A, cap, hv, _, _⟩ := row_form (h.cl i x hx).row
  obtain ⟨r, _, e, _⟩ := (h.cl i x hx).map
  exact ⟨A, cap, r, hv, e⟩

def LenRel (w : World) (ls : List Cl) (n i : Value) (wr : World) : Prop :=
  ∃ k : Nat, k ≤ ls.length ∧ i = .int .i64 k ∧ n = .int .i64 (tot ((ls.map Cl.bin).take k) : Nat) ∧ Same w wr
theorem lenrel_next {w wr : World} {ls : List Cl} {k : Nat} {x : Cl} (hx : ls[k]? = some x) (hs : Same w wr) (o : Obj) : LenRel w ls (.int .i64 ((tot ((ls.map Cl.bin).take k) : Int) + (x.items.length : Int))) (.int .i64 ((k : Int) + 1)) (wr.alloc o) := by
  have hk := (List.getElem?_eq_some_iff.1 hx).1
  have hb : (ls.map Cl.bin)[k]? = some x.bin := by simp [hx]
  exact ⟨k + 1, by omega, by simp, by rw [tot_take hb]; simp [Cl.bin], Fr.alloc hs o⟩

set_option maxHeartbeats 1000000 in
theorem len_any (g b c : Nat) (ls : List Cl) (w : World) (h : IsSo w g b ls c) : Calls Try.prog 14 #[.pointer (some ⟨g, 0, none⟩)] w (Still w (.int .i64 (tot (ls.map Cl.bin) : Nat))) := by
  have d0 := h.blk.cell 0
  simp at d0
  obtain ⟨hn, hn1⟩ := h.len
  have hc2 := h.ok.c2
  have hlen : (ls.length : Int) ≤ 16 := by omega
  have H := Lib.hid h
  have hR : LenRel w ls (.int .i64 0) (.int .i64 0) w := ⟨0, by omega, rfl, by simp [tot], Same.refl _⟩
  clear h
  go_enter Try.func14, Try.ntmps14
  go_wp2
  go_loopw [3, 13] (fun n i wr => LenRel w ls n i wr) (fun _ i _ => ls.length - (intOf i).toNat)
  case atStart => exact hR
  case round =>
    obtain ⟨k, hk, rfl, rfl, hs⟩ := hrel
    clear hR
    have htl := tot_le ((ls.map Cl.bin).take k) (c := c) (fun b hb => H.out.ok.le b (List.mem_of_mem_take hb))
    have htl2 : tot ((ls.map Cl.bin).take k) ≤ 512 := by
      have h16 : ((ls.map Cl.bin).take k).length ≤ 16 := by rw [List.length_take, List.length_map]; omega
      exact Nat.le_trans htl (Nat.mul_le_mul h16 hc2)
    clear htl
    by_cases hlt : k < ls.length
    · obtain ⟨x, hx⟩ : ∃ x, ls[k]? = some x := ⟨ls[k], List.getElem?_eq_getElem hlt⟩
      have hlt2 : (k : Int) < (ls.length : Int) := by omega
      have hS := H.out.same hs
      obtain ⟨c0, c1, c2⟩ := arr_cells hS.arr hx
      obtain ⟨A, cap, r, hv, hm⟩ := hS.forms hx
      rw [hv] at c1
      rw [hm] at c2
      have hle := H.out.le hx
      have HN := Lib.hid (fun o => lenrel_next hx hs o)
      clear hx hv hm hS
      go_wp2
      go_roundw
      case rel => exact HN.out _
      case measure => simp [intOf]; omega
    · have HE : Hid ((tot ((ls.map Cl.bin).take k) : Nat) = tot (ls.map Cl.bin)) := by rw [List.take_of_length_le (by rw [List.length_map]; omega)]; rfl
      go_wp2
      go_ret
      exact ⟨by rw [← HE.out]; rfl, hs⟩

def FstRel (w : World) (ls : List Cl) (bt mt i : Value) (wr : World) : Prop :=
  ∃ k : Nat, k ≤ ls.length ∧ i = .int .i64 k ∧ bt = .int .i64 ((most ((ls.map Cl.bin).take k)).1 : Nat) ∧ mt = .int .i64 ((most ((ls.map Cl.bin).take k)).2 : Nat) ∧ Same w wr
theorem fst_hit {w wr : World} {ls : List Cl} {k : Nat} {x : Cl} (hx : ls[k]? = some x) (hs : Same w wr) (hb : (most ((ls.map Cl.bin).take k)).2 < x.items.length) : FstRel w ls (.int .i64 k) (.int .i64 x.items.length) (.int .i64 ((k : Int) + 1)) wr := by
  have hk := (List.getElem?_eq_some_iff.1 hx).1
  have hbx : (ls.map Cl.bin)[k]? = some x.bin := by simp [hx]
  refine ⟨k + 1, by omega, by simp, ?_, ?_, hs⟩
  · rw [most_take hbx, if_pos (show _ < x.bin.items.length from hb)]
  · rw [most_take hbx, if_pos (show _ < x.bin.items.length from hb)]; rfl
theorem fst_miss {w wr : World} {ls : List Cl} {k : Nat} {x : Cl} (hx : ls[k]? = some x) (hs : Same w wr) (hb : ¬ (most ((ls.map Cl.bin).take k)).2 < x.items.length) : FstRel w ls (.int .i64 ((most ((ls.map Cl.bin).take k)).1 : Nat)) (.int .i64 ((most ((ls.map Cl.bin).take k)).2 : Nat)) (.int .i64 ((k : Int) + 1)) wr := by
  have hk := (List.getElem?_eq_some_iff.1 hx).1
  have hbx : (ls.map Cl.bin)[k]? = some x.bin := by simp [hx]
  refine ⟨k + 1, by omega, by simp, ?_, ?_, hs⟩
  · rw [most_take hbx, if_neg (show ¬ _ < x.bin.items.length from hb)]
  · rw [most_take hbx, if_neg (show ¬ _ < x.bin.items.length from hb)]

/-- What Fullest returns. -/
def mostV (bs : Bins) : Value := .tuple #[.int .i64 ((most bs).1 : Nat), .bool (decide (0 < (most bs).2))]

set_option maxHeartbeats 1000000 in
theorem fullest_any (g b c : Nat) (ls : List Cl) (w : World) (h : IsSo w g b ls c) : Calls Try.prog 17 #[.pointer (some ⟨g, 0, none⟩)] w (Still w (mostV (ls.map Cl.bin))) := by
  have d0 := h.blk.cell 0
  simp at d0
  obtain ⟨hn, hn1⟩ := h.len
  have hc2 := h.ok.c2
  have hlen : (ls.length : Int) ≤ 16 := by omega
  have H := Lib.hid h
  have hR : FstRel w ls (.int .i64 0) (.int .i64 0) (.int .i64 0) w := ⟨0, by omega, rfl, by simp [most], by simp [most], Same.refl _⟩
  clear h
  go_enter Try.func17, Try.ntmps17
  go_wp2
  go_loopw [4, 5, 15] (fun bt mt i wr => FstRel w ls bt mt i wr) (fun _ _ i _ => ls.length - (intOf i).toNat)
  case atStart => exact hR
  case round =>
    obtain ⟨k, hk, rfl, rfl, rfl, hs⟩ := hrel
    clear hR
    obtain ⟨hm1, hm2⟩ := most_le (bs := ls.map Cl.bin) H.out.ok.le k (by rw [List.length_map]; omega)
    by_cases hlt : k < ls.length
    · obtain ⟨x, hx⟩ : ∃ x, ls[k]? = some x := ⟨ls[k], List.getElem?_eq_getElem hlt⟩
      have hlt2 : (k : Int) < (ls.length : Int) := by omega
      have hS := H.out.same hs
      obtain ⟨c0, c1, c2⟩ := arr_cells hS.arr hx
      obtain ⟨A, cap, r, hv, hm⟩ := hS.forms hx
      rw [hv] at c1
      rw [hm] at c2
      have hle := H.out.le hx
      have hal : Same w (wr.alloc (.cells #[.string x.key, .slice A x.items.length cap, .map (some r)] 64)) := Fr.alloc hs _
      by_cases hb : (most ((ls.map Cl.bin).take k)).2 < x.items.length
      · have HN := Lib.hid (fun m => fst_hit hx (wr := (wr.alloc (.cells #[.string x.key, .slice A x.items.length cap, .map (some r)] 64)).drewN m) (Fr.drewN hal m) hb)
        clear hx hv hm hS
        go_wp2
        go_quiet (fail)
        go_wp2
        go_roundw
        case rel => exact HN.out _
        case measure => simp [intOf]; omega
      · have HN := Lib.hid (fst_miss hx hal hb)
        clear hx hv hm hS
        go_wp2
        go_roundw
        case rel => exact HN.out
        case measure => simp [intOf]; omega
    · have HE := Lib.hid (show mostV (ls.map Cl.bin) = mostV ((ls.map Cl.bin).take k) by rw [List.take_of_length_le (by rw [List.length_map]; omega)])
      go_wp2
      refine bodyPost_ret (results_tmp2 rfl _ _ _) rfl ?_
      refine ⟨?_, hs⟩
      rw [HE.out]
      rfl

set_option maxHeartbeats 400000 in
theorem full_any (g b c : Nat) (ls : List Cl) (w : World) (h : IsSo w g b ls c) : Calls Try.prog 16 #[.pointer (some ⟨g, 0, none⟩)] w (Quiet w (fndV (pFull c) ls)) := by
  have hmf : ∀ (fn : Fn) (first cap : Array Value) (w : World), (Instr.makeFunc fn first cap).run Try.prog w = .ok (.func fn first cap) w := fun _ _ _ _ => rfl
  go_enter Try.func16, Try.ntmps16
  go_wp2_with fail
  refine (findFull w h).mono ?_
  rintro e w' ⟨rfl, m, rfl⟩
  unfold fndV
  go_wp2
  refine bodyPost_ret (results_tmp2 rfl _ _ _) rfl ?_
  exact ⟨rfl, m, rfl⟩

end Go.Proofs.Yteokognbnilkmaa
