/-
  The walks of the reference: Reserve, Release, Remove.
-/
import Derived.Test.YtholaaojcpifnaaRefb
namespace Go.Proofs.Ytholaaojcpifnaa
open Go.RowKit

theorem same_set {w w1 : World} {p : Addr} {v : Value} (h : Same w w1) (hp : w.heap.size ≤ p.block) : Same w (w1.setCell p v) := Fr.setCell h p v (.inr hp)

theorem own_frz {w : World} {base n cap : Nat} {e : TypeId} {A : Option Addr} {xs : List Value} (h : w.ownsRow base e 2 (.slice A n cap) n xs) : ∀ g o, A = some ⟨g, o, none⟩ → ∀ j, w.frozen? ⟨g, j, none⟩ = false := by
  intro g o hA j
  rcases h.2 with ⟨h', _⟩ | ⟨g', cap', cur, h', _, hg, _⟩
  · subst hA; cases h'
  · subst hA
    cases h'
    exact frozen_of_row w g j cur e hg

set_option maxRecDepth 100000 in
set_option maxHeartbeats 1000000 in
theorem reserver_any (A : Option Addr) (cap : Nat) (s : Stk) (x o : Bs) (w : World) (ok : SOk s) (h : RE w A s.length s) : Calls Try.prog 27 #[.slice A s.length cap, .string x, .string o] w (TupE w A s.length (sReserve s x o).1 (sReserve s x o).2) := by
  obtain ⟨i0, hi0, hz0, hz1, hz2⟩ := info_parts info65
  have hle := h.2.1
  have hlen : (s.length : Int) ≤ 512 := by omega
  by_cases ho : o = nul
  · have kx := eq_of ho
    have e : sReserve s x o = (s, 6) := by unfold sReserve; rw [if_pos ho]
    rw [e]
    clear e ho
    go_enter Try.func27, Try.ntmps27
    go_wp2
    refine bodyPost_ret (results_tmp2 rfl _ _ _) rfl ?_
    exact ⟨A, cap, rfl, h, Same.refl _, fun _ hi => .inl ⟨hi, rfl⟩⟩
  · have kx := ne_of ho
    have HO := Lib.hid ho
    clear ho
    go_enter Try.func27, Try.ntmps27
    go_wp2_with fail
    refine (at_any A _ cap s x w h).mono ?_
    rintro e w' ⟨i, rfl, rfl, hp⟩
    rcases hp with ⟨rfl, hg⟩ | ⟨k, p, rfl, hk, hg⟩
    · have E := Lib.hid (show sReserve s x o = (s, 8) by unfold sReserve; rw [if_neg HO.out, hg])
      clear hg
      go_wp2
      refine bodyPost_ret (results_tmp2 rfl _ _ _) rfl ?_
      rw [E.out]
      exact ⟨A, cap, rfl, h, Same.refl _, fun _ hi => .inl ⟨hi, rfl⟩⟩
    · obtain ⟨g, of, rfl, _, c1, _⟩ := h.2.2 k _ hk
      have hlt := (List.getElem?_eq_some_iff.1 hk).1
      have hlt2 : (k : Int) < (s.length : Int) := by omega
      by_cases hp : p = nul
      · have E := Lib.hid (show sReserve s x o = (s.set k (x, o), 0) by unfold sReserve; rw [if_neg HO.out, hg, ← setO_set s k x o p ok.nd hk]; simp [hp])
        have kp := eq_of hp
        have HK := Lib.hid hk
        have RD := Lib.hid h.reads
        clear h hk hg hp
        go_wp2_with (at_builtin; refine wpList_append_any _ rfl _ _ 27 rfl w.heap.size 65 i0 _ 2 32 Try.underlying27 hi0 hz0 hz1 hz2 rfl (by decide) _ 0 [] rfl (own_empty2 w) w.heap.size (some ⟨g, of, none⟩) s.length cap (cells2 s) rfl (RD.out.alloc (Nat.le_refl _) _) (cells2_one s) (by unfold maxLen; omega) (by omega) (by simp) ?_; intro v1 w8 own1 g1 b1; have S8 := Lib.hid (same_grown ((Same.refl w).alloc _) g1 (fun g hg => own_base2 (own_empty2 w) hg)); rw [Nat.zero_add] at own1; obtain ⟨A8, c8, rfl, r8, hb8⟩ := own_re own1 rfl hle; obtain ⟨g8, o8, rfl, d0, d1, _⟩ := r8.2.2 k _ HK.out; have fz := own_frz own1 _ _ rfl (o8 + k * 2 + 1); clear g1 b1 own1; have HE := Lib.hid (r8.set (y := o) HK.out); have HB : Hid (∀ i, InA (some ⟨g8, o8, none⟩) i → (InA (some ⟨g, of, none⟩) i ∧ (s.set k (x, o)).length = s.length) ∨ w.heap.size ≤ i) := (fun _ ⟨_, e⟩ => .inr (hb8 _ _ e)); have HS := Lib.hid (same_set (p := ⟨g8, o8 + k * 2 + 1, none⟩) (v := .string o) S8.out (hb8 _ _ rfl)); clear r8 hb8)
        refine bodyPost_ret (results_tmp2 rfl _ _ _) rfl ?_
        rw [E.out]
        exact ⟨_, c8, by simp, by simpa using HE.out, HS.out, HB.out⟩
      · have E := Lib.hid (show sReserve s x o = (s, 14) by unfold sReserve; rw [if_neg HO.out, hg]; simp [hp])
        have kp := ne_of hp
        clear hp hg
        go_wp2
        refine bodyPost_ret (results_tmp2 rfl _ _ _) rfl ?_
        rw [E.out]
        exact ⟨_, cap, rfl, h, Same.refl _, fun _ hi => .inl ⟨hi, rfl⟩⟩

/-- A stock in the midst of a release. -/
def relP (s : Stk) (o : Bs) (k : Nat) : Stk := sRelease (s.take k) o ++ s.drop k
theorem relP_zero (s : Stk) (o : Bs) : relP s o 0 = s := by simp [relP, sRelease]
theorem relP_all (s : Stk) (o : Bs) : relP s o s.length = sRelease s o := by simp [relP]
theorem rel_len (s : Stk) (o : Bs) : (sRelease s o).length = s.length := by simp [sRelease]
theorem relP_len (s : Stk) (o : Bs) (k : Nat) : (relP s o k).length = s.length := by
  unfold relP
  rw [List.length_append, rel_len, ← List.length_append, List.take_append_drop]
theorem relP_get {s : Stk} {k : Nat} {e : Bs × Bs} (o : Bs) (h : s[k]? = some e) : (relP s o k)[k]? = some e := by
  have hk := (List.getElem?_eq_some_iff.1 h).1
  unfold relP
  rw [List.getElem?_append_right (by rw [rel_len, List.length_take]; omega), rel_len, List.length_take, List.getElem?_drop]
  have : k + (k - min k s.length) = k := by omega
  rw [this, h]
theorem relP_step {s : Stk} {k : Nat} {x p : Bs} (o : Bs) (h : s[k]? = some (x, p)) : relP s o (k + 1) = if o ≠ nul ∧ p = o then (relP s o k).set k (x, nul) else relP s o k := by
  obtain ⟨hk, he⟩ := List.getElem?_eq_some_iff.1 h
  have e1 : s.drop k = (x, p) :: s.drop (k + 1) := by rw [List.drop_eq_getElem_cons hk, he]
  have e2 : s.take (k + 1) = s.take k ++ [(x, p)] := by rw [List.take_add_one, h]; rfl
  have e3 : sRelease (s.take k ++ [(x, p)]) o = sRelease (s.take k) o ++ [if o ≠ nul ∧ p = o then (x, nul) else (x, p)] := by simp [sRelease]
  unfold relP
  rw [e2, e3, e1]
  split
  · rw [List.set_append_right _ _ (by rw [rel_len, List.length_take]; omega), rel_len, List.length_take]
    have : k - min k s.length = 0 := by omega
    rw [this]
    simp
  · simp
theorem held_take {s : Stk} {k : Nat} {x p : Bs} (o : Bs) (h : s[k]? = some (x, p)) : (held (s.take (k + 1)) o).length = (held (s.take k) o).length + if o ≠ nul ∧ p = o then 1 else 0 := by
  unfold held
  by_cases ho : o = nul
  · simp [ho]
  · rw [if_neg ho, if_neg ho, withs_take h]
    by_cases hp : p = o
    · simp [hp, ho]
    · simp [hp]

/-- What holds at the head of each round of the reference's Release. -/
def LRelR (w : World) (s : Stk) (o : Bs) (A : Option Addr) (n i : Value) (wr : World) : Prop :=
  ∃ k : Nat, k ≤ s.length ∧ i = .int .i64 k ∧ n = .int .i64 (held (s.take k) o).length ∧ RE wr A s.length (relP s o k) ∧ Same w wr ∧ ∀ g o, A = some ⟨g, o, none⟩ → ∀ j, wr.frozen? ⟨g, j, none⟩ = false

theorem lrelr_next {w wr : World} {s : Stk} {o x p : Bs} {g f k : Nat} (h : s[k]? = some (x, p)) (hr : RE wr (some ⟨g, f, none⟩) s.length (relP s o k)) (hs : Same w wr) (hg : w.heap.size ≤ g) (fz : ∀ g' o', some (⟨g, f, none⟩ : Addr) = some ⟨g', o', none⟩ → ∀ j, wr.frozen? ⟨g', j, none⟩ = false) (hc : o ≠ nul ∧ p = o) :
    LRelR w s o (some ⟨g, f, none⟩) (.int .i64 (((held (s.take k) o).length : Int) + 1)) (.int .i64 ((k : Int) + 1)) (wr.setCell ⟨g, f + k * 2 + 1, none⟩ (.string ⟨#[]⟩)) := by
  have hk := (List.getElem?_eq_some_iff.1 h).1
  refine ⟨k + 1, by omega, by simp, ?_, ?_, same_set hs hg, fun g' o' e j => by rw [World.frozen?_setCell]; exact fz g' o' e j⟩
  · rw [held_take o h, if_pos hc]; simp
  · rw [relP_step o h, if_pos hc]
    exact hr.set (y := nul) (relP_get o h)
theorem lrelr_skip {w wr : World} {s : Stk} {o x p : Bs} {A : Option Addr} {k : Nat} (h : s[k]? = some (x, p)) (hr : RE wr A s.length (relP s o k)) (hs : Same w wr) (fz : ∀ g' o', A = some ⟨g', o', none⟩ → ∀ j, wr.frozen? ⟨g', j, none⟩ = false) (hc : ¬ (o ≠ nul ∧ p = o)) :
    LRelR w s o A (.int .i64 (held (s.take k) o).length) (.int .i64 ((k : Int) + 1)) wr := by
  have hk := (List.getElem?_eq_some_iff.1 h).1
  refine ⟨k + 1, by omega, by simp, ?_, ?_, hs, fz⟩
  · rw [held_take o h, if_neg hc]; simp
  · rw [relP_step o h, if_neg hc]
    exact hr

set_option maxRecDepth 100000 in
set_option maxHeartbeats 1000000 in
theorem releaser_any (A : Option Addr) (cap : Nat) (s : Stk) (o : Bs) (w : World) (h : RE w A s.length s) : Calls Try.prog 28 #[.slice A s.length cap, .string o] w (TupE w A s.length (sRelease s o) (held s o).length) := by
  obtain ⟨i0, hi0, hz0, hz1, hz2⟩ := info_parts info65
  have hle := h.2.1
  have hlen : (s.length : Int) ≤ 512 := by omega
  have RD := Lib.hid h.reads
  clear h
  go_enter Try.func28, Try.ntmps28
  go_wp2_with (at_builtin; refine wpList_append_any _ rfl _ _ 27 rfl w.heap.size 65 i0 _ 2 32 Try.underlying27 hi0 hz0 hz1 hz2 rfl (by decide) _ 0 [] rfl (own_empty2 w) w.heap.size A s.length cap (cells2 s) rfl (RD.out.alloc (Nat.le_refl _) _) (cells2_one s) (by unfold maxLen; omega) (by omega) (by simp) ?_; intro v1 w8 own1 g1 b1; have S8 := Lib.hid (same_grown ((Same.refl w).alloc _) g1 (fun g hg => own_base2 (own_empty2 w) hg)); rw [Nat.zero_add] at own1; obtain ⟨A8, c8, rfl, r8, hb8⟩ := own_re own1 rfl hle; have fz := own_frz own1; clear g1 b1 own1)
  have HB := Lib.hid hb8
  have hR : LRelR w s o A8 (.int .i64 0) (.int .i64 0) w8 := ⟨0, by omega, rfl, by unfold held; simp [withs], by rw [relP_zero]; exact r8, S8.out, fz⟩
  clear r8 hb8 fz
  go_loopw [7, 8] (fun n i wr => LRelR w s o A8 n i wr) (fun _ i _ => s.length - (intOf i).toNat)
  case atStart => exact hR
  case round =>
    obtain ⟨k, hk, rfl, rfl, hr, hs, fz⟩ := hrel
    clear hR
    have hhl := held_le (s.take k) o
    rw [List.length_take] at hhl
    have hhl2 : ((held (s.take k) o).length : Int) ≤ 512 := by omega
    by_cases hlt : k < s.length
    · obtain ⟨e, he⟩ : ∃ e, s[k]? = some e := ⟨s[k], List.getElem?_eq_getElem hlt⟩
      obtain ⟨x, p⟩ := e
      obtain ⟨g, of, rfl, c0, c1, hgl⟩ := hr.2.2 k _ (relP_get o he)
      by_cases hn : o = nul
      · have HN := Lib.hid (lrelr_skip he hr hs fz (fun hc => hc.1 hn))
        have kn := eq_of hn
        clear hn he
        go_wp2
        go_roundw
        case rel => exact HN.out
        case measure => simp [intOf]; omega
      · by_cases hp : p = o
        · have HN := Lib.hid (lrelr_next he hr hs (HB.out _ _ rfl) fz ⟨hn, hp⟩)
          have kn := ne_of hn
          have fz1 := fz _ _ rfl (of + k * 2 + 1)
          subst hp
          clear hn he
          go_wp2
          go_roundw
          case rel => exact HN.out
          case measure => simp [intOf]; omega
        · have HN := Lib.hid (lrelr_skip he hr hs fz (fun hc => hp hc.2))
          have kn := ne_of hn
          have kp : (p.toList == o.toList) = false := (Lib.bytes_beq_false_iff p o).2 hp
          clear hn he hp
          go_wp2
          go_roundw
          case rel => exact HN.out
          case measure => simp [intOf]; omega
    · have hk2 : k = s.length := by omega
      subst hk2
      rw [relP_all] at hr
      rw [List.take_length] at hhl2 hhl
      go_wp2
      refine bodyPost_ret (results_tmp2 rfl _ _ _) rfl ?_
      exact ⟨A8, c8, by rw [rel_len]; simp, by rw [rel_len]; exact hr, hs, fun _ ⟨_, e⟩ => .inr (HB.out _ _ e)⟩

end Go.Proofs.Ytholaaojcpifnaa
