/-
  The walks of the reference's Remove, and of the law's likewise.
-/
import Derived.Test.YtholaaojcpifnaaRefc
namespace Go.Proofs.Ytholaaojcpifnaa
open Go.RowKit

theorem sRemove_take {s : Stk} {o x p : Bs} {k : Nat} (h : s[k]? = some (x, p)) : sRemove (s.take (k + 1)) o = if o = nul ∨ p ≠ o then sRemove (s.take k) o ++ [(x, p)] else sRemove (s.take k) o := by
  rw [List.take_add_one, h]
  unfold sRemove
  by_cases hc : o = nul ∨ p ≠ o
  · simp [hc]
  · simp [hc]
theorem sRemove_le (s : Stk) (o : Bs) : (sRemove s o).length ≤ s.length := by unfold sRemove; exact List.length_filter_le _ _

/-- What holds at the head of each round of the reference's Remove. -/
def RRel (w : World) (s : Stk) (o : Bs) (l i : Value) (wr : World) : Prop :=
  ∃ k : Nat, k ≤ s.length ∧ i = .int .i64 k ∧ wr.ownsRow w.heap.size 65 2 l (sRemove (s.take k) o).length (cells2 (sRemove (s.take k) o)) ∧ Same w wr

theorem rrel_next {w wr w1 : World} {s : Stk} {o x p : Bs} {k : Nat} {l l' : Value} (he : s[k]? = some (x, p)) (ho : o = nul ∨ p ≠ o) (hb : Same w wr) (hown : wr.ownsRow w.heap.size 65 2 l (sRemove (s.take k) o).length (cells2 (sRemove (s.take k) o)))
    (h1 : w1.ownsRow w.heap.size 65 2 l' ((sRemove (s.take k) o).length + 1) (cells2 (sRemove (s.take k) o) ++ [.string x, .string p])) (hg : (wr.alloc (.cells #[.string x, .string p] 65)).grownBy w1 l.ownBlock) : RRel w s o l' (.int .i64 ((k : Int) + 1)) w1 := by
  have hlt := (List.getElem?_eq_some_iff.1 he).1
  have e1 : sRemove (s.take (k + 1)) o = sRemove (s.take k) o ++ [(x, p)] := by rw [sRemove_take he, if_pos ho]
  refine ⟨k + 1, by omega, by simp, ?_, same_grown (Fr.alloc hb _) hg (fun g hgg => own_base2 hown hgg)⟩
  rw [e1, cells2_app]
  simpa [cells2] using h1
theorem rrel_skip {w wr : World} {s : Stk} {o x p : Bs} {k : Nat} {l : Value} (he : s[k]? = some (x, p)) (ho : ¬ (o = nul ∨ p ≠ o)) (hb : Same w wr) (hown : wr.ownsRow w.heap.size 65 2 l (sRemove (s.take k) o).length (cells2 (sRemove (s.take k) o))) :
    RRel w s o l (.int .i64 ((k : Int) + 1)) wr := by
  have hlt := (List.getElem?_eq_some_iff.1 he).1
  have e1 : sRemove (s.take (k + 1)) o = sRemove (s.take k) o := by rw [sRemove_take he, if_neg ho]
  exact ⟨k + 1, by omega, by simp, by rw [e1]; exact hown, hb⟩

/-- How the reference's Remove ends. -/
def RemE (w : World) (s : Stk) (o : Bs) (e : Ending) (w' : World) : Prop :=
  ∃ A cap B capB, e = .returned (.tuple #[.slice A (sRemove s o).length cap, .slice B (held s o).length capB]) ∧ RE w' A (sRemove s o).length (sRemove s o) ∧ RS w' B (held s o).length (held s o) ∧ Same w w' ∧ ∀ i, InA A i → w.heap.size ≤ i

/-- The slice of a call that returns new strings. -/
theorem RetS.rs {w w' : World} {xs : List Bs} {e : Ending} (h : RetS w xs e w') : ∃ A cap, e = .returned (.slice A xs.length cap) ∧ RS w' A xs.length xs ∧ Same w w' := by
  obtain ⟨l, he, hown, hb⟩ := h
  obtain ⟨A, cap, hl, hrs⟩ := RS.of_own hown rfl
  subst hl
  exact ⟨A, cap, he, hrs, Same.of hb⟩
theorem freer_rs {A : Option Addr} {n cap : Nat} {s : Stk} {w : World} (h : RE w A n s) : Calls Try.prog 18 #[.slice A n cap] w fun e w' => ∃ B capB, e = .returned (.slice B (withs s nul).length capB) ∧ RS w' B (withs s nul).length (withs s nul) ∧ Same w w' :=
  (freer_any A n cap s w h).mono fun _ _ hr => hr.rs
theorem heldr_rs {A : Option Addr} {n cap : Nat} {s : Stk} {o : Bs} {w : World} (h : RE w A n s) : Calls Try.prog 20 #[.slice A n cap, .string o] w fun e w' => ∃ B capB, e = .returned (.slice B (held s o).length capB) ∧ RS w' B (held s o).length (held s o) ∧ Same w w' :=
  (heldr_any A n cap s o w h).mono fun _ _ hr => hr.rs

set_option maxRecDepth 100000 in
set_option maxHeartbeats 1000000 in
theorem remover_any (A : Option Addr) (cap : Nat) (s : Stk) (o : Bs) (w : World) (h : RE w A s.length s) : Calls Try.prog 29 #[.slice A s.length cap, .string o] w (RemE w s o) := by
  obtain ⟨i0, hi0, hz0, hz1, hz2⟩ := info_parts info65
  have hle := h.2.1
  have hlen : (s.length : Int) ≤ 512 := by omega
  have H := Lib.hid h
  clear h
  have hR : RRel w s o (.slice none 0 0) (.int .i64 0) w := ⟨0, by omega, rfl, ⟨by simp [cells2, sRemove], .inl ⟨rfl, by simp [sRemove]⟩⟩, Same.refl _⟩
  go_enter Try.func29, Try.ntmps29
  go_wp2
  go_loopw [6, 7] (fun l i wr => RRel w s o l i wr) (fun _ i _ => s.length - (intOf i).toNat)
  case atStart => exact hR
  case round =>
    obtain ⟨k, hk, rfl, hown, hb⟩ := hrel
    clear hR
    have hwl := sRemove_le (s.take k) o
    rw [List.length_take] at hwl
    by_cases hlt : k < s.length
    · obtain ⟨e, he⟩ : ∃ e, s[k]? = some e := ⟨s[k], List.getElem?_eq_getElem hlt⟩
      obtain ⟨x, p⟩ := e
      obtain ⟨g, of, rfl, c0, c1, hgl⟩ := (H.out.same hb).2.2 k _ he
      have hbs := hb.size
      have HE := Lib.hid he
      clear he
      by_cases ho : o = nul ∨ p ≠ o
      · have HN := Lib.hid (fun w1 l' h1 h2 => rrel_next (w1 := w1) (l' := l') HE.out ho hb hown h1 h2)
        have ko : (o.toList == nul.toList) = true ∨ ((o.toList == nul.toList) = false ∧ (p.toList == o.toList) = false) := by
          by_cases h1 : o = nul
          · exact .inl ((Lib.bytes_beq_iff o nul).2 h1)
          · exact .inr ⟨(Lib.bytes_beq_false_iff o nul).2 h1, (Lib.bytes_beq_false_iff p o).2 (ho.resolve_left h1)⟩
        have sz9 : Hid (w.heap.size ≤ (wr.alloc (.cells #[.string x, .string p] 65)).heap.size) := (Fr.alloc hb _).size
        by_cases h1 : o = nul
        · have kn := eq_of h1
          clear ho ko h1
          go_wp2_with (at_builtin; refine wpList_append_any _ rfl _ _ 27 rfl w.heap.size 65 i0 _ 2 32 Try.underlying27 hi0 hz0 hz1 hz2 rfl (by decide) _ _ _ rfl (hown.alloc _) (wr.heap.size + 1) (some ⟨wr.heap.size, 0, none⟩) 1 1 [.string x, .string p] rfl (reads_lit2 wr _ _) (cells2_one [(x, p)]) (by unfold maxLen; omega) (by omega) sz9.out ?_; intro v2 w9 own2 g2 b2; have HE2 := Lib.hid (HN.out w9 v2 own2 g2); clear own2 g2 b2)
          go_roundw
          case rel => exact HE2.out
          case measure => simp [intOf]; omega
        · have kn := ne_of h1
          have kp : (p.toList == o.toList) = false := (Lib.bytes_beq_false_iff p o).2 (ho.resolve_left h1)
          clear ho ko h1
          go_wp2_with (at_builtin; refine wpList_append_any _ rfl _ _ 27 rfl w.heap.size 65 i0 _ 2 32 Try.underlying27 hi0 hz0 hz1 hz2 rfl (by decide) _ _ _ rfl (hown.alloc _) (wr.heap.size + 1) (some ⟨wr.heap.size, 0, none⟩) 1 1 [.string x, .string p] rfl (reads_lit2 wr _ _) (cells2_one [(x, p)]) (by unfold maxLen; omega) (by omega) sz9.out ?_; intro v2 w9 own2 g2 b2; have HE2 := Lib.hid (HN.out w9 v2 own2 g2); clear own2 g2 b2)
          go_roundw
          case rel => exact HE2.out
          case measure => simp [intOf]; omega
      · have HN := Lib.hid (rrel_skip HE.out ho hb hown)
        obtain ⟨h1, h2⟩ : o ≠ nul ∧ p = o := ⟨fun e => ho (.inl e), Classical.byContradiction fun e => ho (.inr e)⟩
        have kn := ne_of h1
        have kp : (p.toList == o.toList) = true := (Lib.bytes_beq_iff p o).2 h2
        clear ho h1 h2
        go_wp2
        go_roundw
        case rel => exact HN.out
        case measure => simp [intOf]; omega
    · have hk2 : k = s.length := by omega
      subst hk2
      rw [List.take_length] at hown
      obtain ⟨A9, c9, rfl, r9, hb9⟩ := own_re hown rfl (by rw [List.take_length] at hwl; omega)
      have HB := Lib.hid hb9
      clear hwl hown hb9
      go_wp2_with fail
      refine (heldr_rs (H.out.same hb)).mono ?_
      rintro e w2 ⟨B, capB, rfl, r2, s2⟩
      go_wp2
      refine bodyPost_ret (results_tmp2 rfl _ _ _) rfl ?_
      exact ⟨A9, c9, B, capB, rfl, r9.same s2, r2, hb.trans s2, fun _ ⟨_, e⟩ => HB.out _ _ e⟩

theorem results_tmp4 {fn : Func} {t u v x : Tmp} (h : fn.results = #[.tmp t, .tmp u, .tmp v, .tmp x]) (tmps : Array Value) (P : Program) (w : World) :
    (results fn tmps).run P w = .ok (.tuple #[tmps.getD t undef, tmps.getD u undef, tmps.getD v undef, tmps.getD x undef]) w := by simp [results, h]

/-- How likewise ends. -/
def LikeE (w : World) (A0 : Option Addr) (n0 : Nat) (y : Stk × Int × Int × List Bs) (e : Ending) (w' : World) : Prop :=
  ∃ A cap B capB, e = .returned (.tuple #[.slice A y.1.length cap, .int .i64 y.2.1, .int .i64 y.2.2.1, .slice B y.2.2.2.length capB]) ∧ RE w' A y.1.length y.1 ∧ RS w' B y.2.2.2.length y.2.2.2 ∧ Same w w' ∧ ∀ i, InA A i → (InA A0 i ∧ y.1.length = n0) ∨ w.heap.size ≤ i

set_option maxRecDepth 100000 in
set_option maxHeartbeats 1000000 in
theorem likewise_any (A : Option Addr) (cap : Nat) (s : Stk) (x : OpD) (w : World) (ok : SOk s) (h : RE w A s.length s) : Calls Try.prog 13 #[.slice A s.length cap, x.agg] w (LikeE w A s.length (sDo s x)) := by
  obtain ⟨kd, it, od⟩ := x
  have hal : Same w (w.alloc (.cells #[.int .u8 kd, .string it, .string od] 29)) := (Fr.refl _ _).alloc _
  have h1 := h.same hal
  have HZ : Hid (w.heap.size ≤ (w.alloc (.cells #[.int .u8 kd, .string it, .string od] 29)).heap.size) := hal.size
  clear h
  unfold OpD.agg
  simp only
  by_cases e0 : kd = 0
  · subst e0
    go_enter Try.func13, Try.ntmps13
    go_wp2_with fail
    refine (addr_any A cap s it _ h1).mono ?_
    rintro e w2 ⟨A2, c2, rfl, r2, s2, l2⟩
    clear h1
    go_wp2
    refine bodyPost_ret (results_tmp4 rfl _ _ _) rfl ?_
    exact ⟨A2, c2, none, 0, rfl, r2, RS.nil _ _, hal.trans s2, fun i hi => (l2 i hi).imp id (Nat.le_trans HZ.out)⟩
  · have k0 : (kd == 0) = false := by simpa using e0
    by_cases e1 : kd = 1
    · subst e1
      go_enter Try.func13, Try.ntmps13
      go_wp2_with fail
      refine (reserver_any A cap s it od _ ok h1).mono ?_
      rintro e w2 ⟨A2, c2, rfl, r2, s2, l2⟩
      clear h1
      go_wp2
      refine bodyPost_ret (results_tmp4 rfl _ _ _) rfl ?_
      exact ⟨A2, c2, none, 0, rfl, r2, RS.nil _ _, hal.trans s2, fun i hi => (l2 i hi).imp id (Nat.le_trans HZ.out)⟩
    · have k1 : (kd == 1) = false := by simpa using e1
      by_cases e2 : kd = 2
      · subst e2
        go_enter Try.func13, Try.ntmps13
        go_wp2_with fail
        refine (releaser_any A cap s od _ h1).mono ?_
        rintro e w2 ⟨A2, c2, rfl, r2, s2, l2⟩
        clear h1
        go_wp2
        refine bodyPost_ret (results_tmp4 rfl _ _ _) rfl ?_
        exact ⟨A2, c2, none, 0, rfl, r2, RS.nil _ _, hal.trans s2, fun i hi => (l2 i hi).imp id (Nat.le_trans HZ.out)⟩
      · have k2 : (kd == 2) = false := by simpa using e2
        have ey : sDo s ⟨kd, it, od⟩ = (sRemove s od, 0, 0, held s od) := by simp [sDo, e0, e1, e2]
        rw [ey]
        clear ey e0 e1 e2
        go_enter Try.func13, Try.ntmps13
        go_wp2_with fail
        refine (remover_any A cap s od _ h1).mono ?_
        rintro e w2 ⟨A2, c2, B2, d2, rfl, r2, q2, s2, l2⟩
        clear h1
        go_wp2
        refine bodyPost_ret (results_tmp4 rfl _ _ _) rfl ?_
        exact ⟨A2, c2, B2, d2, rfl, r2, q2, hal.trans s2, fun i hi => .inr (Nat.le_trans HZ.out (l2 i hi))⟩

end Go.Proofs.Ytholaaojcpifnaa
