/-
  The walks of the reference: at, Of, Free, Held.
-/
import Derived.Test.YtholaaojcpifnaaSpread
namespace Go.Proofs.Ytholaaojcpifnaa
open Go.RowKit

/-- A slice of entries reads as a stock. -/
def RE (w : World) (A : Option Addr) (n : Nat) (s : Stk) : Prop :=
  s.length = n ∧ n ≤ 512 ∧ ∀ k e, s[k]? = some e → ∃ g o, A = some ⟨g, o, none⟩ ∧ w.cell? ⟨g, o + k * 2, none⟩ = some (.string e.1) ∧ w.cell? ⟨g, o + k * 2 + 1, none⟩ = some (.string e.2) ∧ g < w.heap.size

theorem RE.same {w w' : World} {A : Option Addr} {n : Nat} {s : Stk} (h : RE w A n s) (hs : Same w w') : RE w' A n s := by
  obtain ⟨h1, h2, h3⟩ := h
  refine ⟨h1, h2, fun k e he => ?_⟩
  obtain ⟨g, o, e1, e2, e3, e4⟩ := h3 k e he
  have hb := hs.below
  exact ⟨g, o, e1, (hb.cell (p := ⟨g, o + k * 2, none⟩) e4).trans e2, (hb.cell (p := ⟨g, o + k * 2 + 1, none⟩) e4).trans e3, Nat.lt_of_lt_of_le e4 hs.size⟩

theorem getG_first {x o : Bs} : ∀ (s : Stk) (k : Nat), getG (s.take k) x = none → s[k]? = some (x, o) → getG s x = some o
  | [], _, _, h => by simp at h
  | e :: s, 0, _, h => by
    simp at h
    subst h
    simp [getG]
  | e :: s, k + 1, hn, h => by
    rw [List.take_succ_cons] at hn
    unfold getG at hn ⊢
    split at hn
    · cases hn
    · rename_i hne
      rw [if_neg hne]
      exact getG_first s k hn (by simpa using h)
theorem getG_step {x y o : Bs} {s : Stk} {k : Nat} (hn : getG (s.take k) x = none) (h : s[k]? = some (y, o)) (hy : y ≠ x) : getG (s.take (k + 1)) x = none := by
  rw [getG_none_iff] at hn ⊢
  rw [List.take_add_one, h, List.map_append, List.mem_append]
  simp
  refine ⟨?_, Ne.symm hy⟩
  simpa using hn

/-- What at returns. -/
def AtP (s : Stk) (x : Bs) (i : Int) : Prop := (i = -1 ∧ getG s x = none) ∨ ∃ (k : Nat) (o : Bs), i = (k : Int) ∧ s[k]? = some (x, o) ∧ getG s x = some o
def AtEnd (s : Stk) (x : Bs) (w : World) (e : Ending) (w' : World) : Prop := ∃ i : Int, e = .returned (.int .i64 i) ∧ w = w' ∧ AtP s x i
def AtRel (w : World) (s : Stk) (x : Bs) (i : Value) (wr : World) : Prop := ∃ k : Nat, k ≤ s.length ∧ i = .int .i64 k ∧ wr = w ∧ getG (s.take k) x = none

set_option maxHeartbeats 1000000 in
theorem at_any (A : Option Addr) (n cap : Nat) (s : Stk) (x : Bs) (w : World) (h : RE w A n s) : Calls Try.prog 30 #[.slice A n cap, .string x] w (AtEnd s x w) := by
  obtain ⟨hl, hle, hc⟩ := h
  subst hl
  have HC := Lib.hid hc
  clear hc
  have hR : AtRel w s x (.int .i64 0) w := ⟨0, by omega, rfl, rfl, rfl⟩
  have hlen : (s.length : Int) ≤ 512 := by omega
  go_enter Try.func30, Try.ntmps30
  go_wp2
  go_loopw [5] (fun i wr => AtRel w s x i wr) (fun i _ => s.length - (intOf i).toNat)
  case atStart => exact hR
  case round =>
    obtain ⟨k, hk, rfl, rfl, hn⟩ := hrel
    clear hR
    by_cases hlt : k < s.length
    · obtain ⟨e, he⟩ : ∃ e, s[k]? = some e := ⟨s[k], List.getElem?_eq_getElem hlt⟩
      obtain ⟨y, o⟩ := e
      obtain ⟨g, of, rfl, c0, _, _⟩ := HC.out k _ he
      by_cases hy : y = x
      · subst hy
        have HP : Hid (AtP s y (k : Int)) := .inr ⟨k, o, rfl, he, getG_first s k hn he⟩
        clear he hn
        go_wp2
        go_ret
        exact ⟨_, rfl, rfl, HP.out⟩
      · have HN := Lib.hid (getG_step hn he hy)
        have ko : (y.toList == x.toList) = false := (Lib.bytes_beq_false_iff y x).2 hy
        clear hy he hn
        go_wp2
        go_roundw
        case rel => exact ⟨k + 1, by omega, by simp, rfl, HN.out⟩
        case measure => simp [intOf]; omega
    · have hk2 : k = s.length := by omega
      subst hk2
      rw [List.take_length] at hn
      go_wp2
      go_ret
      exact ⟨_, rfl, rfl, .inl ⟨rfl, hn⟩⟩

set_option maxHeartbeats 1000000 in
theorem ofr_any (A : Option Addr) (n cap : Nat) (s : Stk) (x : Bs) (w : World) (h : RE w A n s) : Calls Try.prog 15 #[.slice A n cap, .string x] w fun e w' => e = .returned (.tuple #[.string ((getG s x).getD nul), .bool (getG s x).isSome]) ∧ w = w' := by
  have h2 := h
  obtain ⟨hl, hle, hc⟩ := h
  subst hl
  have HC := Lib.hid hc
  clear hc
  have hlen : (s.length : Int) ≤ 512 := by omega
  go_enter Try.func15, Try.ntmps15
  go_wp2_with fail
  refine (at_any A _ cap s x w h2).mono ?_
  rintro e w' ⟨i, rfl, rfl, hp⟩
  clear h2
  rcases hp with ⟨rfl, hg⟩ | ⟨k, o, rfl, hk, hg⟩
  · have HG := Lib.hid hg
    clear hg
    go_wp2
    refine bodyPost_ret (results_tmp2 rfl _ _ _) rfl ?_
    exact ⟨by rw [HG.out]; rfl, rfl⟩
  · have HG := Lib.hid hg
    clear hg
    obtain ⟨g, of, rfl, _, c1, _⟩ := HC.out k _ hk
    have hlt := (List.getElem?_eq_some_iff.1 hk).1
    have hlt2 : (k : Int) < (s.length : Int) := by omega
    clear hk
    go_wp2
    refine bodyPost_ret (results_tmp2 rfl _ _ _) rfl ?_
    exact ⟨by rw [HG.out]; rfl, rfl⟩

set_option maxHeartbeats 1000000 in
theorem freer_any (A : Option Addr) (n cap : Nat) (s : Stk) (w : World) (h : RE w A n s) : Calls Try.prog 18 #[.slice A n cap] w (RetS w (withs s nul)) := by
  obtain ⟨i0, hi0, hz0, hz1, hz2⟩ := info_parts info9
  obtain ⟨hl, hle, hc⟩ := h
  subst hl
  have HC := Lib.hid hc
  clear hc
  have hR : WRel w s nul (.slice none 0 0) (.int .i64 0) w := ⟨0, by omega, rfl, ⟨by simp [cellsS, withs], .inl ⟨rfl, by simp [withs]⟩⟩, Below.refl _ _⟩
  have hlen : (s.length : Int) ≤ 512 := by omega
  go_enter Try.func18, Try.ntmps18
  go_wp2
  go_loopw [3, 4] (fun l i wr => WRel w s nul l i wr) (fun _ i _ => s.length - (intOf i).toNat)
  case atStart => exact hR
  case round =>
    obtain ⟨k, hk, rfl, hown, hb⟩ := hrel
    clear hR
    have hwl := withs_le (s.take k) nul
    rw [List.length_take] at hwl
    by_cases hlt : k < s.length
    · obtain ⟨e, he⟩ : ∃ e, s[k]? = some e := ⟨s[k], List.getElem?_eq_getElem hlt⟩
      obtain ⟨x, ord⟩ := e
      obtain ⟨g, of, rfl, c0, c1, hgl⟩ := HC.out k _ he
      replace c0 := (hb.cell (p := ⟨g, of + k * 2, none⟩) hgl).trans c0
      replace c1 := (hb.cell (p := ⟨g, of + k * 2 + 1, none⟩) hgl).trans c1
      have hbs := hb.size
      have HE := Lib.hid he
      clear he
      by_cases ho : ord = nul
      · have HN := Lib.hid (fun w1 l' h1 h2 => wrel_next (w1 := w1) (l' := l') HE.out ho hlt hb hown h1 h2)
        have ko := eq_of ho
        clear ho
        go_wp2_with (at_builtin; refine wpList_append_own_at _ rfl _ _ 31 rfl w.heap.size 9 i0 _ 1 16 Try.underlying31 hi0 hz0 hz1 hz2 rfl (by decide) _ _ _ rfl (hown.alloc _) ⟨wr.heap.size, 0, none⟩ 1 1 [.string x] rfl rfl (cell_one_new _ _ _) (by simp [Value.oneCell']) (by unfold maxLen; omega) (by omega) (by simp; omega) ?_; intro v' w1 hown' hgrow _ _; have HE2 := Lib.hid (HN.out w1 v' hown' hgrow); clear hown' hgrow)
        go_roundw
        case rel => exact HE2.out
        case measure => simp [intOf]; omega
      · have HN := Lib.hid (wrel_skip HE.out ho hlt hb hown)
        have ko := ne_of ho
        clear ho
        go_wp2
        go_roundw
        case rel => exact HN.out
        case measure => simp [intOf]; omega
    · have hk2 : k = s.length := by omega
      subst hk2
      rw [List.take_length] at hown
      clear hwl
      go_wp2
      go_ret
      exact ⟨_, rfl, hown, hb⟩

/-- What holds at the head of each round of the reference's Held, for an empty order. -/
def ZRel (w : World) (s : Stk) (l i : Value) (wr : World) : Prop := ∃ k : Nat, k ≤ s.length ∧ i = .int .i64 k ∧ l = .slice none 0 0 ∧ wr = w

set_option maxHeartbeats 2000000 in
theorem heldr_any (A : Option Addr) (n cap : Nat) (s : Stk) (o : Bs) (w : World) (h : RE w A n s) : Calls Try.prog 20 #[.slice A n cap, .string o] w (RetS w (held s o)) := by
  obtain ⟨i0, hi0, hz0, hz1, hz2⟩ := info_parts info9
  obtain ⟨hl, hle, hc⟩ := h
  subst hl
  have HC := Lib.hid hc
  clear hc
  have hlen : (s.length : Int) ≤ 512 := by omega
  by_cases hn : o = nul
  · have hR : ZRel w s (.slice none 0 0) (.int .i64 0) w := ⟨0, by omega, rfl, rfl, rfl⟩
    have kn := eq_of hn
    rw [hn, held_nul, ← hn]
    clear hn
    go_enter Try.func20, Try.ntmps20
    go_wp2
    go_loopw [5, 6] (fun l i wr => ZRel w s l i wr) (fun _ i _ => s.length - (intOf i).toNat)
    case atStart => exact hR
    case round =>
      obtain ⟨k, hk, rfl, rfl, rfl⟩ := hrel
      clear hR
      by_cases hlt : k < s.length
      · go_wp2
        go_roundw
        case rel => exact ⟨k + 1, by omega, by simp, rfl, rfl⟩
        case measure => simp [intOf]; omega
      · go_wp2
        go_ret
        exact ⟨_, rfl, ⟨rfl, .inl ⟨rfl, rfl⟩⟩, Below.refl _ _⟩
  · have kn := ne_of hn
    rw [held_ne _ hn]
    clear hn
    have hR : WRel w s o (.slice none 0 0) (.int .i64 0) w := ⟨0, by omega, rfl, ⟨by simp [cellsS, withs], .inl ⟨rfl, by simp [withs]⟩⟩, Below.refl _ _⟩
    go_enter Try.func20, Try.ntmps20
    go_wp2
    go_loopw [5, 6] (fun l i wr => WRel w s o l i wr) (fun _ i _ => s.length - (intOf i).toNat)
    case atStart => exact hR
    case round =>
      obtain ⟨k, hk, rfl, hown, hb⟩ := hrel
      clear hR
      have hwl := withs_le (s.take k) o
      rw [List.length_take] at hwl
      by_cases hlt : k < s.length
      · obtain ⟨e, he⟩ : ∃ e, s[k]? = some e := ⟨s[k], List.getElem?_eq_getElem hlt⟩
        obtain ⟨x, ord⟩ := e
        obtain ⟨g, of, rfl, c0, c1, hgl⟩ := HC.out k _ he
        replace c0 := (hb.cell (p := ⟨g, of + k * 2, none⟩) hgl).trans c0
        replace c1 := (hb.cell (p := ⟨g, of + k * 2 + 1, none⟩) hgl).trans c1
        have hbs := hb.size
        have HE := Lib.hid he
        clear he
        by_cases ho : ord = o
        · have HN := Lib.hid (fun w1 l' h1 h2 => wrel_next (w1 := w1) (l' := l') HE.out ho hlt hb hown h1 h2)
          subst ho
          go_wp2_with (at_builtin; refine wpList_append_own_at _ rfl _ _ 31 rfl w.heap.size 9 i0 _ 1 16 Try.underlying31 hi0 hz0 hz1 hz2 rfl (by decide) _ _ _ rfl (hown.alloc _) ⟨wr.heap.size, 0, none⟩ 1 1 [.string x] rfl rfl (cell_one_new _ _ _) (by simp [Value.oneCell']) (by unfold maxLen; omega) (by omega) (by simp; omega) ?_; intro v' w1 hown' hgrow _ _; have HE2 := Lib.hid (HN.out w1 v' hown' hgrow); clear hown' hgrow)
          go_roundw
          case rel => exact HE2.out
          case measure => simp [intOf]; omega
        · have HN := Lib.hid (wrel_skip HE.out ho hlt hb hown)
          have ko : (ord.toList == o.toList) = false := (Lib.bytes_beq_false_iff ord o).2 ho
          clear ho
          go_wp2
          go_roundw
          case rel => exact HN.out
          case measure => simp [intOf]; omega
      · have hk2 : k = s.length := by omega
        subst hk2
        rw [List.take_length] at hown
        clear hwl
        go_wp2
        go_ret
        exact ⟨_, rfl, hown, hb⟩

end Go.Proofs.Ytholaaojcpifnaa
