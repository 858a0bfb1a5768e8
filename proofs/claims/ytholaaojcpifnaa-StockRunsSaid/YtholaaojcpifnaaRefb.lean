/-
  The walks of the reference: Add, Reserve.
-/
import Derived.Test.YtholaaojcpifnaaRefa
namespace Go.Proofs.Ytholaaojcpifnaa
open Go.RowKit

def cells2 (s : Stk) : List Value := s.flatMap fun e => [.string e.1, .string e.2]
theorem cells2_len : ∀ s : Stk, (cells2 s).length = s.length * 2
  | [] => rfl
  | e :: s => by
    have := cells2_len s
    unfold cells2 at this ⊢
    rw [List.flatMap_cons, List.length_append, this, List.length_cons]
    simp
    omega
theorem cells2_get : ∀ (s : Stk) (k : Nat) (e : Bs × Bs), s[k]? = some e → (cells2 s)[k * 2]? = some (.string e.1) ∧ (cells2 s)[k * 2 + 1]? = some (.string e.2)
  | [], _, _, h => by simp at h
  | a :: s, 0, e, h => by
    simp at h
    subst h
    simp [cells2]
  | a :: s, k + 1, e, h => by
    have := cells2_get s k e (by simpa using h)
    unfold cells2 at this ⊢
    rw [List.flatMap_cons]
    have e1 : (k + 1) * 2 = k * 2 + 2 := by omega
    have e2 : (k + 1) * 2 + 1 = (k * 2 + 1) + 2 := by omega
    rw [e2, e1]
    simpa using this
theorem cells2_at {s : Stk} {j : Nat} {u : Value} (h : (cells2 s)[j]? = some u) : ∃ k e, s[k]? = some e ∧ ((j = k * 2 ∧ u = .string e.1) ∨ (j = k * 2 + 1 ∧ u = .string e.2)) := by
  have hl := (List.getElem?_eq_some_iff.1 h).1
  rw [cells2_len] at hl
  have hk : j / 2 < s.length := by omega
  refine ⟨j / 2, s[j / 2], List.getElem?_eq_getElem hk, ?_⟩
  obtain ⟨h1, h2⟩ := cells2_get s (j / 2) _ (List.getElem?_eq_getElem hk)
  rcases Nat.mod_two_eq_zero_or_one j with h0 | h0
  · have e : j / 2 * 2 = j := by omega
    rw [e, h] at h1
    exact .inl ⟨e.symm, Option.some.inj h1⟩
  · have e : j / 2 * 2 + 1 = j := by omega
    rw [e, h] at h2
    exact .inr ⟨e.symm, Option.some.inj h2⟩
theorem cells2_one (s : Stk) : ∀ u ∈ cells2 s, u.oneCell' = true := by
  intro u hu
  obtain ⟨e, _, he⟩ := List.mem_flatMap.1 hu
  simp at he
  rcases he with rfl | rfl <;> rfl
theorem cells2_app (s t : Stk) : cells2 (s ++ t) = cells2 s ++ cells2 t := by simp [cells2]

theorem addr_add (g o j : Nat) : (⟨g, o, none⟩ : Addr).add j = ⟨g, o + j, none⟩ := by
  by_cases h : j = 0
  · subst h; simp [Addr.add]
  · simp [Addr.add, h]
theorem RE.reads {w : World} {A : Option Addr} {n : Nat} {s : Stk} (h : RE w A n s) : Reads w w.heap.size 2 A n (cells2 s) := by
  obtain ⟨h1, _, h3⟩ := h
  refine ⟨by rw [cells2_len, h1], fun hn => ?_⟩
  have hl : 0 < s.length := by omega
  obtain ⟨g, o, rfl, _, _, hlt⟩ := h3 0 s[0] (List.getElem?_eq_getElem hl)
  refine ⟨_, rfl, hlt, fun j u hu => ?_⟩
  obtain ⟨k, e, he, hj⟩ := cells2_at hu
  obtain ⟨g', o', e', c0, c1, _⟩ := h3 k e he
  cases e'
  rw [addr_add]
  rcases hj with ⟨rfl, rfl⟩ | ⟨rfl, rfl⟩
  · exact c0
  · exact c1
theorem own_re {w : World} {base n : Nat} {v : Value} {s : Stk} (h : w.ownsRow base 65 2 v n (cells2 s)) (hl : s.length = n) (hn : n ≤ 512) :
    ∃ A cap, v = .slice A n cap ∧ RE w A n s ∧ ∀ g o, A = some ⟨g, o, none⟩ → base ≤ g := by
  rcases Nat.eq_zero_or_pos n with h0 | h0
  · subst h0
    have : s = [] := List.eq_nil_of_length_eq_zero hl
    subst this
    rcases h.2 with ⟨rfl, _⟩ | ⟨g, cap, cur, rfl, hb, _⟩
    · exact ⟨none, 0, rfl, ⟨rfl, hn, fun k e he => by simp at he⟩, fun g o e => by cases e⟩
    · exact ⟨_, cap, rfl, ⟨rfl, hn, fun k e he => by simp at he⟩, fun g o e => by cases e; exact hb⟩
  · obtain ⟨g, cap, hv, hb, hlt⟩ := h.form h0
    subst hv
    refine ⟨_, cap, rfl, ⟨hl, hn, fun k e he => ?_⟩, fun g o e => by cases e; exact hb⟩
    obtain ⟨c0, c1⟩ := cells2_get s k e he
    have d0 := h.cells (g := g) rfl _ _ c0
    have d1 := h.cells (g := g) rfl _ _ c1
    rw [addr_add] at d0 d1
    exact ⟨g, 0, rfl, d0, d1, hlt⟩
theorem own_empty2 (w : World) : (w.alloc (.cells #[] 65)).ownsRow w.heap.size 65 2 (.slice (some ⟨w.heap.size, 0, none⟩) 0 0) 0 [] :=
  World.ownsRow_lit w #[] 0 (Nat.le_refl _) (Nat.zero_le _) rfl
theorem reads_lit2 (w : World) (a b : Value) : Reads (w.alloc (.cells #[a, b] 65)) (w.heap.size + 1) 2 (some ⟨w.heap.size, 0, none⟩) 1 [a, b] := by
  refine ⟨rfl, fun _ => ⟨_, rfl, Nat.lt_succ_self _, fun j u hu => ?_⟩⟩
  have hj : j < 2 := by simpa using (List.getElem?_eq_some_iff.1 hu).1
  rw [addr_add]
  match j, hj with
  | 0, _ => simp at hu; subst hu; simp
  | 1, _ => simp at hu; subst hu; simp
theorem own_base2 {w : World} {base n g : Nat} {e : TypeId} {v : Value} {xs : List Value} (h : w.ownsRow base e 2 v n xs) (hg : v.ownBlock = some g) : base ≤ g := by
  obtain ⟨_, ⟨rfl, _⟩ | ⟨g', cap, cur, rfl, hb, _⟩⟩ := h
  · cases hg
  · simp only [Value.ownBlock, Option.some.injEq] at hg
    omega
theorem RE.set {w : World} {g o n k : Nat} {s : Stk} {e : Bs × Bs} {y : Bs} (h : RE w (some ⟨g, o, none⟩) n s) (he : s[k]? = some e) :
    RE (w.setCell ⟨g, o + k * 2 + 1, none⟩ (.string y)) (some ⟨g, o, none⟩) n (s.set k (e.1, y)) := by
  obtain ⟨h1, h2, h3⟩ := h
  have hk := (List.getElem?_eq_some_iff.1 he).1
  refine ⟨by simpa using h1, h2, fun j e' he' => ?_⟩
  have hj : j < s.length := by
    have := (List.getElem?_eq_some_iff.1 he').1
    simpa using this
  obtain ⟨g', o', e1, c0, c1, hlt⟩ := h3 j s[j] (List.getElem?_eq_getElem hj)
  cases e1
  refine ⟨g, o, rfl, ?_, ?_, by simpa using hlt⟩
  · rw [World.cell?_setCell_other _ _ _ _ (by intro e; have := congrArg Addr.off e; simp at this; omega), c0]
    rw [List.getElem?_set] at he'
    split at he'
    · rename_i hjk
      subst hjk
      cases he'
      have := (List.getElem?_eq_some_iff.1 he).2
      rw [this]
    · rw [List.getElem?_eq_getElem hj] at he'
      cases he'
      rfl
  · rw [List.getElem?_set] at he'
    split at he'
    · rename_i hjk
      subst hjk
      cases he'
      exact World.cell?_setCell_same _ _ _ c1
    · rename_i hjk
      rw [World.cell?_setCell_other _ _ _ _ (by intro e; have := congrArg Addr.off e; simp at this; omega), c1]
      rw [List.getElem?_eq_getElem hj] at he'
      cases he'
      rfl
theorem setO_set : ∀ (s : Stk) (k : Nat) (x o p : Bs), (s.map (·.1)).Nodup → s[k]? = some (x, p) → setO s x o = s.set k (x, o)
  | [], _, _, _, _, _, h => by simp at h
  | e :: s, 0, x, o, p, hn, h => by
    simp at h
    subst h
    simp only [List.map_cons, List.nodup_cons] at hn
    rw [setO_cons, setO_not_mem s x o hn.1]
    simp
  | e :: s, k + 1, x, o, p, hn, h => by
    simp only [List.map_cons, List.nodup_cons] at hn
    have h' : s[k]? = some (x, p) := by simpa using h
    rw [setO_cons, setO_set s k x o p hn.2 h', if_neg ?_]
    · rfl
    · intro e'
      exact hn.1 (List.mem_map.2 ⟨_, List.mem_of_getElem? h', e'.symm⟩)

theorem info65 : (Try.prog.info? 65).map (fun i => (i.zero, i.size, i.bytes)) = some (some (.agg #[.string nul, .string nul]), 2, 32) := by kernel_rfl

/-- How a call of the reference ends that returns entries and a number. A0, n0: where the entries lay before, and how many. -/
def TupE (w : World) (A0 : Option Addr) (n0 : Nat) (s : Stk) (c : Int) (e : Ending) (w' : World) : Prop :=
  ∃ A cap, e = .returned (.tuple #[.slice A s.length cap, .int .i64 c]) ∧ RE w' A s.length s ∧ Same w w' ∧ ∀ i, InA A i → (InA A0 i ∧ s.length = n0) ∨ w.heap.size ≤ i

set_option maxRecDepth 100000 in
set_option maxHeartbeats 1000000 in
theorem addr_any (A : Option Addr) (cap : Nat) (s : Stk) (x : Bs) (w : World) (h : RE w A s.length s) : Calls Try.prog 26 #[.slice A s.length cap, .string x] w (TupE w A s.length (sAdd s x).1 (sAdd s x).2) := by
  obtain ⟨i0, hi0, hz0, hz1, hz2⟩ := info_parts info65
  have hle := h.2.1
  have hlen : (s.length : Int) ≤ 512 := by omega
  by_cases hx : x = nul
  · have kx := eq_of hx
    have e : sAdd s x = (s, 6) := by unfold sAdd; rw [if_pos hx]
    rw [e]
    clear e hx
    go_enter Try.func26, Try.ntmps26
    go_wp2
    refine bodyPost_ret (results_tmp2 rfl _ _ _) rfl ?_
    exact ⟨A, cap, rfl, h, Same.refl _, fun _ hi => .inl ⟨hi, rfl⟩⟩
  · have kx := ne_of hx
    by_cases hg : (getG s x).isSome
    · have e : sAdd s x = (s, 7) := by unfold sAdd; rw [if_neg hx, if_pos hg]
      rw [e]
      clear e hx
      go_enter Try.func26, Try.ntmps26
      go_wp2_with fail
      refine (at_any A _ cap s x w h).mono ?_
      rintro e w' ⟨i, rfl, rfl, hp⟩
      rcases hp with ⟨rfl, hg2⟩ | ⟨k, o, rfl, hk, hg2⟩
      · rw [hg2] at hg
        cases hg
      · clear hg hg2 hk
        go_wp2
        refine bodyPost_ret (results_tmp2 rfl _ _ _) rfl ?_
        exact ⟨A, cap, rfl, h, Same.refl _, fun _ hi => .inl ⟨hi, rfl⟩⟩
    · by_cases hf : 512 ≤ s.length
      · have e : sAdd s x = (s, 12) := by unfold sAdd; rw [if_neg hx, if_neg hg, if_pos hf]
        have hf2 : (512 : Int) ≤ (s.length : Int) := by omega
        rw [e]
        clear e hx
        go_enter Try.func26, Try.ntmps26
        go_wp2_with fail
        refine (at_any A _ cap s x w h).mono ?_
        rintro e w' ⟨i, rfl, rfl, hp⟩
        rcases hp with ⟨rfl, hg2⟩ | ⟨k, o, rfl, hk, hg2⟩
        · clear hg hg2
          go_wp2
          refine bodyPost_ret (results_tmp2 rfl _ _ _) rfl ?_
          exact ⟨A, cap, rfl, h, Same.refl _, fun _ hi => .inl ⟨hi, rfl⟩⟩
        · rw [hg2] at hg
          exact absurd rfl hg
      · have e : sAdd s x = (s ++ [(x, nul)], 0) := by unfold sAdd; rw [if_neg hx, if_neg hg, if_neg hf]
        have hf2 : (s.length : Int) < 512 := by omega
        rw [e]
        clear e hx
        go_enter Try.func26, Try.ntmps26
        go_wp2_with fail
        refine (at_any A _ cap s x w h).mono ?_
        rintro e w' ⟨i, rfl, rfl, hp⟩
        rcases hp with ⟨rfl, hg2⟩ | ⟨k, o, rfl, hk, hg2⟩
        · clear hg hg2
          have RD := Lib.hid h.reads
          clear h
          go_wp2_with (first
            | (at_builtin; refine wpList_append_any _ rfl _ _ 27 rfl w.heap.size 65 i0 _ 2 32 Try.underlying27 hi0 hz0 hz1 hz2 rfl (by decide) _ _ _ rfl (own1.out.alloc _) (w8.heap.size + 1) (some ⟨w8.heap.size, 0, none⟩) 1 1 [.string x, .string nul] rfl (reads_lit2 w8 _ _) (cells2_one [(x, nul)]) (by unfold maxLen; omega) (by omega) sz9.out ?_; intro v2 w9 own2 g2 b2; have S9 := Lib.hid (same_grown (S8.out.alloc _) g2 (fun g hg => own_base2 own1.out hg)); clear g2 b2)
            | (at_builtin; refine wpList_append_any _ rfl _ _ 27 rfl w.heap.size 65 i0 _ 2 32 Try.underlying27 hi0 hz0 hz1 hz2 rfl (by decide) _ 0 [] rfl (own_empty2 w) w.heap.size A s.length cap (cells2 s) rfl (RD.out.alloc (Nat.le_refl _) _) (cells2_one s) (by unfold maxLen; omega) (by omega) (by simp) ?_; intro v1 w8 own1 g1 b1; have S8 := Lib.hid (same_grown ((Same.refl w).alloc _) g1 (fun g hg => own_base2 (own_empty2 w) hg)); replace own1 := Lib.hid own1; have sz9 : Hid (w.heap.size ≤ (w8.alloc (.cells #[.string x, .string nul] 65)).heap.size) := (S8.out.alloc _).size; clear g1 b1))
          refine bodyPost_ret (results_tmp2 rfl _ _ _) rfl ?_
          have e1 : [] ++ cells2 s ++ [.string x, .string nul] = cells2 (s ++ [(x, nul)]) := by rw [cells2_app]; rfl
          have e2 : 0 + s.length + 1 = (s ++ [(x, nul)]).length := by simp
          rw [e1, e2] at own2
          obtain ⟨A9, c9, rfl, r9, hb9⟩ := own_re own2 rfl (by simp; omega)
          exact ⟨A9, c9, rfl, r9, S9.out, fun _ ⟨_, e⟩ => .inr (hb9 _ _ e)⟩
        · rw [hg2] at hg
          exact absurd rfl hg

end Go.Proofs.Ytholaaojcpifnaa
