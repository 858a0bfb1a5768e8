/-
  The walks of Same, and of awake.
-/
import Derived.Test.YtholaaojcpifnaaWalke
import Derived.Deep.QuietTactic
import Derived.BigQuiet
namespace Go.Proofs.Ytholaaojcpifnaa
open Go.RowKit

/-- The slice at A reads as these strings. -/
def RS (w : World) (A : Option Addr) (n : Nat) (xs : List Bs) : Prop :=
  xs.length = n ∧ n ≤ 9223372036854775807 ∧ ∀ k x, xs[k]? = some x → ∃ g o, A = some ⟨g, o, none⟩ ∧ w.cell? ⟨g, o + k, none⟩ = some (.string x) ∧ g < w.heap.size

theorem RS.of_own {w : World} {base n : Nat} {xs : List Bs} {v : Value} (h : w.ownsRow base 9 1 v n (cellsS xs)) (hn : xs.length = n) : ∃ A cap, v = .slice A n cap ∧ RS w A n xs := by
  obtain ⟨A, cap, hv, h1, h2⟩ := row_form h
  refine ⟨A, cap, hv, hn, h1, fun k x hx => ?_⟩
  obtain ⟨gi, e1, e2, _, e3⟩ := h2 k _ (cellsS_get hx)
  exact ⟨gi, 0, e1, by simpa using e2, e3⟩
theorem RS.same {w w' : World} {A : Option Addr} {n : Nat} {xs : List Bs} (h : RS w A n xs) (hs : Same w w') : RS w' A n xs := by
  obtain ⟨h1, h2, h3⟩ := h
  refine ⟨h1, h2, fun k x hx => ?_⟩
  obtain ⟨g, o, e1, e2, e3⟩ := h3 k x hx
  refine ⟨g, o, e1, ?_, Nat.lt_of_lt_of_le e3 hs.size⟩
  rw [← e2]
  unfold World.cell?
  rw [hs.block g e3 (fun x => x)]
theorem RS.nil (w : World) (A : Option Addr) : RS w A 0 [] := ⟨rfl, by omega, fun k x hx => by simp at hx⟩
theorem RS.fr {w w' : World} {A : Option Addr} {n : Nat} {xs : List Bs} {S : Nat → Prop} (h : RS w A n xs) (hs : Fr S w w') (hn : ∀ g o, A = some ⟨g, o, none⟩ → ¬ S g) : RS w' A n xs := by
  obtain ⟨h1, h2, h3⟩ := h
  refine ⟨h1, h2, fun k x hx => ?_⟩
  obtain ⟨g, o, e1, e2, e3⟩ := h3 k x hx
  refine ⟨g, o, e1, ?_, Nat.lt_of_lt_of_le e3 hs.size⟩
  rw [← e2]
  unfold World.cell?
  rw [hs.block g e3 (hn g o e1)]

/-- What holds at the head of each round. -/
def SRel (w : World) (n : Nat) (i : Value) (wr : World) : Prop := ∃ k : Nat, k ≤ n ∧ i = .int .i64 k ∧ ∃ m, wr = w.drewN m

set_option maxHeartbeats 1000000 in
theorem same_any (A B : Option Addr) (n cA cB : Nat) (xs : List Bs) (w : World) (ha : RS w A n xs) (hb : RS w B n xs) : Calls Try.prog 16 #[.slice A n cA, .slice B n cB] w fun e w' => e = .returned (.bool true) ∧ ∃ m, w' = w.drewN m := by
  have hn := ha.2.1
  have hR : SRel w n (.int .i64 0) w := ⟨0, by omega, rfl, 0, rfl⟩
  have HA := Lib.hid ha
  have HB := Lib.hid hb
  clear ha hb
  go_enter Try.func16, Try.ntmps16
  go_wp2
  go_loopw [5] (fun i wr => SRel w n i wr) (fun i _ => n - (intOf i).toNat)
  case atStart => exact hR
  case round =>
    obtain ⟨k, hk, rfl, m, rfl⟩ := hrel
    clear hR
    by_cases hlt : k < n
    · obtain ⟨x, hx⟩ : ∃ x, xs[k]? = some x := ⟨xs[k]'(by rw [HA.out.1]; exact hlt), List.getElem?_eq_getElem _⟩
      obtain ⟨g, o, rfl, ca, _⟩ := HA.out.2.2 k x hx
      obtain ⟨g', o', rfl, cb, _⟩ := HB.out.2.2 k x hx
      have i1 : (0 : Int) ≤ (k : Int) := by omega
      have i2 : (k : Int) < (n : Int) := by omega
      clear hx
      go_wp2
      go_quiet (fail)
      go_wp2
      go_roundw
      case rel => exact ⟨k + 1, by omega, by simp, _, rfl⟩
      case measure => simp [intOf]; omega
    · go_wp2
      go_ret
      exact ⟨rfl, m, rfl⟩

/-- The block of a slice's address. -/
def InA (A : Option Addr) (i : Nat) : Prop := ∃ o, A = some ⟨i, o, none⟩

/-- A stock that the law made: w0: the world in which the law began; K: blocks that the law keeps besides. -/
structure SB (w0 : World) (K : Nat → Prop) (w : World) (g r : Nat) (s : Stk) : Prop where
  ex : ∃ v, IsS w g r v s ∧ ∀ i, Own g r v i → w0.heap.size ≤ i ∧ ¬ K i
  bel : Below w0.heap.size w0 w
  kl : ∀ i, K i → i < w.heap.size

section
variable {w0 w w' : World} {K : Nat → Prop} {g r : Nat} {s : Stk}
theorem SB.ok (h : SB w0 K w g r s) : SOk s := by obtain ⟨v, hv, _⟩ := h.ex; exact hv.ok
theorem SB.mono {K' : Nat → Prop} (h : SB w0 K w g r s) (hk : ∀ i, K' i → K i) : SB w0 K' w g r s := by
  obtain ⟨v, hv, ho⟩ := h.ex
  exact ⟨⟨v, hv, fun i hi => ⟨(ho i hi).1, fun x => (ho i hi).2 (hk i x)⟩⟩, h.bel, fun i hi => h.kl i (hk i hi)⟩
theorem SB.same (h : SB w0 K w g r s) (hs : Same w w') : SB w0 K w' g r s := by
  obtain ⟨v, hv, ho⟩ := h.ex
  exact ⟨⟨v, hv.same hs, ho⟩, h.bel.trans (Fr.below hs h.bel.size (fun _ _ x => x.elim)), fun i hi => Nat.lt_of_lt_of_le (h.kl i hi) hs.size⟩
/-- New blocks may be kept. -/
theorem SB.keep (h : SB w0 K w g r s) (hs : Same w w') {A : Option Addr} (hA : ∀ i, InA A i → w.heap.size ≤ i ∧ i < w'.heap.size) : SB w0 (fun i => K i ∨ InA A i) w' g r s := by
  obtain ⟨v, hv, ho⟩ := h.ex
  have h' := h.same hs
  refine ⟨⟨v, hv.same hs, fun i hi => ⟨(ho i hi).1, fun x => ?_⟩⟩, h'.bel, fun i hi => ?_⟩
  · rcases x with x | x
    · exact (ho i hi).2 x
    · have := hv.lt i hi
      have := (hA i x).1
      omega
  · rcases hi with x | x
    · exact h'.kl i x
    · exact (hA i x).2
theorem SB.left (h : SB w0 K w g r s) {v : Value} (hv : IsS w g r v s) (ho : ∀ i, Own g r v i → w0.heap.size ≤ i ∧ ¬ K i) {x : Stk × Int} {e : Ending} (hl : LeftS g r v w x e w') :
    e = .returned (.int .i64 x.2) ∧ SB w0 K w' g r x.1 ∧ Fr (fun i => ¬ K i) w w' := by
  obtain ⟨he, v', hv', hf, hat⟩ := hl
  have hz := hf.size
  refine ⟨he, ⟨⟨v', hv', fun i hi => ?_⟩, h.bel.trans (hf.below h.bel.size (fun i _ hi => (ho i hi).1)), fun i hi => Nat.lt_of_lt_of_le (h.kl i hi) hz⟩, hf.mono fun i _ hi => (ho i hi).2⟩
  rcases hi with e | e | hi
  · exact ho i (.inl e)
  · exact ho i (.inr (.inl e))
  · rcases hat i hi with h1 | h1
    · exact ho i (.inr (.inr h1))
    · have := h.bel.size
      exact ⟨by omega, fun x => by have := h.kl i x; omega⟩
theorem add_sb {x : Bs} (h : SB w0 K w g r s) : Calls Try.prog 21 #[.pointer (some ⟨g, 0, none⟩), .string x] w fun e w' => e = .returned (.int .i64 (sAdd s x).2) ∧ SB w0 K w' g r (sAdd s x).1 ∧ Fr (fun i => ¬ K i) w w' := by
  obtain ⟨v, hv, ho⟩ := h.ex
  exact (add_any g r v s x w hv).mono fun _ _ hl => h.left hv ho hl
theorem reserve_sb {x o : Bs} (h : SB w0 K w g r s) : Calls Try.prog 22 #[.pointer (some ⟨g, 0, none⟩), .string x, .string o] w fun e w' => e = .returned (.int .i64 (sReserve s x o).2) ∧ SB w0 K w' g r (sReserve s x o).1 ∧ Fr (fun i => ¬ K i) w w' := by
  obtain ⟨v, hv, ho⟩ := h.ex
  exact (reserve_any g r v s x o w hv).mono fun _ _ hl => h.left hv ho hl
theorem release_sb {o : Bs} (h : SB w0 K w g r s) : Calls Try.prog 25 #[.pointer (some ⟨g, 0, none⟩), .string o] w fun e w' => e = .returned (.int .i64 (held s o).length) ∧ SB w0 K w' g r (sRelease s o) ∧ Fr (fun i => ¬ K i) w w' := by
  obtain ⟨v, hv, ho⟩ := h.ex
  exact (release_any g r v s o w hv).mono fun _ _ hl => h.left hv ho hl
theorem of_sb {x : Bs} (h : SB w0 K w g r s) : Calls Try.prog 14 #[.pointer (some ⟨g, 0, none⟩), .string x] w fun e w' => e = .returned (.tuple #[.string ((getG s x).getD nul), .bool (getG s x).isSome]) ∧ w = w' := by
  obtain ⟨v, hv, ho⟩ := h.ex
  exact of_any g r v s x w hv

/-- How a call ends that returns a new slice of strings, the stock as it was. -/
def RetB (w0 : World) (K : Nat → Prop) (g r : Nat) (s : Stk) (w : World) (xs : List Bs) (e : Ending) (w' : World) : Prop :=
  ∃ A cap, e = .returned (.slice A xs.length cap) ∧ RS w' A xs.length xs ∧ Same w w' ∧ SB w0 (fun i => K i ∨ InA A i) w' g r s
theorem SB.ret (h : SB w0 K w g r s) {xs : List Bs} {e : Ending} (hr : RetS w xs e w') : RetB w0 K g r s w xs e w' := by
  obtain ⟨l, he, hown, hb⟩ := hr
  obtain ⟨A, cap, hl, hrs⟩ := RS.of_own hown rfl
  subst hl
  refine ⟨A, cap, he, hrs, Same.of hb, h.keep (Same.of hb) fun i hi => ?_⟩
  obtain ⟨o, rfl⟩ := hi
  rcases hown.2 with ⟨h1, _⟩ | ⟨g', c', cur, h1, h2, h3, _⟩
  · cases h1
  · simp only [Value.slice.injEq, Option.some.injEq, Addr.mk.injEq] at h1
    obtain ⟨⟨h1, _⟩, _⟩ := h1
    subst h1
    refine ⟨h2, ?_⟩
    rcases Nat.lt_or_ge i w'.heap.size with hlt | hge
    · exact hlt
    · rw [Array.getElem?_eq_none hge] at h3; cases h3
theorem free_sb (h : SB w0 K w g r s) : Calls Try.prog 17 #[.pointer (some ⟨g, 0, none⟩)] w (RetB w0 K g r s w (withs s nul)) := by
  obtain ⟨v, hv, ho⟩ := h.ex
  exact (free_any g r v s w hv).mono fun _ _ hl => h.ret hl
theorem held_sb {o : Bs} (h : SB w0 K w g r s) : Calls Try.prog 19 #[.pointer (some ⟨g, 0, none⟩), .string o] w (RetB w0 K g r s w (held s o)) := by
  obtain ⟨v, hv, ho⟩ := h.ex
  exact (held_any g r v s o w hv).mono fun _ _ hl => h.ret hl
theorem remove_sb {o : Bs} (h : SB w0 K w g r s) : Calls Try.prog 23 #[.pointer (some ⟨g, 0, none⟩), .string o] w fun e w' =>
    ∃ A cap, e = .returned (.slice A (held s o).length cap) ∧ RS w' A (held s o).length (held s o) ∧ Fr (fun i => ¬ K i) w w' ∧ SB w0 (fun i => K i ∨ InA A i) w' g r (sRemove s o) := by
  obtain ⟨v, hv, ho⟩ := h.ex
  refine (remove_any g r v s o w hv).mono ?_
  rintro e w' ⟨l, v', he, hown, hv', hf, hat, hne⟩
  obtain ⟨A, cap, hl, hrs⟩ := RS.of_own hown rfl
  subst hl
  have hz := hf.size
  have hbs := h.bel.size
  have hin : ∀ i, InA A i → w.heap.size ≤ i ∧ i < w'.heap.size ∧ v'.ownBlock ≠ some i := by
    rintro i ⟨o', rfl⟩
    rcases hown.2 with ⟨h1, _⟩ | ⟨g', c', cur, h1, h2, h3, _⟩
    · cases h1
    · simp only [Value.slice.injEq, Option.some.injEq, Addr.mk.injEq] at h1
      obtain ⟨⟨h1, _⟩, _⟩ := h1
      subst h1
      refine ⟨h2, ?_, hne i rfl⟩
      rcases Nat.lt_or_ge i w'.heap.size with hlt | hge
      · exact hlt
      · rw [Array.getElem?_eq_none hge] at h3; cases h3
  refine ⟨A, cap, he, hrs, hf.mono fun i _ hi => (ho i hi).2, ⟨⟨v', hv', fun i hi => ?_⟩, h.bel.trans (hf.below hbs (fun i _ hi => (ho i hi).1)), fun i hi => ?_⟩⟩
  · have lg := hv.lt g (.inl rfl)
    have lr := hv.lt r (.inr (.inl rfl))
    rcases hi with e | e | hi
    · refine ⟨(ho i (.inl e)).1, fun x => x.elim (ho i (.inl e)).2 (fun y => ?_)⟩
      have := (hin i y).1
      omega
    · refine ⟨(ho i (.inr (.inl e))).1, fun x => x.elim (ho i (.inr (.inl e))).2 (fun y => ?_)⟩
      have := (hin i y).1
      omega
    · rcases hat i hi with h1 | h1
      · exact ⟨(ho i (.inr (.inr h1))).1, fun x => x.elim (ho i (.inr (.inr h1))).2 (fun y => (hin i y).2.2 hi)⟩
      · refine ⟨by omega, fun x => x.elim (fun y => ?_) (fun y => (hin i y).2.2 hi)⟩
        have := h.kl i y
        omega
  · rcases hi with x | x
    · have := h.kl i x
      omega
    · exact (hin i x).2.1
theorem new_sb (w : World) : Calls Try.prog 11 #[] w fun e w' => e = .returned (.pointer (some ⟨w.heap.size + 1, 0, none⟩)) ∧ SB w (fun _ => False) w' (w.heap.size + 1) w.heap.size [] := by
  refine (new_any w).mono ?_
  rintro e w' ⟨he, hS, hb⟩
  refine ⟨he, ⟨⟨_, hS, fun i hi => ⟨?_, fun x => x⟩⟩, hb, fun _ x => x.elim⟩⟩
  rcases hi with e | e | hi
  · omega
  · omega
  · simp [Value.ownBlock] at hi
theorem SB.base (h : SB w K w' g r s) (hb : Below w0.heap.size w0 w) : SB w0 K w' g r s := by
  obtain ⟨v, hv, ho⟩ := h.ex
  exact ⟨⟨v, hv, fun i hi => ⟨Nat.le_trans hb.size (ho i hi).1, (ho i hi).2⟩⟩, hb.trans (h.bel.mono hb.size), h.kl⟩
theorem RS.keep {A : Option Addr} {n : Nat} {xs : List Bs} (h : RS w A n xs) (hf : Fr (fun i => ¬ K i) w w') (hk : ∀ i, InA A i → K i) : RS w' A n xs :=
  h.fr hf (fun g o e hn => hn (hk g ⟨o, e⟩))
end

end Go.Proofs.Ytholaaojcpifnaa
