/-
  A sorter that the law made, in one word; its methods in that word; the walk of awake.
-/
import Derived.Test.YteokognbnilkmaaPut
namespace Go.Proofs.Yteokognbnilkmaa
open Go.RowKit

instance decBin : DecidableEq Bin := fun a b => decidable_of_iff (a.key = b.key ∧ a.items = b.items) ⟨fun ⟨h1, h2⟩ => by cases a; cases b; simp_all, fun h => by subst h; exact ⟨rfl, rfl⟩⟩

/-- The slice at A reads as these strings. -/
def RS (w : World) (A : Option Addr) (n : Nat) (xs : List Bs) : Prop :=
  xs.length = n ∧ n ≤ 9223372036854775807 ∧ ∀ k x, xs[k]? = some x → ∃ g o, A = some ⟨g, o, none⟩ ∧ w.cell? ⟨g, o + k, none⟩ = some (.string x) ∧ g < w.heap.size
/-- The block of a slice's address. -/
def InA (A : Option Addr) (i : Nat) : Prop := ∃ o, A = some ⟨i, o, none⟩

theorem RS.of_own {w : World} {base n : Nat} {xs : List Bs} {v : Value} (h : w.ownsRow base 9 1 v n (cellsS xs)) (hn : xs.length = n) : ∃ A cap, v = .slice A n cap ∧ RS w A n xs ∧ ∀ i, InA A i → v.ownBlock = some i := by
  obtain ⟨A, cap, hv, h1, h2⟩ := row_form h
  refine ⟨A, cap, hv, ⟨hn, h1, fun k x hx => ?_⟩, fun i ⟨o, e⟩ => ?_⟩
  · obtain ⟨gi, e1, e2, _, e3⟩ := h2 k _ (cellsS_get hx)
    exact ⟨gi, 0, e1, by simpa using e2, e3⟩
  · rcases h.2 with ⟨h3, _⟩ | ⟨g', c', cur, h3, _⟩
    · rw [hv] at h3
      cases h3
      cases e
    · rw [h3]
      rw [hv] at h3
      cases h3
      cases e
      rfl
theorem RS.fr {w w' : World} {A : Option Addr} {n : Nat} {xs : List Bs} {S : Nat → Prop} (h : RS w A n xs) (hs : Fr S w w') (hn : ∀ i, InA A i → ¬ S i) : RS w' A n xs := by
  obtain ⟨h1, h2, h3⟩ := h
  refine ⟨h1, h2, fun k x hx => ?_⟩
  obtain ⟨g, o, e1, e2, e3⟩ := h3 k x hx
  exact ⟨g, o, e1, cell_fr hs (hn g ⟨o, e1⟩) e2, Nat.lt_of_lt_of_le e3 hs.size⟩
theorem RS.same {w w' : World} {A : Option Addr} {n : Nat} {xs : List Bs} (h : RS w A n xs) (hs : Same w w') : RS w' A n xs := h.fr hs (fun _ _ x => x)
theorem RS.nil (w : World) (A : Option Addr) : RS w A 0 [] := ⟨rfl, by omega, fun k x hx => by simp at hx⟩
theorem RS.reads {w : World} {A : Option Addr} {n : Nat} {xs : List Bs} (h : RS w A n xs) : Reads w w.heap.size 1 A n (cellsS xs) := by
  obtain ⟨h1, _, h3⟩ := h
  refine ⟨by simp [cellsS, h1], fun hn => ?_⟩
  have hl : 0 < xs.length := by omega
  obtain ⟨g, o, rfl, _, hlt⟩ := h3 0 xs[0] (List.getElem?_eq_getElem hl)
  refine ⟨_, rfl, hlt, fun j u hu => ?_⟩
  simp only [cellsS, List.getElem?_map, Option.map_eq_some_iff] at hu
  obtain ⟨x, hx, rfl⟩ := hu
  obtain ⟨g', o', e, hc, _⟩ := h3 j x hx
  cases e
  rw [addr_add]
  exact hc

/-- A sorter that the law made: w0: the world in which the law began; K: blocks that the law keeps besides. -/
structure SB (w0 : World) (K : Nat → Prop) (w : World) (g b c : Nat) (bs : Bins) : Prop where
  ex : ∃ ls, IsSo w g b ls c ∧ ls.map Cl.bin = bs ∧ ∀ i, Own g b ls i → w0.heap.size ≤ i ∧ ¬ K i
  bel : Below w0.heap.size w0 w
  kl : ∀ i, K i → i < w.heap.size

section
variable {w0 w w' : World} {K : Nat → Prop} {g b c : Nat} {bs bs' : Bins}
theorem SB.ok (h : SB w0 K w g b c bs) : BOk c bs := by obtain ⟨ls, hv, rfl, _⟩ := h.ex; exact hv.ok
theorem SB.mono {K' : Nat → Prop} (h : SB w0 K w g b c bs) (hk : ∀ i, K' i → K i) : SB w0 K' w g b c bs := by
  obtain ⟨ls, hv, hb, ho⟩ := h.ex
  exact ⟨⟨ls, hv, hb, fun i hi => ⟨(ho i hi).1, fun x => (ho i hi).2 (hk i x)⟩⟩, h.bel, fun i hi => h.kl i (hk i hi)⟩
theorem SB.growK {S : Nat → Prop} (h : SB w0 K w g b c bs) (hf : Fr S w w') (hS : ∀ i, S i → K i ∧ w0.heap.size ≤ i) : SB w0 (fun i => K i ∨ (w.heap.size ≤ i ∧ i < w'.heap.size)) w' g b c bs := by
  obtain ⟨ls, hv, hb, ho⟩ := h.ex
  refine ⟨⟨ls, hv.fr hf (fun i hi hs => (ho i hi).2 (hS i hs).1), hb, fun i hi => ⟨(ho i hi).1, fun x => ?_⟩⟩, h.bel.trans (hf.below h.bel.size (fun i _ hs => (hS i hs).2)), fun i hi => ?_⟩
  · rcases x with x | x
    · exact (ho i hi).2 x
    · have := hv.lt i hi
      omega
  · rcases hi with x | x
    · exact Nat.lt_of_lt_of_le (h.kl i x) hf.size
    · exact x.2
theorem SB.grow (h : SB w0 K w g b c bs) (hs : Same w w') : SB w0 (fun i => K i ∨ (w.heap.size ≤ i ∧ i < w'.heap.size)) w' g b c bs := h.growK hs (fun _ x => x.elim)
theorem SB.same (h : SB w0 K w g b c bs) (hs : Same w w') : SB w0 K w' g b c bs := (h.grow hs).mono fun _ hi => .inl hi
theorem SB.base (h : SB w K w' g b c bs) (hb : Below w0.heap.size w0 w) : SB w0 K w' g b c bs := by
  obtain ⟨ls, hv, hbs, ho⟩ := h.ex
  exact ⟨⟨ls, hv, hbs, fun i hi => ⟨Nat.le_trans hb.size (ho i hi).1, (ho i hi).2⟩⟩, hb.trans (h.bel.mono hb.size), h.kl⟩
theorem RS.keep {A : Option Addr} {n : Nat} {xs : List Bs} (h : RS w A n xs) (hf : Fr (fun i => ¬ K i) w w') (hk : ∀ i, InA A i → K i) : RS w' A n xs := h.fr hf (fun i hi hn => hn (hk i hi))

theorem new_sb (n m : Nat) (w : World) (h1 : 1 ≤ n) (h2 : n ≤ 16) (h3 : 1 ≤ m) (h4 : m ≤ 32) : Calls Try.prog 11 #[.int .i64 n, .int .i64 m] w fun e w' =>
    e = .returned (.tuple #[.pointer (some ⟨w.heap.size + 1, 0, none⟩), .int .i64 0]) ∧ SB w (fun _ => False) w' (w.heap.size + 1) w.heap.size m (List.replicate n emp) := by
  refine (new_any n m w h1 h2 h3 h4).mono ?_
  rintro e w' ⟨he, ls, hS, hb, ho, hbel⟩
  exact ⟨he, ⟨⟨ls, hS, hb, fun i hi => ⟨ho i hi, fun x => x⟩⟩, hbel, fun _ x => x.elim⟩⟩
theorem put_sb {k x : Bs} (h : SB w0 K w g b c bs) : Calls Try.prog 12 #[.pointer (some ⟨g, 0, none⟩), .string k, .string x] w fun e w' =>
    e = .returned (.tuple #[.int .i64 ((sPut c bs k x).2.1 : Nat), .int .i64 (sPut c bs k x).2.2]) ∧ SB w0 K w' g b c (sPut c bs k x).1 ∧ Fr (fun i => ¬ K i) w w' := by
  obtain ⟨ls, hv, rfl, ho⟩ := h.ex
  refine (put_any g b c ls k x w hv).mono ?_
  rintro e w' ⟨he, ls', hS, hb, hf, hat⟩
  have hz := hf.size
  refine ⟨he, ⟨⟨ls', hS, hb, fun i hi => ?_⟩, h.bel.trans (hf.below h.bel.size (fun i _ hi => (ho i hi).1)), fun i hi => Nat.lt_of_lt_of_le (h.kl i hi) hz⟩, hf.mono fun i _ hi => (ho i hi).2⟩
  rcases hat i hi with e | e
  · exact ho i e
  · have := h.bel.size
    exact ⟨by omega, fun x => by have := h.kl i x; omega⟩
theorem take_sb {i : Int} (h : SB w0 K w g b c bs) : Calls Try.prog 13 #[.pointer (some ⟨g, 0, none⟩), .int .i64 i] w fun e w' =>
    ∃ A cap, e = .returned (.tuple #[.string (sTake bs i).2.1, .slice A (sTake bs i).2.2.1.length cap, .int .i64 (sTake bs i).2.2.2]) ∧ RS w' A (sTake bs i).2.2.1.length (sTake bs i).2.2.1 ∧ Fr (fun i => ¬ K i) w w' ∧
      SB w0 (fun i => K i ∨ InA A i) w' g b c (sTake bs i).1 ∧ ∀ i, InA A i → ¬ K i := by
  obtain ⟨ls, hv, rfl, ho⟩ := h.ex
  refine (take_any g b c ls i w hv).mono ?_
  rintro e w' ⟨v, ls', he, hown, hS, hb, hf, hat, hout⟩
  obtain ⟨A, cap, hl, hrs, hin⟩ := RS.of_own hown rfl
  subst hl
  have hz := hf.size
  refine ⟨A, cap, he, hrs, hf.mono fun i _ hi => (ho i hi).2, ⟨⟨ls', hS, hb, fun i hi => ?_⟩, h.bel.trans (hf.below h.bel.size (fun i _ hi => (ho i hi).1)), fun i hi => ?_⟩, fun i hi => (ho i (hout i (hin i hi)).1).2⟩
  · have h2 : ¬ InA A i := fun x => (hout i (hin i x)).2 hi
    rcases hat i hi with e | e
    · exact ⟨(ho i e).1, fun x => x.elim (ho i e).2 h2⟩
    · have := h.bel.size
      exact ⟨by omega, fun x => x.elim (fun y => by have := h.kl i y; omega) h2⟩
  · rcases hi with x | x
    · exact Nat.lt_of_lt_of_le (h.kl i x) hz
    · exact (own_lt hown (hin i x)).2
theorem len_sb (h : SB w0 K w g b c bs) : Calls Try.prog 14 #[.pointer (some ⟨g, 0, none⟩)] w fun e w' => e = .returned (.int .i64 (tot bs : Nat)) ∧ SB w0 K w' g b c bs ∧ Same w w' := by
  obtain ⟨ls, hv, rfl, ho⟩ := h.ex
  exact (len_any g b c ls w hv).mono fun e w' ⟨he, hs⟩ => ⟨he, h.same hs, hs⟩
theorem fullest_sb (h : SB w0 K w g b c bs) : Calls Try.prog 17 #[.pointer (some ⟨g, 0, none⟩)] w fun e w' => e = .returned (mostV bs) ∧ SB w0 K w' g b c bs ∧ Same w w' := by
  obtain ⟨ls, hv, rfl, ho⟩ := h.ex
  exact (fullest_any g b c ls w hv).mono fun e w' ⟨he, hs⟩ => ⟨he, h.same hs, hs⟩
theorem full_sb (h : SB w0 K w g b c bs) : Calls Try.prog 16 #[.pointer (some ⟨g, 0, none⟩)] w fun e w' => e = .returned (.tuple #[.int .i64 ((fnd (pFull c) bs).getD 0 : Nat), .bool (fnd (pFull c) bs).isSome]) ∧ SB w0 K w' g b c bs ∧ Same w w' := by
  obtain ⟨ls, hv, rfl, ho⟩ := h.ex
  exact (full_any g b c ls w hv).mono fun e w' hq => ⟨hq.1, h.same hq.still.2, hq.still.2⟩

/-! ### The same, where the model's answer is known -/
theorem put_to {k x : Bs} {i : Nat} {e : Int} (h : SB w0 K w g b c bs) (he : sPut c bs k x = (bs', i, e)) : Calls Try.prog 12 #[.pointer (some ⟨g, 0, none⟩), .string k, .string x] w fun r w' =>
    r = .returned (.tuple #[.int .i64 (i : Nat), .int .i64 e]) ∧ SB w0 K w' g b c bs' ∧ Fr (fun i => ¬ K i) w w' := by
  have := put_sb (k := k) (x := x) h
  rwa [he] at this
theorem take_to {i : Int} {k : Bs} {xs : List Bs} {e : Int} (h : SB w0 K w g b c bs) (he : sTake bs i = (bs', k, xs, e)) : Calls Try.prog 13 #[.pointer (some ⟨g, 0, none⟩), .int .i64 i] w fun r w' =>
    ∃ A cap, r = .returned (.tuple #[.string k, .slice A xs.length cap, .int .i64 e]) ∧ RS w' A xs.length xs ∧ Fr (fun i => ¬ K i) w w' ∧ SB w0 (fun i => K i ∨ InA A i) w' g b c bs' ∧ ∀ i, InA A i → ¬ K i := by
  have := take_sb (i := i) h
  rwa [he] at this
theorem len_to {n : Nat} (h : SB w0 K w g b c bs) (he : tot bs = n) : Calls Try.prog 14 #[.pointer (some ⟨g, 0, none⟩)] w fun e w' => e = .returned (.int .i64 (n : Nat)) ∧ SB w0 K w' g b c bs ∧ Same w w' := by
  have := len_sb h
  rwa [he] at this
theorem full_to {o : Option Nat} (h : SB w0 K w g b c bs) (he : fnd (pFull c) bs = o) : Calls Try.prog 16 #[.pointer (some ⟨g, 0, none⟩)] w fun e w' => e = .returned (.tuple #[.int .i64 (o.getD 0 : Nat), .bool o.isSome]) ∧ SB w0 K w' g b c bs ∧ Same w w' := by
  have := full_sb h
  rwa [he] at this
theorem fullest_to {i n : Nat} {f : Bool} (h : SB w0 K w g b c bs) (he : most bs = (i, n)) (hf : decide (0 < n) = f) : Calls Try.prog 17 #[.pointer (some ⟨g, 0, none⟩)] w fun e w' => e = .returned (.tuple #[.int .i64 (i : Nat), .bool f]) ∧ SB w0 K w' g b c bs ∧ Same w w' := by
  have := fullest_sb h
  unfold mostV at this
  rwa [he, hf] at this
end

abbrev sX : Bs := ⟨#[120]⟩
abbrev sY : Bs := ⟨#[121]⟩
abbrev sA : Bs := ⟨#[97]⟩
abbrev sB : Bs := ⟨#[98]⟩
abbrev sC : Bs := ⟨#[99]⟩
abbrev sD : Bs := ⟨#[100]⟩

set_option maxRecDepth 100000 in
set_option maxHeartbeats 4000000 in
theorem awake_any (w : World) : Calls Try.prog 10 #[] w fun e w' => e = .returned (.bool true) ∧ Below w.heap.size w w' := by
  go_enter Try.func10, Try.ntmps10
  go_wp2_with fail
  refine (new_sb 2 2 w (by omega) (by omega) (by omega) (by omega)).mono ?_
  rintro e w1 ⟨rfl, h1⟩
  go_wp2_with fail
  refine (put_to (k := sX) (x := sA) (bs' := [⟨sX, [sA]⟩, emp]) (i := 0) (e := 0) h1 (by decide +kernel)).mono ?_
  rintro e w2 ⟨rfl, h2, _⟩
  clear h1
  go_wp2_with fail
  refine (put_to (k := sX) (x := sB) (bs' := [⟨sX, [sA, sB]⟩, emp]) (i := 0) (e := 0) h2 (by decide +kernel)).mono ?_
  rintro e w3 ⟨rfl, h3, _⟩
  clear h2
  go_wp2_with fail
  refine (put_to (k := sX) (x := sC) (bs' := [⟨sX, [sA, sB]⟩, ⟨sX, [sC]⟩]) (i := 1) (e := 0) h3 (by decide +kernel)).mono ?_
  rintro e w4 ⟨rfl, h4, _⟩
  clear h3
  go_wp2_with fail
  refine (put_to (k := sY) (x := sD) (bs' := [⟨sX, [sA, sB]⟩, ⟨sX, [sC]⟩]) (i := 0) (e := 12) h4 (by decide +kernel)).mono ?_
  rintro e w5 ⟨rfl, h5, _⟩
  clear h4
  go_wp2_with fail
  refine (put_to (k := sY) (x := sA) (bs' := [⟨sX, [sA, sB]⟩, ⟨sX, [sC]⟩]) (i := 0) (e := 7) h5 (by decide +kernel)).mono ?_
  rintro e w6 ⟨rfl, h6, _⟩
  clear h5
  go_wp2_with fail
  refine (full_to (o := some 0) h6 (by decide +kernel)).mono ?_
  rintro e w7 ⟨rfl, h7, _⟩
  clear h6
  go_wp2_with fail
  refine (take_to (i := 0) (bs' := [emp, ⟨sX, [sC]⟩]) (k := sX) (xs := [sA, sB]) (e := 0) h7 (by decide +kernel)).mono ?_
  rintro e w8 ⟨A8, c8, rfl, r8, _, h8, _⟩
  clear h7
  go_wp2_with fail
  refine (take_to (i := 0) (bs' := [emp, ⟨sX, [sC]⟩]) (k := nul) (xs := []) (e := 18) h8 (by decide +kernel)).mono ?_
  rintro e w9 ⟨A9, c9, rfl, _, f9, h9, _⟩
  replace r8 := r8.keep f9 (fun i hi => .inr hi)
  clear h8 f9
  go_wp2_with fail
  refine (take_to (i := 2) (bs' := [emp, ⟨sX, [sC]⟩]) (k := nul) (xs := []) (e := 9) h9 (by decide +kernel)).mono ?_
  rintro e w10 ⟨A10, c10, rfl, _, f10, h10, _⟩
  replace r8 := r8.keep f10 (fun i hi => .inl (.inr hi))
  clear h9 f10
  go_wp2_with fail
  refine (put_to (k := sY) (x := sD) (bs' := [⟨sY, [sD]⟩, ⟨sX, [sC]⟩]) (i := 0) (e := 0) h10 (by decide +kernel)).mono ?_
  rintro e w11 ⟨rfl, h11, f11⟩
  replace r8 := r8.keep f11 (fun i hi => .inl (.inl (.inr hi)))
  clear h10 f11
  obtain ⟨g8, o8, rfl, k0, _⟩ := r8.2.2 0 sA rfl
  obtain ⟨g8', o8', e8, k1, _⟩ := r8.2.2 1 sB rfl
  cases e8
  simp only [Nat.add_zero] at k0
  clear r8
  go_wp2_with fail
  refine (len_to (n := 2) h11 (by decide +kernel)).mono ?_
  rintro e w12 ⟨rfl, h12, _⟩
  go_wp2
  go_ret
  exact ⟨rfl, h12.bel⟩

end Go.Proofs.Yteokognbnilkmaa
