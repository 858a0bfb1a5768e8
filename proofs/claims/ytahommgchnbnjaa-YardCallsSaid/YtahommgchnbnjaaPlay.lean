/-
  The walks of play and starts.
-/
import Derived.Test.YtahommgchnbnjaaArgs
import Derived.Test.YtahommgchnbnjaaPlainc
namespace Go.Proofs.Ytahommgchnbnjaa
open Go.RowKit
attribute [local go_sem ↓] Go.wp_at_zero Go.wp_at_succ

def oldS (ys : Ys) : Bs := ((yOld ys).map Prod.fst).getD nul
/-- What one call does. -/
def stepP (c : Nat) (s : Ys × Nat) (x : OpD) : Ys × Nat :=
  if x.kind = 0 then ((yPut c s.1 s.2 x.bay x.item).1, (yPut c s.1 s.2 x.bay x.item).2.1)
  else if x.kind = 2 then ((yTake c s.1 (oldS s.1)).1, s.2)
  else ((yTake c s.1 x.item).1, s.2)
def playY (c n : Nat) (xs : List OpD) : Ys × Nat := xs.foldl (stepP c) (List.replicate n [], 0)
theorem take_inv {c p : Nat} {ys : Ys} {al : List Ent} (h : Inv ys p al) (x : Bs) : ∃ al', Inv (yTake c ys x).1 p al' := by
  rcases take_cases c ys x with ⟨_, e⟩ | ⟨_, _, _, e⟩ | ⟨i, m, es, e0, ys', ht⟩
  · rw [e]; exact ⟨al, h⟩
  · rw [e]; exact ⟨al, h⟩
  · rw [ht.e]; exact ⟨_, h.take ht.hx ht.perm⟩
theorem step_inv {c : Nat} {s : Ys × Nat} {al : List Ent} (h : Inv s.1 s.2 al) (x : OpD) : ∃ al', Inv (stepP c s x).1 (stepP c s x).2 al' := by
  unfold stepP
  split
  · rcases put_cases c s.1 s.2 x.bay x.item with ⟨e, _, hp⟩ | ⟨k, es, _, hes, hx, hf, _, hp⟩
    · rw [hp]; exact ⟨al, h⟩
    · rw [hp]; exact ⟨_, h.put hes hx hf⟩
  · split
    · exact take_inv h _
    · exact take_inv h _
theorem fold_inv (c : Nat) : ∀ (xs : List OpD) (s : Ys × Nat) (al : List Ent), Inv s.1 s.2 al → ∃ al', Inv (xs.foldl (stepP c) s).1 (xs.foldl (stepP c) s).2 al'
  | [], _, al, h => ⟨al, h⟩
  | x :: xs, s, al, h => by
    obtain ⟨al', h'⟩ := step_inv h x
    exact fold_inv c xs _ al' h'
theorem play_inv (c n : Nat) (xs : List OpD) : ∃ al, Inv (playY c n xs).1 (playY c n xs).2 al := fold_inv c xs _ [] (inv_new n)
theorem play_snoc {c n k : Nat} {xs : List OpD} {y : OpD} (h : xs[k]? = some y) : playY c n (xs.take (k + 1)) = stepP c (playY c n (xs.take k)) y := by
  unfold playY
  rw [List.take_add_one, h, List.foldl_append]
  rfl

theorem put_len (c : Nat) (ys : Ys) (p : Nat) (i : Int) (x : Bs) : (yPut c ys p i x).1.length = ys.length := by
  rcases put_cases c ys p i x with ⟨e, _, hp⟩ | ⟨k, es, _, _, _, _, _, hp⟩ <;> rw [hp] <;> simp
theorem take_len (c : Nat) (ys : Ys) (x : Bs) : (yTake c ys x).1.length = ys.length := by
  rcases take_cases c ys x with ⟨_, e⟩ | ⟨_, _, _, e⟩ | ⟨i, m, es, e0, ys', ht⟩
  · rw [e]
  · rw [e]
  · rw [ht.e]; exact ht.len
theorem step_len (c : Nat) (s : Ys × Nat) (x : OpD) : (stepP c s x).1.length = s.1.length := by
  unfold stepP
  split
  · exact put_len _ _ _ _ _
  · split
    · exact take_len _ _ _
    · exact take_len _ _ _
theorem fold_len (c : Nat) : ∀ (xs : List OpD) (s : Ys × Nat), (xs.foldl (stepP c) s).1.length = s.1.length
  | [], _ => rfl
  | x :: xs, s => (fold_len c xs _).trans (step_len c s x)
theorem play_len (c n : Nat) (xs : List OpD) : (playY c n xs).1.length = n := (fold_len c xs _).trans (by simp)

/-- How play ends. -/
def PlayE (w : World) (n c : Nat) (xs : List OpD) (e : Ending) (w' : World) : Prop :=
  e = .returned (.pointer (some ⟨w.heap.size + 1, 0, none⟩)) ∧ YB w (fun _ => False) w' (w.heap.size + 1) w.heap.size c (playY c n xs).2 (playY c n xs).1

theorem play_bad (n c : Int) (A : Option Addr) (len cap : Nat) (w : World) (h : NewBad n c) : Calls Try.prog 23 #[.int .i64 n, .int .i64 c, .slice A len cap] w fun e w' => e = .returned (.pointer none) ∧ w = w' := by
  go_enter Try.func23, Try.ntmps23
  go_wp2_with fail
  refine (new_bad n c _ h).mono ?_
  rintro e w' ⟨rfl, rfl⟩
  go_wp2
  go_ret
  exact ⟨rfl, rfl⟩

/-- What holds behind k calls. -/
structure PlR (w : World) (n c : Nat) (xs : List OpD) (k : Nat) (wr : World) : Prop where
  y : YB w (fun _ => False) wr (w.heap.size + 1) w.heap.size c (playY c n (xs.take k)).2 (playY c n (xs.take k)).1
  pk : (playY c n (xs.take k)).2 ≤ k
theorem PlR.next {w : World} {n c k : Nat} {xs : List OpD} {y : OpD} {wr : World} {ys : Ys} {p : Nat} (hy : xs[k]? = some y) (he : stepP c (playY c n (xs.take k)) y = (ys, p)) (hp : p ≤ k + 1) (h : YB w (fun _ => False) wr (w.heap.size + 1) w.heap.size c p ys) : PlR w n c xs (k + 1) wr := by
  rw [← play_snoc hy] at he
  exact ⟨by rw [he]; exact h, by rw [he]; exact hp⟩
theorem put_p (c : Nat) (ys : Ys) (p : Nat) (i : Int) (x : Bs) : (yPut c ys p i x).2.1 ≤ p + 1 := by
  rcases put_cases c ys p i x with ⟨e, _, hp⟩ | ⟨k, es, _, _, _, _, _, hp⟩ <;> rw [hp] <;> simp

set_option maxRecDepth 100000 in
set_option maxHeartbeats 2000000 in
theorem play_any (n c : Nat) (A : Option Addr) (len cap : Nat) (xs : List OpD) (w : World) (h1 : 1 ≤ n) (h2 : n ≤ 16) (h3 : 1 ≤ c) (h4 : c ≤ 32) (hx : IsOps w A len xs) (hlen : len ≤ 60) : Calls Try.prog 23 #[.int .i64 n, .int .i64 c, .slice A len cap] w (PlayE w n c xs) := by
  have HX := Lib.hid hx
  have hml := hx.2.1
  have hxl := hx.1
  clear hx
  go_enter Try.func23, Try.ntmps23
  go_wp2_with fail
  refine (new_yb n c _ h1 h2 h3 h4).mono ?_
  rintro e w2 ⟨rfl, hn2, hs2⟩
  have HR : Hid (PlR w n c xs 0 w2) := ⟨hn2, Nat.le_refl _⟩
  clear hn2 hs2
  go_wp2
  go_loopw [9] (fun i wr => ∃ k : Nat, k ≤ len ∧ i = .int .i64 k ∧ PlR w n c xs k wr) (fun i _ => len - (intOf i).toNat)
  case atStart => exact ⟨0, by omega, rfl, HR.out⟩
  case round =>
    obtain ⟨k, hk, rfl, hR⟩ := hrel
    clear HR
    by_cases hlt : k < len
    · obtain ⟨y, hy⟩ : ∃ y, xs[k]? = some y := ⟨xs[k]'(by omega), List.getElem?_eq_getElem _⟩
      obtain ⟨bb, o, rfl, hbl, c0, c1, c2, hwf⟩ := HX.out.2.2 k y hy
      have i1 : (0 : Int) ≤ (k : Int) := by omega
      have i2 : (k : Int) < (len : Int) := by omega
      have HC : Hid (∀ W, Below w.heap.size w W → W.cell? ⟨bb, o + k * 3 + 1, none⟩ = some (.int .i64 y.bay) ∧ W.cell? ⟨bb, o + k * 3 + 2, none⟩ = some (.string y.item)) := fun W hW => ⟨(hW.cell (p := ⟨bb, _, none⟩) hbl).trans c1, (hW.cell (p := ⟨bb, _, none⟩) hbl).trans c2⟩
      have d0 : wr.cell? ⟨bb, o + k * 3, none⟩ = some (.int .i64 y.kind) := (hR.y.bel.cell (p := ⟨bb, _, none⟩) hbl).trans c0
      obtain ⟨d1, d2⟩ := HC.out _ hR.y.bel
      obtain ⟨hY, hp⟩ := hR
      have HN := Lib.hid (fun ys p => PlR.next (w := w) (n := n) (c := c) (ys := ys) (p := p) (wr := wr) hy)
      have HNX : Hid (∀ (W : World) (ys : Ys) (p : Nat), stepP c (playY c n (xs.take k)) y = (ys, p) → p ≤ k + 1 → YB w (fun _ => False) W (w.heap.size + 1) w.heap.size c p ys → PlR w n c xs (k + 1) W) := fun W ys p e1 e2 e3 => PlR.next hy e1 e2 e3
      have hwb := hwf.2.1
      clear HN hy c0 c1 c2 hwf
      generalize playY c n (xs.take k) = s at hY hp HNX
      obtain ⟨ys, p⟩ := s
      simp only at hY hp
      by_cases hk0 : y.kind = 0
      · have t0 : (y.kind == 0) = true := by simp [hk0]
        have HNY : Hid (∀ W, YB w (fun _ => False) W (w.heap.size + 1) w.heap.size c (yPut c ys p y.bay y.item).2.1 (yPut c ys p y.bay y.item).1 → PlR w n c xs (k + 1) W) := fun W hW => HNX.out W _ _ (by unfold stepP; rw [if_pos hk0]) (Nat.le_trans (put_p _ _ _ _ _) (by omega)) hW
        have HP := Lib.hid (fun W (hW : YB w (fun _ => False) W (w.heap.size + 1) w.heap.size c p ys) => put_yb (x := y.item) hW (by omega) hwb)
        clear hk0 HNX
        go_upto_region 8 with fail
        go_region_held3 (fun W => W.cell? ⟨bb, o + k * 3 + 1, none⟩ = some (.int .i64 y.bay) ∧ W.cell? ⟨bb, o + k * 3 + 2, none⟩ = some (.string y.item))
          (first | exact ⟨d1, d2⟩ | exact HC.out _ hY5.bel)
          ((go_at_call 12; (first | refine (HP.out _ hY).mono ?_ | refine (HP.out _ (hY.same ((Fr.refl _ _).drew))).mono ?_); rintro e w5 ⟨rfl, hY5, _⟩))
        have HRR := Lib.hid (HNY.out _ hY5)
        clear hY5 hY HP HNY
        generalize (yPut c ys p y.bay y.item).2.2 = cd
        go_wp2
        go_roundw
        case rel => exact ⟨k + 1, by omega, by go_num, HRR.out⟩
        case measure => simp [intOf]; omega
      · have t0 : (y.kind == 0) = false := by simp [hk0]
        by_cases hk2 : y.kind = 2
        · have t2 : (y.kind == 2) = true := by simp [hk2]
          have HNY : Hid (∀ W, YB w (fun _ => False) W (w.heap.size + 1) w.heap.size c p (yTake c ys (oldS ys)).1 → PlR w n c xs (k + 1) W) := fun W hW => HNX.out W _ _ (by unfold stepP; rw [if_neg hk0, if_pos hk2]) (by omega) hW
          clear hk0 hk2 HNX
          go_wp2_with fail
          refine (oldest_to (x := oldS ys) (f := (yOld ys).isSome) hY rfl).mono ?_
          rintro e w4 ⟨rfl, hY4, _⟩
          generalize oldS ys = os at HNY
          generalize (yOld ys).isSome = ob
          clear hY
          go_wp2_with fail
          refine (take_yb (x := os) hY4).mono ?_
          rintro e w5 ⟨rfl, hY5, _⟩
          have HRR := Lib.hid (HNY.out _ hY5)
          clear hY5 hY4 HNY
          generalize (yTake c ys os).2.1 = cd
          generalize (yTake c ys os).2.2 = ce
          go_wp2
          go_roundw
          case rel => exact ⟨k + 1, by omega, by go_num, HRR.out⟩
          case measure => simp [intOf]; omega
        · have t2 : (y.kind == 2) = false := by simp [hk2]
          have HNY : Hid (∀ W, YB w (fun _ => False) W (w.heap.size + 1) w.heap.size c p (yTake c ys y.item).1 → PlR w n c xs (k + 1) W) := fun W hW => HNX.out W _ _ (by unfold stepP; rw [if_neg hk0, if_neg hk2]) (by omega) hW
          clear hk0 hk2 HNX
          go_wp2_with fail
          refine (take_yb (x := y.item) hY).mono ?_
          rintro e w5 ⟨rfl, hY5, _⟩
          have HRR := Lib.hid (HNY.out _ hY5)
          clear hY5 hY HNY
          generalize (yTake c ys y.item).2.1 = cd
          generalize (yTake c ys y.item).2.2 = ce
          go_wp2
          go_roundw
          case rel => exact ⟨k + 1, by omega, by go_num, HRR.out⟩
          case measure => simp [intOf]; omega
    · have HY := Lib.hid hR.y
      rw [List.take_of_length_le (by omega)] at HY
      clear hR
      go_wp2
      go_ret
      exact ⟨rfl, HY.out⟩

set_option maxRecDepth 100000 in
set_option maxHeartbeats 1000000 in
theorem starts_true (A B : Option Addr) (n m cA cB : Nat) (xs ys : List Bs) (w : World) (ha : RS w A n xs) (hb : RS w B m ys) (hp : ∃ zs, xs = ys ++ zs) : Calls Try.prog 24 #[.slice A n cA, .slice B m cB] w fun e w' => e = .returned (.bool true) ∧ Same w w' := by
  obtain ⟨zs, hz⟩ := hp
  have h1 := ha.1
  have h2 := hb.1
  have h3 := ha.2.1
  have hmn : m ≤ n := by rw [← h1, ← h2, hz]; simp
  have HG : Hid (∀ k y, ys[k]? = some y → xs[k]? = some y) := fun k y hy => by
    rw [hz, List.getElem?_append_left (List.getElem?_eq_some_iff.1 hy).1]
    exact hy
  have HA := Lib.hid ha
  have HB := Lib.hid hb
  have t0 : ¬ (n : Int) < (m : Int) := by omega
  clear ha hb hz
  go_enter Try.func24, Try.ntmps24
  go_wp2
  go_loopw [5] (fun i wr => ∃ k : Nat, k ≤ m ∧ i = .int .i64 k ∧ ∃ q, wr = w.drewN q) (fun i _ => m - (intOf i).toNat)
  case atStart => exact ⟨0, by omega, rfl, 0, rfl⟩
  case round =>
    obtain ⟨k, hk, rfl, q, rfl⟩ := hrel
    by_cases hlt : k < m
    · obtain ⟨y, hy⟩ : ∃ y, ys[k]? = some y := ⟨ys[k]'(by omega), List.getElem?_eq_getElem _⟩
      obtain ⟨ga, oa, rfl, ca, _⟩ := HA.out.2.2 k y (HG.out k y hy)
      obtain ⟨gb, ob, rfl, cb, _⟩ := HB.out.2.2 k y hy
      have i1 : (0 : Int) ≤ (k : Int) := by omega
      have i2 : (k : Int) < (m : Int) := by omega
      have i3 : (k : Int) < (n : Int) := by omega
      clear hy
      go_upto_region 6 with fail
      go_quiet (fail)
      go_wp2
      go_roundw
      case rel => exact ⟨k + 1, by omega, by go_num, q + nq, by first | rfl | exact drewN_add w q nq⟩
      case measure => simp [intOf]; omega
    · go_wp2
      go_ret
      exact ⟨rfl, Same.drewN w q⟩

end Go.Proofs.Ytahommgchnbnjaa
