/-
  The walks of the reference's Credit and Claim, and of the law's should.
-/
import Derived.Test.YtpapgldjmglaiaaRefa
namespace Go.Proofs.Ytpapgldjmglaiaa
open Go.RowKit

/-- Credits as cells. -/
def cellsC (l : List Cr) : List Value := l.flatMap fun e => [.int .i64 e.1, .int .i64 e.2]
theorem cellsC_len : ∀ l : List Cr, (cellsC l).length = l.length * 2
  | [] => rfl
  | x :: l => by
    have := cellsC_len l
    unfold cellsC at this ⊢
    rw [List.flatMap_cons, List.length_append, this, List.length_cons]
    simp
    omega
theorem cellsC_get : ∀ (s : List Cr) (k : Nat) (e : Cr), s[k]? = some e → (cellsC s)[k * 2]? = some (.int .i64 e.1) ∧ (cellsC s)[k * 2 + 1]? = some (.int .i64 e.2)
  | [], _, _, h => by simp at h
  | a :: s, 0, e, h => by
    simp at h
    subst h
    simp [cellsC]
  | a :: s, k + 1, e, h => by
    have := cellsC_get s k e (by simpa using h)
    unfold cellsC at this ⊢
    rw [List.flatMap_cons]
    have e1 : (k + 1) * 2 = k * 2 + 2 := by omega
    have e2 : (k + 1) * 2 + 1 = (k * 2 + 1) + 2 := by omega
    rw [e2, e1]
    simpa using this
theorem cellsC_at : ∀ (s : List Cr) (j : Nat) (u : Value), (cellsC s)[j]? = some u → ∃ k e, s[k]? = some e ∧ ((j = k * 2 ∧ u = .int .i64 e.1) ∨ (j = k * 2 + 1 ∧ u = .int .i64 e.2))
  | [], _, _, h => by simp [cellsC] at h
  | a :: s, 0, u, h => by
    simp [cellsC] at h
    exact ⟨0, a, rfl, .inl ⟨rfl, h.symm⟩⟩
  | a :: s, 1, u, h => by
    simp [cellsC] at h
    exact ⟨0, a, rfl, .inr ⟨rfl, h.symm⟩⟩
  | a :: s, j + 2, u, h => by
    have h' : (cellsC s)[j]? = some u := by
      unfold cellsC at h ⊢
      rw [List.flatMap_cons] at h
      simpa using h
    obtain ⟨k, e, h1, h2⟩ := cellsC_at s j u h'
    refine ⟨k + 1, e, by simpa using h1, ?_⟩
    rcases h2 with ⟨e1, e2⟩ | ⟨e1, e2⟩
    · exact .inl ⟨by omega, e2⟩
    · exact .inr ⟨by omega, e2⟩
theorem cellsC_append (a b : List Cr) : cellsC (a ++ b) = cellsC a ++ cellsC b := List.flatMap_append
theorem cellsC_set : ∀ (s : List Cr) (k : Nat) (e : Cr) (v : Int), s[k]? = some e → (cellsC s).set (k * 2 + 1) (.int .i64 v) = cellsC (s.set k (e.1, v))
  | [], _, _, _, h => by simp at h
  | a :: s, 0, e, v, h => by
    simp at h
    subst h
    simp [cellsC]
  | a :: s, k + 1, e, v, h => by
    have := cellsC_set s k e v (by simpa using h)
    unfold cellsC at this ⊢
    rw [List.set_cons_succ, List.flatMap_cons, List.flatMap_cons, ← this]
    rw [show (k + 1) * 2 + 1 = (k * 2 + 1) + 2 by omega]
    rfl
theorem cellsC_one (l : List Cr) : ∀ u ∈ cellsC l, u.oneCell' = true := by
  intro u hu
  obtain ⟨x, _, hx⟩ := List.mem_flatMap.1 hu
  simp at hx
  rcases hx with rfl | rfl <;> rfl
theorem RC.reads {w : World} {A : Option Addr} {n : Nat} {l : List Cr} (h : RC w A n l) : Reads w w.heap.size 2 A n (cellsC l) := by
  obtain ⟨h1, _, h3⟩ := h
  refine ⟨by rw [cellsC_len, h1], fun hn => ?_⟩
  obtain ⟨g, o, rfl, _, _, hlt⟩ := h3 0 (l[0]'(by omega)) (List.getElem?_eq_getElem (by omega))
  refine ⟨_, rfl, hlt, fun j u hu => ?_⟩
  obtain ⟨k, e, he, hj⟩ := cellsC_at l j u hu
  obtain ⟨g', o', e', c0, c1, _⟩ := h3 k e he
  cases e'
  rw [addr_add]
  rcases hj with ⟨rfl, rfl⟩ | ⟨rfl, rfl⟩
  · exact c0
  · rw [← Nat.add_assoc]; exact c1
theorem RC.of_own {w : World} {base n : Nat} {v : Value} {l : List Cr} (h : w.ownsRow base 53 2 v n (cellsC l)) (hn : l.length = n) (h2 : n ≤ 200) : ∃ A cap, v = .slice A n cap ∧ RC w A n l ∧ ∀ i, InA A i → base ≤ i ∧ i < w.heap.size := by
  obtain ⟨A, cap, hv, _, hc⟩ := row_formN h
  refine ⟨A, cap, hv, ⟨hn, h2, fun k e he => ?_⟩, fun i ⟨o, hA⟩ => ?_⟩
  · obtain ⟨c0, c1⟩ := cellsC_get l k e he
    obtain ⟨g, hA, d0, _, hg⟩ := hc _ _ c0
    obtain ⟨g', hA', d1, _, _⟩ := hc _ _ c1
    rw [hA] at hA'
    cases hA'
    exact ⟨g, 0, hA, by rw [Nat.zero_add]; exact d0, by rw [Nat.zero_add]; exact d1, hg⟩
  · rcases h.2 with ⟨h3, _⟩ | ⟨g', c', cur, h3, _⟩
    · rw [hv] at h3
      cases h3
      cases hA
    · refine own_lt h ?_
      rw [h3]
      rw [hv] at h3
      cases h3
      cases hA
      rfl
theorem own_empty53 (w : World) (b : Nat) (hb : b ≤ w.heap.size) : (w.alloc (.cells #[] 53)).ownsRow b 53 2 (.slice (some ⟨w.heap.size, 0, none⟩) 0 0) 0 [] := World.ownsRow_lit w #[] 0 hb (Nat.zero_le _) rfl
theorem info53 : (Try.prog.info? 53).map (fun i => (i.zero, i.size, i.bytes)) = some (some (.agg #[.int .i64 0, .int .i64 0]), 2, 16) := by kernel_rfl
theorem reads_cr (w : World) (p n : Int) : Reads (w.alloc (.cells #[.int .i64 p, .int .i64 n] 53)) (w.heap.size + 1) 2 (some ⟨w.heap.size, 0, none⟩) 1 [.int .i64 p, .int .i64 n] := by
  refine ⟨rfl, fun _ => ⟨_, rfl, Nat.lt_succ_self _, fun j u hu => ?_⟩⟩
  have hj : j < 2 := by simpa using (List.getElem?_eq_some_iff.1 hu).1
  rw [addr_add]
  match j, hj with
  | 0, _ => simp at hu; subst hu; simp
  | 1, _ => simp at hu; subst hu; simp

/-! ### Blocks of six -/
def six (w : World) (h : Nat) (x0 x1 x2 x3 x4 x5 : Value) : World := (((((w.setCell ⟨h, 0, none⟩ x0).setCell ⟨h, 1, none⟩ x1).setCell ⟨h, 2, none⟩ x2).setCell ⟨h, 3, none⟩ x3).setCell ⟨h, 4, none⟩ x4).setCell ⟨h, 5, none⟩ x5
theorem fr6 (w : World) (h : Nat) (x0 x1 x2 x3 x4 x5 : Value) : Fr (fun i => i = h) w (six w h x0 x1 x2 x3 x4 x5) :=
  Fr.setCell (Fr.setCell (Fr.setCell (Fr.setCell (Fr.setCell (Fr.setCell (Fr.refl (fun i => i = h) w) ⟨h, 0, none⟩ x0 (.inl rfl)) ⟨h, 1, none⟩ x1 (.inl rfl)) ⟨h, 2, none⟩ x2 (.inl rfl)) ⟨h, 3, none⟩ x3 (.inl rfl)) ⟨h, 4, none⟩ x4 (.inl rfl)) ⟨h, 5, none⟩ x5 (.inl rfl)
theorem Blk.six {w : World} {h : Nat} {y0 y1 y2 y3 y4 y5 : Value} (b : Blk w h 30 #[y0, y1, y2, y3, y4, y5]) (x0 x1 x2 x3 x4 x5 : Value) : Blk (six w h x0 x1 x2 x3 x4 x5) h 30 #[x0, x1, x2, x3, x4, x5] :=
  (((((b.set_ 0 x0).set_ 1 x1).set_ 2 x2).set_ 3 x3).set_ 4 x4).set_ 5 x5
theorem Blk.cells6 {w : World} {h : Nat} {x0 x1 x2 x3 x4 x5 : Value} (b : Blk w h 30 #[x0, x1, x2, x3, x4, x5]) :
    (w.cell? ⟨h, 0, none⟩ = some x0 ∧ w.cell? ⟨h, 1, none⟩ = some x1 ∧ w.cell? ⟨h, 2, none⟩ = some x2 ∧ w.cell? ⟨h, 3, none⟩ = some x3 ∧ w.cell? ⟨h, 4, none⟩ = some x4 ∧ w.cell? ⟨h, 5, none⟩ = some x5) ∧
    (w.frozen? ⟨h, 0, none⟩ = false ∧ w.frozen? ⟨h, 1, none⟩ = false ∧ w.frozen? ⟨h, 2, none⟩ = false ∧ w.frozen? ⟨h, 3, none⟩ = false ∧ w.frozen? ⟨h, 4, none⟩ = false ∧ w.frozen? ⟨h, 5, none⟩ = false) ∧ h < w.heap.size :=
  ⟨⟨b.cell 0, b.cell 1, b.cell 2, b.cell 3, b.cell 4, b.cell 5⟩, ⟨b.frozen 0, b.frozen 1, b.frozen 2, b.frozen 3, b.frozen 4, b.frozen 5⟩, b.lt⟩

/-- A reference's call has returned this account. -/
def CE (w : World) (K : Nat → Prop) (n : Nat) (x : Ac × Int) (e : Ending) (w' : World) : Prop :=
  ∃ A n' cap l, e = .returned (.tuple #[rv x.1 A n' cap, .int .i64 x.2]) ∧ Same w w' ∧ RC w' A n' l ∧ RL x.1 l ∧ n' ≤ n + 1 ∧ ∀ i, InA A i → K i ∨ (w.heap.size ≤ i ∧ i < w'.heap.size)
/-- The variable and the result of a reference's method. -/
structure Box2 (w W : World) (x0 x1 x2 x3 x4 x5 : Value) : Prop where
  b0 : Blk W w.heap.size 30 #[x0, x1, x2, x3, x4, x5]
  b1 : Blk W (w.heap.size + 1) 30 #[.int .i64 0, .int .i64 0, .int .i64 0, .int .i64 0, .int .i64 0, .slice none 0 0]
  same : Same w W
theorem Box2.to {w W W' : World} {x0 x1 x2 x3 x4 x5 : Value} (b : Box2 w W x0 x1 x2 x3 x4 x5) (hs : Same W W') : Box2 w W' x0 x1 x2 x3 x4 x5 := ⟨b.b0.fr hs (fun x => x), b.b1.fr hs (fun x => x), Fr.trans b.same hs⟩
theorem Box2.done {w W : World} {x0 x1 x2 x3 x4 x5 : Value} (b : Box2 w W x0 x1 x2 x3 x4 x5) (y0 y1 y2 y3 y4 y5 : Value) : Same w (six W (w.heap.size + 1) y0 y1 y2 y3 y4 y5) :=
  fr_trans2 b.same (fr6 W (w.heap.size + 1) y0 y1 y2 y3 y4 y5) (fun i hi e => by omega)
theorem Box2.new (w : World) (x0 x1 x2 x3 x4 x5 : Value) : Box2 w ((w.alloc (.cells #[x0, x1, x2, x3, x4, x5] 30)).alloc (.cells #[.int .i64 0, .int .i64 0, .int .i64 0, .int .i64 0, .int .i64 0, .slice none 0 0] 30)) x0 x1 x2 x3 x4 x5 := by
  have b1 := Blk.new (w.alloc (.cells #[x0, x1, x2, x3, x4, x5] 30)) 30 #[.int .i64 0, .int .i64 0, .int .i64 0, .int .i64 0, .int .i64 0, .slice none 0 0]
  rw [World.size_alloc] at b1
  exact ⟨(Blk.new w 30 _).alloc _, b1, ((Fr.refl _ _).alloc _).alloc _⟩

/-- The end of a reference's method: its variable has turned, the result is laid. -/
theorem Box2.fin {w W3 W' : World} {x0 x1 x2 x3 x4 x5 : Value} (b : Box2 w W3 x0 x1 x2 x3 x4 x5) (f : Fr (fun i => i = w.heap.size) W3 W') (y0 y1 y2 y3 y4 y5 : Value) :
    Same w (six W' (w.heap.size + 1) y0 y1 y2 y3 y4 y5) ∧ Fr (fun i => i = w.heap.size ∨ i = w.heap.size + 1) W3 (six W' (w.heap.size + 1) y0 y1 y2 y3 y4 y5) ∧
      ((six W' (w.heap.size + 1) y0 y1 y2 y3 y4 y5).cell? ⟨w.heap.size + 1, 0, none⟩ = some y0 ∧ (six W' (w.heap.size + 1) y0 y1 y2 y3 y4 y5).cell? ⟨w.heap.size + 1, 1, none⟩ = some y1 ∧ (six W' (w.heap.size + 1) y0 y1 y2 y3 y4 y5).cell? ⟨w.heap.size + 1, 2, none⟩ = some y2 ∧ (six W' (w.heap.size + 1) y0 y1 y2 y3 y4 y5).cell? ⟨w.heap.size + 1, 3, none⟩ = some y3 ∧ (six W' (w.heap.size + 1) y0 y1 y2 y3 y4 y5).cell? ⟨w.heap.size + 1, 4, none⟩ = some y4 ∧ (six W' (w.heap.size + 1) y0 y1 y2 y3 y4 y5).cell? ⟨w.heap.size + 1, 5, none⟩ = some y5) := by
  have f2 := fr6 W' (w.heap.size + 1) y0 y1 y2 y3 y4 y5
  exact ⟨fr_trans2 (fr_trans2 b.same f (fun i hi e => by omega)) f2 (fun i hi e => by omega), (f.mono fun i _ e => .inl e).trans (f2.mono fun i _ e => .inr e), ((b.b1.fr f (by omega)).six y0 y1 y2 y3 y4 y5).cells6.1⟩

set_option maxRecDepth 100000 in
set_option maxHeartbeats 2000000 in
theorem rcredit_any (a : Ac) (K : Nat) (KR : Nat → Prop) (A : Option Addr) (n cap : Nat) (l : List Cr) (per vol : Int) (w : World) (h : RC w A n l) (hr : RL a l) (ok : a.Ok K) (hK : ∀ i, InA A i → KR i) (hn : n ≤ 150) :
    Calls Try.prog 20 #[rv a A n cap, .int .i64 per, .int .i64 vol] w (CE w KR n (a.credit per vol)) := by
  obtain ⟨i0, hi0, hz0, hz1, hz2⟩ := info_parts info53
  have hl := h.1
  have H := Lib.hid h
  have HR := Lib.hid hr
  have OK := Lib.hid ok
  have HK := Lib.hid hK
  have bx := Box2.new w (.int .i64 a.F) (.int .i64 a.P) (.int .i64 a.T) (.int .i64 a.cr) (.int .i64 a.cl) (.slice A n cap)
  have BX := Lib.hid bx
  have h25 := Lib.hid (fun W => rcheck_any a A n cap per vol W)
  clear h hr ok hK bx
  unfold rv rcs at h25 ⊢
  by_cases hc : a.check per vol = 0
  · obtain ⟨q1, q2, q3, q4, q5⟩ := check_zero (by simpa using hc)
    obtain ⟨m1, m2, m3, m4⟩ := mul_div_bd q4 q5 OK.out.f1 OK.out.f2
    have o3 := OK.out.c1
    have o4 := OK.out.kk
    have o5 : 0 ≤ a.cr := by have := OK.out.bd 0 (a.T + 1).toNat; have := OK.out.tot; have := OK.out.c0; omega
    have o6 : a.cr ≤ 225179981368524800 := by omega
    have E : Hid (a.credit per vol = ({ a with T := per, f := addAt a.f per (vol * a.F / 1000), cr := a.cr + vol * a.F / 1000 }, 0)) := by unfold Hid Ac.credit; rw [if_neg (by simpa using hc)]
    have HC := Lib.hid hc
    have RL2 := Lib.hid (HR.out.credit (cr := a.cr + vol * a.F / 1000) q1 q3 m3)
    generalize hPost : CE w KR n (a.credit per vol) = Post
    have HPost := Lib.hid hPost
    clear hc hPost
    go_enter Try.func20, Try.ntmps20
    go_wp2_with fail
    refine (h25.out _).mono ?_
    rintro e w1 ⟨rfl, hs1⟩
    rw [HC.out]
    have b1 := BX.out.to hs1
    clear h25 BX hs1
    obtain ⟨⟨d0, d1, d2, d3, d4, d5⟩, ⟨z0, z1, z2, z3, z4, z5⟩, d6⟩ := b1.b0.cells6
    have B1 := Lib.hid b1
    have hz := b1.b1.lt
    have RD := Lib.hid ((H.out.same b1.same).reads.alloc (Nat.le_refl _) (.cells #[] 53))
    clear b1
    generalize hnn : vol * a.F / 1000 = nn at m3 m4 E RL2
    have HNN := Lib.hid hnn
    clear hnn
    have hmu : Hid (∀ v : Int, v = vol * a.F / 1000 → v = nn) := fun v hv => hv.trans HNN.out
    go_upto_region 5 with fail
    rw [HNN.out]
    go_upto_region 6 with (first | (at_builtin; refine wpList_append_any _ rfl (.tmp 23) (.tmp 25) 28 rfl w1.heap.size 53 i0 _ 2 16 Try.underlying28 hi0 hz0 hz1 hz2 rfl (by decide) (.slice (some ⟨w1.heap.size, 0, none⟩) 0 0) 0 [] rfl (own_empty53 w1 w1.heap.size (Nat.le_refl _)) w1.heap.size A n cap (cellsC l) rfl RD.out (cellsC_one _) (by unfold maxLen; omega) (by omega) (by simp) ?_; intro v2 w2 hown2 hgr2 hat2; have s2 : Same w1 w2 := same_grown (Fr.alloc (Same.refl w1) _) hgr2 (fun g e => by cases e; exact Nat.le_refl _); have HO2 := Lib.hid hown2; have zs2 := s2.size; clear hown2 hgr2 hat2) | (at_builtin; refine wpList_append_any _ rfl (.tmp 26) (.tmp 30) 28 rfl w1.heap.size 53 i0 _ 2 16 Try.underlying28 hi0 hz0 hz1 hz2 rfl (by decide) v2 (0 + n) ([] ++ cellsC l) rfl (HO2.out.alloc _) (w2.heap.size + 1) (some ⟨w2.heap.size, 0, none⟩) 1 1 [.int .i64 per, .int .i64 nn] rfl (reads_cr w2 per nn) (by simp [Value.oneCell']) (by unfold maxLen; omega) (by omega) (by simp; omega) ?_; intro v3 w3 hown3 hgr3 hat3; have s3 : Same w1 w3 := same_grown (Fr.alloc s2 _) hgr3 (fun g e => own_base HO2.out e); have HO3 := Lib.hid hown3; clear hown3 hgr3 hat3; obtain ⟨A3, cap3, hv3, _, _⟩ := row_formN HO3.out; subst hv3; have b3 := B1.out.to s3; obtain ⟨⟨f0, f1, f2, f3, f4, f5⟩, ⟨g0, g1, g2, g3, g4, g5⟩, g6⟩ := b3.b0.cells6; obtain ⟨⟨e0, e1, e2, e3, e4, e5⟩, ⟨y0, y1, y2, y3, y4, y5⟩, y6⟩ := b3.b1.cells6; clear d0 d1 d2 d3 d4 d5 z0 z1 z2 z3 z4 z5 d6))
    go_wp2
    have ff : Fr (fun i => i = w.heap.size) w3 (((w3.setCell ⟨w.heap.size, 5, none⟩ (.slice A3 (n + 1) cap3)).setCell ⟨w.heap.size, 2, none⟩ (.int .i64 per)).setCell ⟨w.heap.size, 3, none⟩ (.int .i64 (a.cr + nn))) :=
      Fr.setCell (Fr.setCell (Fr.setCell (Fr.refl (fun i => i = w.heap.size) w3) ⟨w.heap.size, 5, none⟩ _ (.inl rfl)) ⟨w.heap.size, 2, none⟩ _ (.inl rfl)) ⟨w.heap.size, 3, none⟩ _ (.inl rfl)
    have hfin := b3.fin ff (.int .i64 a.F) (.int .i64 a.P) (.int .i64 per) (.int .i64 (a.cr + nn)) (.int .i64 a.cl) (.slice A3 (n + 1) cap3)
    unfold six at hfin
    generalize (((((((((w3.setCell ⟨w.heap.size, 5, none⟩ (.slice A3 (n + 1) cap3)).setCell ⟨w.heap.size, 2, none⟩ (.int .i64 per)).setCell ⟨w.heap.size, 3, none⟩ (.int .i64 (a.cr + nn))).setCell ⟨w.heap.size + 1, 0, none⟩ (.int .i64 a.F)).setCell ⟨w.heap.size + 1, 1, none⟩ (.int .i64 a.P)).setCell ⟨w.heap.size + 1, 2, none⟩ (.int .i64 per)).setCell ⟨w.heap.size + 1, 3, none⟩ (.int .i64 (a.cr + nn))).setCell ⟨w.heap.size + 1, 4, none⟩ (.int .i64 a.cl)).setCell ⟨w.heap.size + 1, 5, none⟩ (.slice A3 (n + 1) cap3)) = W9 at hfin ⊢
    obtain ⟨hs9, f9, k0, k1, k2, k3, k4, k5⟩ := hfin
    refine bodyPost_ret (v := .tuple #[rv { a with T := per, f := addAt a.f per nn, cr := a.cr + nn } A3 (n + 1) cap3, .int .i64 0]) (by simp [results, Try.results20, go_sem, rv, rcs, k0, k1, k2, k3, k4, k5]) rfl ?_
    rw [← HPost.out, E.out]
    have ho := HO3.out
    have ec : [] ++ cellsC l ++ [.int .i64 per, .int .i64 nn] = cellsC (l ++ [(per, nn)]) := by rw [cellsC_append]; rfl
    rw [ec, Nat.zero_add] at ho
    obtain ⟨A4, cap4, hv4, hrc, hin⟩ := RC.of_own ho (by simp [hl]) (by omega)
    cases hv4
    have z9 := f9.size
    refine ⟨A3, n + 1, cap3, _, rfl, hs9, hrc.fr f9 (fun i hi e => ?_), RL2.out, Nat.le_refl _, fun i hi => ?_⟩
    · have := hin i hi
      omega
    · have := hin i hi
      exact .inr ⟨by omega, by omega⟩
  · have e : a.credit per vol = (a, a.check per vol) := by unfold Ac.credit; rw [if_pos hc]
    rw [e]
    have k1 : (a.check per vol != 0) = true := by simpa using hc
    clear e hc
    generalize a.check per vol = cd at k1 h25 ⊢
    go_enter Try.func20, Try.ntmps20
    go_wp2_with fail
    refine (h25.out _).mono ?_
    rintro e w1 ⟨rfl, hs1⟩
    have b1 := BX.out.to hs1
    clear h25 BX hs1
    obtain ⟨⟨d0, d1, d2, d3, d4, d5⟩, _⟩ := b1.b0.cells6
    obtain ⟨⟨e0, e1, e2, e3, e4, e5⟩, ⟨z0, z1, z2, z3, z4, z5⟩, d6⟩ := b1.b1.cells6
    have B1 := Lib.hid b1
    clear b1
    go_wp2
    have hs9 := B1.out.done (.int .i64 a.F) (.int .i64 a.P) (.int .i64 a.T) (.int .i64 a.cr) (.int .i64 a.cl) (.slice A n cap)
    have n9 := (B1.out.b1.six (.int .i64 a.F) (.int .i64 a.P) (.int .i64 a.T) (.int .i64 a.cr) (.int .i64 a.cl) (.slice A n cap)).cells6.1
    unfold six at hs9 n9
    generalize (((((w1.setCell ⟨w.heap.size + 1, 0, none⟩ (.int .i64 a.F)).setCell ⟨w.heap.size + 1, 1, none⟩ (.int .i64 a.P)).setCell ⟨w.heap.size + 1, 2, none⟩ (.int .i64 a.T)).setCell ⟨w.heap.size + 1, 3, none⟩ (.int .i64 a.cr)).setCell ⟨w.heap.size + 1, 4, none⟩ (.int .i64 a.cl)).setCell ⟨w.heap.size + 1, 5, none⟩ (.slice A n cap) = W9 at hs9 n9 ⊢
    obtain ⟨y0, y1, y2, y3, y4, y5⟩ := n9
    exact bodyPost_ret (v := .tuple #[rv a A n cap, .int .i64 cd]) (by simp [results, Try.results20, go_sem, rv, rcs, y0, y1, y2, y3, y4, y5]) rfl ⟨A, n, cap, l, rfl, hs9, H.out.same hs9, HR.out, by omega, fun i hi => .inl (HK.out i hi)⟩

/-- What holds at the head of each round of Claim. -/
structure LR (w : World) (a : Ac) (A : Option Addr) (n cap : Nat) (lo V : Int) (l : List Cr) (v : Value) (base k : Nat) (wr : World) : Prop where
  own : wr.ownsRow base 53 2 v n (cellsC (drl lo V (l.take k) ++ l.drop k))
  bx : Box2 w wr (.int .i64 a.F) (.int .i64 a.P) (.int .i64 a.T) (.int .i64 a.cr) (.int .i64 a.cl) (.slice A n cap)
theorem LR.get {w : World} {a : Ac} {A : Option Addr} {n cap : Nat} {lo V : Int} {l : List Cr} {A3 : Option Addr} {cap3 base k : Nat} {wr : World} (h : LR w a A n cap lo V l (.slice A3 n cap3) base k wr) {e : Cr} (he : l[k]? = some e) :
    ∃ g, A3 = some ⟨g, 0, none⟩ ∧ wr.cell? ⟨g, k * 2, none⟩ = some (.int .i64 e.1) ∧ wr.cell? ⟨g, k * 2 + 1, none⟩ = some (.int .i64 e.2) ∧ wr.frozen? ⟨g, k * 2 + 1, none⟩ = false ∧ base ≤ g ∧ g < wr.heap.size := by
  have hk := (List.getElem?_eq_some_iff.1 he).1
  have hg : (drl lo V (l.take k) ++ l.drop k)[k]? = some e := by
    have hlen : (drl lo V (l.take k)).length = k := by rw [drl_len, List.length_take]; omega
    rw [List.getElem?_append_right (by omega), hlen, Nat.sub_self, List.getElem?_drop, Nat.add_zero]
    exact he
  obtain ⟨c0, c1⟩ := cellsC_get _ k e hg
  obtain ⟨A', cap', hv, _, hc⟩ := row_formN h.own
  cases hv
  obtain ⟨g, hA, d0, hb, hl⟩ := hc _ _ c0
  obtain ⟨g', hA', d1, _, _⟩ := hc _ _ c1
  rw [hA] at hA'
  cases hA'
  subst hA
  exact ⟨g, rfl, d0, d1, h.own.frozenAt _, hb, hl⟩
theorem drl_step {lo V : Int} {l : List Cr} {k : Nat} {e : Cr} (he : l[k]? = some e) (hlo : ¬ lo ≤ e.1) : drl lo V (l.take (k + 1)) ++ l.drop (k + 1) = drl lo V (l.take k) ++ l.drop k ∧ drest lo V (l.take (k + 1)) = drest lo V (l.take k) := by
  have hk := (List.getElem?_eq_some_iff.1 he).1
  obtain ⟨h1, h2⟩ := drl_snoc lo (l.take k) V e
  have ht : l.take (k + 1) = l.take k ++ [e] := by rw [List.take_add_one, he]; rfl
  have hd : l.drop k = e :: l.drop (k + 1) := by
    rw [List.drop_eq_getElem_cons hk]
    rw [List.getElem?_eq_getElem hk] at he
    rw [Option.some.inj he]
  rw [ht, h1, h2, if_neg hlo, if_neg hlo, hd]
  simp
theorem drl_take {lo V : Int} {l : List Cr} {k : Nat} {e : Cr} (he : l[k]? = some e) (hlo : lo ≤ e.1) : drl lo V (l.take (k + 1)) ++ l.drop (k + 1) = (drl lo V (l.take k) ++ l.drop k).set k (e.1, e.2 - min (drest lo V (l.take k)) e.2) ∧ drest lo V (l.take (k + 1)) = drest lo V (l.take k) - min (drest lo V (l.take k)) e.2 ∧ (drl lo V (l.take k) ++ l.drop k)[k]? = some e := by
  have hk := (List.getElem?_eq_some_iff.1 he).1
  obtain ⟨h1, h2⟩ := drl_snoc lo (l.take k) V e
  have ht : l.take (k + 1) = l.take k ++ [e] := by rw [List.take_add_one, he]; rfl
  have hd : l.drop k = e :: l.drop (k + 1) := by
    rw [List.drop_eq_getElem_cons hk]
    rw [List.getElem?_eq_getElem hk] at he
    rw [Option.some.inj he]
  have hlen : (drl lo V (l.take k)).length = k := by rw [drl_len, List.length_take]; omega
  rw [ht, h1, h2, if_pos hlo, if_pos hlo, hd]
  refine ⟨?_, rfl, ?_⟩
  · rw [List.set_append_right _ _ (by omega), hlen, Nat.sub_self]
    simp
  · rw [List.getElem?_append_right (by omega), hlen, Nat.sub_self]
    rfl
theorem LR.step {w : World} {a : Ac} {A : Option Addr} {n cap : Nat} {lo V : Int} {l : List Cr} {v : Value} {base k : Nat} {wr wr' : World} (h : LR w a A n cap lo V l v base k wr) {e : Cr} (he : l[k]? = some e) (hlo : ¬ lo ≤ e.1) (hs : Same wr wr') : LR w a A n cap lo V l v base (k + 1) wr' :=
  ⟨by rw [(drl_step he hlo).1]; exact own_fr h.own hs (fun _ _ x => x), h.bx.to hs⟩
theorem LR.take {w : World} {a : Ac} {A : Option Addr} {n cap : Nat} {lo V : Int} {l : List Cr} {g cap3 base k : Nat} {wr wr' : World} (h : LR w a A n cap lo V l (.slice (some ⟨g, 0, none⟩) n cap3) base k wr) (hb : w.heap.size + 1 + 1 ≤ base) {e : Cr} (he : l[k]? = some e) (hlo : lo ≤ e.1) (hs : Same wr wr') {u : Int} (hu : e.2 - min (drest lo V (l.take k)) e.2 = u) :
    LR w a A n cap lo V l (.slice (some ⟨g, 0, none⟩) n cap3) base (k + 1) (wr'.setCell ⟨g, k * 2 + 1, none⟩ (.int .i64 u)) := by
  subst hu
  obtain ⟨h1, _, h3⟩ := drl_take (V := V) he hlo
  have ho := own_fr h.own hs (fun _ _ x => x)
  have hbx := h.bx.to hs
  have hbg := own_base h.own (g := g) rfl
  have f : Fr (fun i => i = g) wr' (wr'.setCell ⟨g, k * 2 + 1, none⟩ (.int .i64 (e.2 - min (drest lo V (l.take k)) e.2))) := (Fr.refl _ _).setCell _ _ (.inl rfl)
  refine ⟨?_, hbx.b0.fr f (by omega), hbx.b1.fr f (by omega), fr_trans2 hbx.same f (fun i hi e => by omega)⟩
  rw [h1, ← cellsC_set _ k e _ h3]
  exact (ho.stored (k * 2 + 1) _).1

end Go.Proofs.Ytpapgldjmglaiaa
