/-
  The walk of the reference's with.
-/
import Derived.Test.YteokognbnilkmaaRefc
import Derived.Deep.DeepCutAuto
namespace Go.Proofs.Yteokognbnilkmaa
open Go.RowKit

abbrev BV := Bin × Value
def cellsV (ps : List BV) : List Value := ps.flatMap fun p => [.string p.1.key, p.2]
theorem cellsV_len : ∀ ps : List BV, (cellsV ps).length = ps.length * 2
  | [] => rfl
  | x :: xs => by
    have := cellsV_len xs
    unfold cellsV at this ⊢
    rw [List.flatMap_cons, List.length_append, this, List.length_cons]
    simp
    omega
theorem cellsV_get : ∀ (s : List BV) (k : Nat) (e : BV), s[k]? = some e → (cellsV s)[k * 2]? = some (.string e.1.key) ∧ (cellsV s)[k * 2 + 1]? = some e.2
  | [], _, _, h => by simp at h
  | a :: s, 0, e, h => by
    simp at h
    subst h
    simp [cellsV]
  | a :: s, k + 1, e, h => by
    have := cellsV_get s k e (by simpa using h)
    unfold cellsV at this ⊢
    rw [List.flatMap_cons]
    have e1 : (k + 1) * 2 = k * 2 + 2 := by omega
    have e2 : (k + 1) * 2 + 1 = (k * 2 + 1) + 2 := by omega
    rw [e2, e1]
    simpa using this
theorem cellsV_at {s : List BV} {j : Nat} {u : Value} (h : (cellsV s)[j]? = some u) : ∃ k e, s[k]? = some e ∧ ((j = k * 2 ∧ u = .string e.1.key) ∨ (j = k * 2 + 1 ∧ u = e.2)) := by
  have hl := (List.getElem?_eq_some_iff.1 h).1
  rw [cellsV_len] at hl
  have hk : j / 2 < s.length := by omega
  refine ⟨j / 2, s[j / 2], List.getElem?_eq_getElem hk, ?_⟩
  obtain ⟨h1, h2⟩ := cellsV_get s (j / 2) _ (List.getElem?_eq_getElem hk)
  rcases Nat.mod_two_eq_zero_or_one j with h0 | h0
  · have e : j / 2 * 2 = j := by omega
    rw [e, h] at h1
    exact .inl ⟨e.symm, Option.some.inj h1⟩
  · have e : j / 2 * 2 + 1 = j := by omega
    rw [e, h] at h2
    exact .inr ⟨e.symm, Option.some.inj h2⟩
theorem cellsV_set : ∀ (s : List BV) (k : Nat) (b : Bin) (v : Value), ((cellsV s).set (k * 2) (.string b.key)).set (k * 2 + 1) v = cellsV (s.set k (b, v))
  | [], k, _, _ => by simp [cellsV]
  | a :: s, 0, b, v => by simp [cellsV]
  | a :: s, k + 1, b, v => by
    have := cellsV_set s k b v
    unfold cellsV at this ⊢
    rw [show (k + 1) * 2 + 1 = (k * 2 + 1) + 2 by omega, show (k + 1) * 2 = k * 2 + 2 by omega]
    simp only [List.flatMap_cons, List.set_cons_succ, List.cons_append, List.nil_append]
    rw [this]
/-- A bin and the slice that holds its items. -/
def PV (K : Nat → Prop) (w : World) (p : BV) : Prop := ∃ B cap, p.2 = .slice B p.1.items.length cap ∧ RS w B p.1.items.length p.1.items ∧ ∀ i, InA B i → K i
theorem PV.fr {K S : Nat → Prop} {w w' : World} {p : BV} (h : PV K w p) (hf : Fr S w w') (hn : ∀ i, K i → ¬ S i) : PV K w' p := by
  obtain ⟨B, cap, e, hr, hk⟩ := h
  exact ⟨B, cap, e, hr.fr hf (fun i hi => hn i (hk i hi)), hk⟩
theorem PV.mono {K K' : Nat → Prop} {w : World} {p : BV} (h : PV K w p) (hk : ∀ i, K i → K' i) : PV K' w p := by
  obtain ⟨B, cap, e, hr, hk'⟩ := h
  exact ⟨B, cap, e, hr, fun i hi => hk i (hk' i hi)⟩
theorem PV.one {K : Nat → Prop} {w : World} {p : BV} (h : PV K w p) : p.2.oneCell' = true := by
  obtain ⟨B, cap, e, _⟩ := h
  rw [e]
  rfl
theorem RB.pairs {K : Nat → Prop} {w : World} {A : Option Addr} {n : Nat} {bs : Bins} (h : RB K w A n bs) : ∃ ps : List BV, ps.map (·.1) = bs ∧ Reads w w.heap.size 2 A n (cellsV ps) ∧ ∀ p ∈ ps, PV K w p := by
  obtain ⟨h1, h2, h3, h4⟩ := h
  have key : ∀ k, k < n → ∃ p : BV, bs[k]? = some p.1 ∧ PV K w p ∧ ∃ g o, A = some ⟨g, o, none⟩ ∧ g < w.heap.size ∧ w.cell? ⟨g, o + k * 2, none⟩ = some (.string p.1.key) ∧ w.cell? ⟨g, o + k * 2 + 1, none⟩ = some p.2 := by
    intro k hk
    have hb : bs[k]? = some (bs[k]'(by omega)) := List.getElem?_eq_getElem _
    obtain ⟨g, o, B, cap, e, c0, c1, hg, hr, hk'⟩ := h4 k _ hb
    exact ⟨(bs[k]'(by omega), .slice B _ cap), hb, ⟨B, cap, rfl, hr, hk'⟩, g, o, e, hg, c0, c1⟩
  let ps : List BV := (List.range n).pmap (fun i hi => Classical.choose (key i hi)) (fun i hi => List.mem_range.1 hi)
  have hpl : ps.length = n := by simp [ps]
  have hps : ∀ k p, ps[k]? = some p → k < n ∧ bs[k]? = some p.1 ∧ PV K w p ∧ ∃ g o, A = some ⟨g, o, none⟩ ∧ g < w.heap.size ∧ w.cell? ⟨g, o + k * 2, none⟩ = some (.string p.1.key) ∧ w.cell? ⟨g, o + k * 2 + 1, none⟩ = some p.2 := by
    intro k p hp
    have hk : k < n := by have := (List.getElem?_eq_some_iff.1 hp).1; rw [hpl] at this; exact this
    have hpe : p = Classical.choose (key k hk) := by
      have := (List.getElem?_eq_some_iff.1 hp).2
      simpa [ps] using this.symm
    have := Classical.choose_spec (key k hk)
    rw [← hpe] at this
    exact ⟨hk, this⟩
  refine ⟨ps, ?_, ⟨by rw [cellsV_len, hpl], fun hn => ?_⟩, fun p hp => ?_⟩
  · apply List.ext_getElem?
    intro k
    rw [List.getElem?_map]
    by_cases hk : k < n
    · have hp : ps[k]? = some (ps[k]'(by omega)) := List.getElem?_eq_getElem _
      rw [hp, (hps k _ hp).2.1]
      rfl
    · rw [List.getElem?_eq_none (by omega), List.getElem?_eq_none (by omega)]
      rfl
  · have hp : ps[0]? = some (ps[0]'(by omega)) := List.getElem?_eq_getElem _
    obtain ⟨_, _, _, g, o, e, hg, _⟩ := hps 0 _ hp
    refine ⟨_, e, hg, fun j u hu => ?_⟩
    obtain ⟨k, q, hq, hj⟩ := cellsV_at hu
    obtain ⟨_, _, _, g', o', e', _, c0, c1⟩ := hps k q hq
    rw [e] at e'
    cases e'
    rw [addr_add]
    rcases hj with ⟨rfl, rfl⟩ | ⟨rfl, rfl⟩
    · exact c0
    · exact c1
  · obtain ⟨k, hk⟩ := List.getElem?_of_mem hp
    exact (hps k p hk).2.2.1
theorem RB.of_own {K : Nat → Prop} {w : World} {base n : Nat} {v : Value} {ps : List BV} (h : w.ownsRow base 72 2 v n (cellsV ps)) (hn : ps.length = n) (h16 : n ≤ 16) (hp : ∀ p ∈ ps, PV K w p) (hk : ∀ i, v.ownBlock = some i → K i) :
    ∃ A cap, v = .slice A n cap ∧ RB K w A n (ps.map (·.1)) := by
  have hown := h
  obtain ⟨hl, ⟨rfl, rfl⟩ | ⟨g, cap, cur, rfl, hb, hh, h1, h2, h3, h4⟩⟩ := h
  · refine ⟨none, 0, rfl, by rw [List.length_map, hn], h16, fun i hi => hi.none_.elim, fun k b hb => ?_⟩
    have : ps = [] := List.eq_nil_of_length_eq_zero hn
    subst this
    simp at hb
  · refine ⟨_, cap, rfl, by rw [List.length_map, hn], h16, fun i ⟨o, e⟩ => by cases e; exact hk g rfl, fun k b hb => ?_⟩
    rw [List.getElem?_map, Option.map_eq_some_iff] at hb
    obtain ⟨p, hp1, rfl⟩ := hb
    obtain ⟨c0, c1⟩ := cellsV_get ps k p hp1
    have d0 := hown.cells (g := g) rfl _ _ c0
    have d1 := hown.cells (g := g) rfl _ _ c1
    rw [addr_add, Nat.zero_add] at d0 d1
    obtain ⟨B, capB, e, hr, hkB⟩ := hp p (List.mem_of_getElem? hp1)
    rw [e] at d1
    exact ⟨g, 0, B, capB, rfl, by rw [Nat.zero_add]; exact d0, by rw [Nat.zero_add]; exact d1, World.block_lt_of_cell? _ _ d0, hr, hkB⟩
theorem own_empty72 (w : World) : (w.alloc (.cells #[] 72)).ownsRow w.heap.size 72 2 (.slice (some ⟨w.heap.size, 0, none⟩) 0 0) 0 [] := World.ownsRow_lit w #[] 0 (Nat.le_refl _) (Nat.zero_le _) rfl
theorem cellsV_one {K : Nat → Prop} {w : World} {ps : List BV} (h : ∀ p ∈ ps, PV K w p) : ∀ u ∈ cellsV ps, u.oneCell' = true := by
  intro u hu
  obtain ⟨e, he, hu⟩ := List.mem_flatMap.1 hu
  simp at hu
  rcases hu with rfl | rfl
  · rfl
  · exact (h e he).one

theorem with_mid {w W3 w4 : World} {c n cap cap' g' : Nat} {A : Option Addr} {x0 x1 y0 y1 : Value} {ps : List BV} (hs3 : Same w W3)
    (b0 : Blk W3 w.heap.size 45 #[.int .i64 c, .slice A n cap]) (b1 : Blk W3 (w.heap.size + 1) 72 #[x0, x1]) (b2 : Blk W3 (w.heap.size + 1 + 1) 45 #[y0, y1]) (hz : W3.heap.size = w.heap.size + 1 + 1 + 1)
    (hown : w4.ownsRow (w.heap.size + 1 + 1 + 1) 72 2 (.slice (some ⟨g', 0, none⟩) (0 + n) cap') (0 + n) ([] ++ cellsV ps)) (hgr : (W3.alloc (.cells #[] 72)).grownBy w4 (some (w.heap.size + 1 + 1 + 1))) :
    Same w w4 ∧ Blk w4 w.heap.size 45 #[.int .i64 c, .slice A n cap] ∧ Blk w4 (w.heap.size + 1) 72 #[x0, x1] ∧ Blk w4 (w.heap.size + 1 + 1) 45 #[y0, y1] ∧ w4.ownsRow (w.heap.size + 1 + 1 + 1) 72 2 (.slice (some ⟨g', 0, none⟩) n cap') n (cellsV ps) ∧ w.heap.size + 1 + 1 + 1 ≤ g' := by
  have f := Fr.of_grown hgr
  rw [Nat.zero_add, List.nil_append] at hown
  refine ⟨same_grown (Fr.alloc hs3 _) hgr (fun g e => by cases e; omega), (b0.alloc _).fr f (by omega), (b1.alloc _).fr f (by omega), (b2.alloc _).fr f (by omega), hown, own_base hown rfl⟩
theorem with_set {w w4 : World} {c n cap cap' g' : Nat} {A : Option Addr} {x0 x1 y0 y1 : Value} {ps : List BV} (hs3 : Same w w4)
    (b0 : Blk w4 w.heap.size 45 #[.int .i64 c, .slice A n cap]) (b1 : Blk w4 (w.heap.size + 1) 72 #[x0, x1]) (b2 : Blk w4 (w.heap.size + 1 + 1) 45 #[y0, y1])
    (hown : w4.ownsRow (w.heap.size + 1 + 1 + 1) 72 2 (.slice (some ⟨g', 0, none⟩) n cap') n (cellsV ps)) (hg : w.heap.size + 1 + 1 + 1 ≤ g') (u : Value) :
    Same w (w4.setCell ⟨w.heap.size, 1, none⟩ u) ∧ Blk (w4.setCell ⟨w.heap.size, 1, none⟩ u) w.heap.size 45 #[.int .i64 c, u] ∧ Blk (w4.setCell ⟨w.heap.size, 1, none⟩ u) (w.heap.size + 1) 72 #[x0, x1] ∧ Blk (w4.setCell ⟨w.heap.size, 1, none⟩ u) (w.heap.size + 1 + 1) 45 #[y0, y1] ∧
      (w4.setCell ⟨w.heap.size, 1, none⟩ u).ownsRow (w.heap.size + 1 + 1 + 1) 72 2 (.slice (some ⟨g', 0, none⟩) n cap') n (cellsV ps) := by
  have f : Fr (fun i => i = w.heap.size) w4 (w4.setCell ⟨w.heap.size, 1, none⟩ u) := (Fr.refl _ _).setCell _ _ (.inl rfl)
  refine ⟨Fr.setCell hs3 _ _ (.inr (Nat.le_refl _)), b0.set_ 1 u, b1.fr f (by omega), b2.fr f (by omega), own_fr hown f (fun i hi => ?_)⟩
  have : g' = i := by simpa [Value.ownBlock] using hi
  omega
theorem with_put {w w5 : World} {n cap' g' i : Nat} {b : Bin} {v : Value} {ps : List BV} (hs : Same w w5) 
    (hown : w5.ownsRow (w.heap.size + 1 + 1 + 1) 72 2 (.slice (some ⟨g', 0, none⟩) n cap') n (cellsV ps)) (hg : w.heap.size + 1 + 1 + 1 ≤ g') :
    Same w ((w5.setCell ⟨g', i * 2, none⟩ (.string b.key)).setCell ⟨g', i * 2 + 1, none⟩ v) ∧ ((w5.setCell ⟨g', i * 2, none⟩ (.string b.key)).setCell ⟨g', i * 2 + 1, none⟩ v).ownsRow (w.heap.size + 1 + 1 + 1) 72 2 (.slice (some ⟨g', 0, none⟩) n cap') n (cellsV (ps.set i (b, v))) ∧
      Fr (fun i => i = g') w5 ((w5.setCell ⟨g', i * 2, none⟩ (.string b.key)).setCell ⟨g', i * 2 + 1, none⟩ v) := by
  refine ⟨Fr.setCell (Fr.setCell hs _ _ (.inr (by show _ ≤ g'; omega))) _ _ (.inr (by show _ ≤ g'; omega)), ?_, Fr.setCell (Fr.setCell (Fr.refl (fun i => i = g') w5) ⟨g', i * 2, none⟩ _ (.inl rfl)) ⟨g', i * 2 + 1, none⟩ _ (.inl rfl)⟩
  have := ((hown.stored (i * 2) (.string b.key)).1.stored (i * 2 + 1) v).1
  rw [cellsV_set] at this
  exact this

/-- How with ends. -/
def WithE (w : World) (K : Nat → Prop) (c n : Nat) (bs : Bins) (e : Ending) (w' : World) : Prop :=
  ∃ A cap, e = .returned (rv c A n cap) ∧ Same w w' ∧ RB (fun i => K i ∨ (w.heap.size ≤ i ∧ i < w'.heap.size)) w' A n bs

set_option maxRecDepth 100000 in
set_option maxHeartbeats 1000000 in
theorem with_any (K : Nat → Prop) (c : Nat) (A : Option Addr) (n cap i : Nat) (bs : Bins) (k : Bs) (B : Option Addr) (ys : List Bs) (capB : Nat) (w : World) (h : RB K w A n bs) (hi : i < n) (hB : RS w B ys.length ys) (kB : ∀ i, InA B i → K i) :
    Calls Try.prog 31 #[rv c A n cap, .int .i64 i, .agg #[.string k, .slice B ys.length capB]] w (WithE w K c n (bs.set i ⟨k, ys⟩)) := by
  obtain ⟨i0, hi0, hz0, hz1, hz2⟩ := info_parts info72
  have hn := h.2.1
  have hn2 : (n : Int) ≤ 16 := by omega
  have hi2 : (i : Int) < (n : Int) := by omega
  obtain ⟨ps, hps, hrd, hpv⟩ := h.pairs
  have hpl : ps.length = n := by rw [← h.1, ← hps, List.length_map]
  unfold rv
  have hs3 : Same w (((w.alloc (.cells #[.int .i64 c, .slice A n cap] 45)).alloc (.cells #[.string k, .slice B ys.length capB] 72)).alloc (.cells #[.int .i64 0, .slice none 0 0] 45)) := (((Fr.refl _ _).alloc _).alloc _).alloc _
  have b0 := ((Blk.new w 45 #[.int .i64 c, .slice A n cap]).alloc (.cells #[.string k, .slice B ys.length capB] 72)).alloc (.cells #[.int .i64 0, .slice none 0 0] 45)
  have b1 := (Blk.new (w.alloc (.cells #[.int .i64 c, .slice A n cap] 45)) 72 #[.string k, .slice B ys.length capB]).alloc (.cells #[.int .i64 0, .slice none 0 0] 45)
  have b2 := Blk.new ((w.alloc (.cells #[.int .i64 c, .slice A n cap] 45)).alloc (.cells #[.string k, .slice B ys.length capB] 72)) 45 #[.int .i64 0, .slice none 0 0]
  simp only [World.size_alloc] at b1 b2
  have HRD : Hid (Reads (((w.alloc (.cells #[.int .i64 c, .slice A n cap] 45)).alloc (.cells #[.string k, .slice B ys.length capB] 72)).alloc (.cells #[.int .i64 0, .slice none 0 0] 45)) w.heap.size 2 A n (cellsV ps)) := ((hrd.alloc (Nat.le_refl _) _).alloc (by simp) _).alloc (by simp; omega) _
  have HPV := Lib.hid hpv
  have HPS := Lib.hid hps
  have HB := Lib.hid hB
  have HKB := Lib.hid kB
  clear h hrd hpv hps hB kB
  have one := Lib.hid (cellsV_one HPV.out)
  have OE : Hid (((((w.alloc (.cells #[.int .i64 c, .slice A n cap] 45)).alloc (.cells #[.string k, .slice B ys.length capB] 72)).alloc (.cells #[.int .i64 0, .slice none 0 0] 45)).alloc (.cells #[] 72)).ownsRow (w.heap.size + 1 + 1 + 1) 72 2 (.slice (some ⟨w.heap.size + 1 + 1 + 1, 0, none⟩) 0 0) 0 []) := by
    have := own_empty72 (((w.alloc (.cells #[.int .i64 c, .slice A n cap] 45)).alloc (.cells #[.string k, .slice B ys.length capB] 72)).alloc (.cells #[.int .i64 0, .slice none 0 0] 45))
    unfold Hid; simpa using this
  generalize hW3 : ((w.alloc (.cells #[.int .i64 c, .slice A n cap] 45)).alloc (.cells #[.string k, .slice B ys.length capB] 72)).alloc (.cells #[.int .i64 0, .slice none 0 0] 45) = W3 at hs3 b0 b1 b2 HRD OE
  have hz3 : W3.heap.size = w.heap.size + 1 + 1 + 1 := by rw [← hW3]; simp
  have HW3 := Lib.hid hW3
  have HZ3 := Lib.hid hz3
  clear hW3 hz3
  go_enter Try.func31, Try.ntmps31
  go_upto_region 1 with fail
  rw [HW3.out]
  have d1 := b0.cell 1
  simp at d1
  have l3 : w.heap.size < W3.heap.size := by have := HZ3.out; omega
  go_upto_region 2 with ((at_builtin; refine wpList_append_any _ rfl _ _ 43 rfl (w.heap.size + 1 + 1 + 1) 72 i0 _ 2 40 Try.underlying43 hi0 hz0 hz1 hz2 rfl (by decide) (.slice (some ⟨w.heap.size + 1 + 1 + 1, 0, none⟩) 0 0) 0 [] (by simp [Act.eval, HZ3.out]) OE.out w.heap.size A n cap (cellsV ps) rfl (HRD.out.alloc (by have := HZ3.out; omega) _) one.out (by unfold maxLen; omega) (by omega) (by have := HZ3.out; simp; omega) ?_; intro v' w4 hown hgr hat; obtain ⟨g', cap', rfl, _, _⟩ := hown.form (by omega); obtain ⟨hs4, k0, k1, k2, hown4, hg'⟩ := with_mid hs3 b0 b1 b2 HZ3.out hown hgr; have x1 := k0.cell 1; have x2 := k0.frozen 1; simp at x1; clear hown hgr hat b0 b1 b2 hs3; have HOWN := Lib.hid hown4; clear hown4; rw [Nat.zero_add]))
  obtain ⟨hs5, m0, m1, m2, hown5⟩ := with_set hs4 k0 k1 k2 HOWN.out hg' (.slice (some ⟨g', 0, none⟩) n cap')
  have hpv5 : ∀ p ∈ ps, PV K (w4.setCell ⟨w.heap.size, 1, none⟩ (.slice (some ⟨g', 0, none⟩) n cap')) p := fun p hp => (HPV.out p hp).fr hs5 (fun _ _ x => x)
  generalize w4.setCell ⟨w.heap.size, 1, none⟩ (.slice (some ⟨g', 0, none⟩) n cap') = W5 at hs5 m0 m1 m2 hown5 hpv5
  clear x1 x2 k0 k1 k2 hs4 HOWN d1 l3 HRD OE HW3 HZ3
  have q0 := m0.cell 1
  have q1 := m1.cell 0
  have q2 := m1.cell 1
  simp at q0 q1 q2
  obtain ⟨p0, hp0⟩ : ∃ p, ps[i]? = some p := ⟨ps[i]'(by omega), List.getElem?_eq_getElem _⟩
  have q3 := hown5.cells (g := g') rfl _ _ (cellsV_get ps i p0 hp0).1
  have q4 := hown5.cells (g := g') rfl _ _ (cellsV_get ps i p0 hp0).2
  rw [addr_add, Nat.zero_add] at q3 q4
  have q5 := hown5.frozenAt (i * 2)
  have q6 := hown5.frozenAt (i * 2 + 1)
  have HOWN := Lib.hid hown5
  have HPV5 := Lib.hid hpv5
  have HP0 := Lib.hid hp0
  clear hown5 hpv5 hp0
  go_upto_region 3 with fail
  obtain ⟨hs6, hown6, f6⟩ := with_put (i := i) (b := ⟨k, ys⟩) (v := .slice B ys.length capB) hs5 HOWN.out hg'
  simp only at hs6 hown6 f6
  have hpv6 : ∀ p ∈ ps.set i (⟨k, ys⟩, .slice B ys.length capB), PV K ((W5.setCell ⟨g', i * 2, none⟩ (.string k)).setCell ⟨g', i * 2 + 1, none⟩ (.slice B ys.length capB)) p := by
    intro p hp
    rcases List.mem_or_eq_of_mem_set hp with hp | rfl
    · exact (HPV.out p hp).fr hs6 (fun _ _ x => x)
    · exact ⟨B, capB, rfl, HB.out.fr hs6 (fun _ _ x => x), HKB.out⟩
  have n0 := m0.fr f6 (by omega)
  have n2 := m2.fr f6 (by omega)
  generalize (W5.setCell ⟨g', i * 2, none⟩ (.string k)).setCell ⟨g', i * 2 + 1, none⟩ (.slice B ys.length capB) = W6 at hs6 hown6 f6 n0 n2 hpv6
  clear q0 q1 q2 q3 q4 q5 q6 m0 m1 m2 hs5 HOWN HPV5 f6
  have r0 := n0.cell 0
  have r1 := n0.cell 1
  have r2 := n2.cell 0
  have r3 := n2.cell 1
  have r4 := n2.frozen 0
  have r5 := n2.frozen 1
  simp at r0 r1 r2 r3
  have HOWN := Lib.hid hown6
  have HPV6 := Lib.hid hpv6
  have HS := Lib.hid hs6
  have N2 := Lib.hid n2
  clear hown6 hpv6 n0 n2 hs6
  go_wp2
  have f7 : Fr (fun i => i = w.heap.size + 1 + 1) W6 ((W6.setCell ⟨w.heap.size + 1 + 1, 0, none⟩ (.int .i64 c)).setCell ⟨w.heap.size + 1 + 1, 1, none⟩ (.slice (some ⟨g', 0, none⟩) n cap')) :=
    Fr.setCell (Fr.setCell (Fr.refl (fun i => i = w.heap.size + 1 + 1) W6) ⟨w.heap.size + 1 + 1, 0, none⟩ _ (.inl rfl)) ⟨w.heap.size + 1 + 1, 1, none⟩ _ (.inl rfl)
  have f8 : Same w ((W6.setCell ⟨w.heap.size + 1 + 1, 0, none⟩ (.int .i64 c)).setCell ⟨w.heap.size + 1 + 1, 1, none⟩ (.slice (some ⟨g', 0, none⟩) n cap')) :=
    fr_trans2 HS.out f7 (fun i hi e => by omega)
  have n7 := (N2.out.set_ 0 (.int .i64 c)).set_ 1 (.slice (some ⟨g', 0, none⟩) n cap')
  generalize (W6.setCell ⟨w.heap.size + 1 + 1, 0, none⟩ (.int .i64 c)).setCell ⟨w.heap.size + 1 + 1, 1, none⟩ (.slice (some ⟨g', 0, none⟩) n cap') = W7 at f7 f8 n7
  have z0 := n7.cell 0
  have z1 := n7.cell 1
  simp at z0 z1
  refine bodyPost_ret (v := rv c (some ⟨g', 0, none⟩) n cap') (by simp [results, Try.results31, go_sem, rv, z0, z1]) rfl ⟨some ⟨g', 0, none⟩, cap', rfl, f8, ?_⟩
  have ho := own_fr HOWN.out f7 (fun i hi => by
    have : g' = i := by simpa [Value.ownBlock] using hi
    omega)
  have hlt := (own_lt ho (i := g') rfl).2
  obtain ⟨A', cap2, e, hR⟩ := RB.of_own (K := fun i => K i ∨ (w.heap.size ≤ i ∧ i < W7.heap.size)) ho (by rw [List.length_set]; exact hpl) hn (fun p hp => by
    rcases List.mem_or_eq_of_mem_set hp with hp | rfl
    · exact ((HPV.out p hp).fr f8 (fun _ _ x => x)).mono fun i hi => .inl hi
    · exact ⟨B, capB, rfl, HB.out.fr f8 (fun _ _ x => x), fun i hi => .inl (HKB.out i hi)⟩) (fun i hi => by
    have : g' = i := by simpa [Value.ownBlock] using hi
    subst this
    exact .inr ⟨by omega, hlt⟩)
  cases e
  rw [List.map_set, HPS.out] at hR
  exact hR

end Go.Proofs.Yteokognbnilkmaa
