/-
  The walk of Take.
-/
import Derived.Test.YteokognbnilkmaaWalkb
namespace Go.Proofs.Yteokognbnilkmaa
open Go.RowKit

theorem MG.clear {V : Type} {vf : V → Value} {P : Program} {w : World} {t k e : TypeId} {r : Nat} {l : List (ByteArray × V)} (h : MG vf w r l) (ht : P.underlying t = some (.map k e)) (ty : TypeId) :
    ∃ w', (Builtin.clear_ #[t] ty #[.map (some r)]).run P w = .ok (.tuple #[]) w' ∧ MG vf w' r [] ∧ Fr (fun i => i = r) w w' := by
  have hlt := h.lt
  obtain ⟨es, c, hm, hl, hn⟩ := h
  unfold Mp at hm
  refine ⟨{ w with heap := w.heap.setIfInBounds r (.map #[] c) }, ?_, ⟨#[], c, by simp [Mp, hlt], rfl, by simp⟩, fr_set _⟩
  simp [Builtin.clear_, run_underlying ht, getObj, setObj, Sem.run, hm]
theorem wpList_clear_MG {V : Type} {vf : V → Value} {P : Program} {w : World} {t k e : TypeId} {r : Nat} {l : List (ByteArray × V)} {ops : Array Oper} {rest : List Oper} {o : Oper} {a : Act} {Q : Exit → Act → World → Prop}
    (hg : o.guard = none) (m : Operand) (hop : o.op = Op.call { callee := .builtin .clear, args := #[m], argTypes := #[t] }) (ht : P.underlying t = some (.map k e))
    (he : a.eval m = .map (some r)) (hm : MG vf w r l)
    (hK : ∀ w', MG vf w' r ([] : List (ByteArray × V)) → Fr (fun i => i = r) w w' → wpList P ops Q rest (a.put o.dst (.tuple #[])) w') : wpList P ops Q (o :: rest) a w := by
  refine wpList_plain hg fun K hK' => ?_
  obtain ⟨w', hrun, r1, r4⟩ := hm.clear ht o.type
  unfold Oper.wp
  simp [execOp, hop, resolve, invoke, builtin, he, hrun, Result.andThen]
  exact hK' _ _ (hK w' r1 r4)

theorem set_at {ls : List Cl} {k i : Nat} {y z : Cl} (h : (ls.set k y)[i]? = some z) : (k = i ∧ z = y) ∨ (k ≠ i ∧ ls[i]? = some z) := by
  by_cases e : k = i
  · subst e
    left
    have hk : k < ls.length := by have := (List.getElem?_eq_some_iff.1 h).1; simpa using this
    rw [List.getElem?_set_self hk] at h
    exact ⟨rfl, (Option.some.inj h).symm⟩
  · right
    rw [List.getElem?_set_ne e] at h
    exact ⟨e, h⟩
/-- A sorter with one bin turned. -/
theorem IsSo.turn {w w' : World} {g b c k : Nat} {ls : List Cl} {x y : Cl} {S : Nat → Prop} (h : IsSo w g b ls c) (hx : ls[k]? = some x) (hf : Fr S w w') (hS : ∀ i, S i → i = b ∨ x.In i) (ha : Blk w' b 64 (cells3 (ls.set k y)).toArray) (hy : IsCl w' y)
    (hin : ∀ i, y.In i → x.In i ∨ w.heap.size ≤ i) (ok : BOk c ((ls.set k y).map Cl.bin)) : IsSo w' g b (ls.set k y) c := by
  have hk := (List.getElem?_eq_some_iff.1 hx).1
  have hgb := h.gb
  have hxg : ¬ x.In g := (h.cl k x hx).ne h.blk (by decide)
  have hxb : ¬ x.In b := (h.cl k x hx).ne h.arr (by decide)
  refine ⟨?_, ha, fun i z hz => ?_, fun i j z u a hz hu h1 h2 => ?_, ok⟩
  · rw [List.length_set]
    exact h.blk.fr hf (fun hs => (hS g hs).elim hgb hxg)
  · rcases set_at hz with ⟨_, rfl⟩ | ⟨hne, hz⟩
    · exact hy
    · refine (h.cl i z hz).fr hf (fun a ha' hs => ?_)
      rcases hS a hs with e | e
      · subst e; exact (h.cl i z hz).ne h.arr (by decide) ha'
      · exact hne (h.sep k i x z a hx hz e ha')
  · rcases set_at hz with ⟨e1, rfl⟩ | ⟨e1, hz2⟩
    · rcases set_at hu with ⟨e2, _⟩ | ⟨e2, hu⟩
      · omega
      · rcases hin a h1 with h3 | h3
        · exact absurd (h.sep k j x u a hx hu h3 h2) e2
        · have := (h.cl j u hu).lt h2; omega
    · rcases set_at hu with ⟨e2, rfl⟩ | ⟨e2, hu⟩
      · rcases hin a h2 with h3 | h3
        · exact absurd (h.sep k i x z a hx hz2 h3 h1) e1
        · have := (h.cl i z hz2).lt h1; omega
      · exact h.sep i j z u a hz2 hu h1 h2

/-- How Take ends. -/
def TakeE (g b c : Nat) (ls : List Cl) (w : World) (y : Bins × Bs × List Bs × Int) (e : Ending) (w' : World) : Prop :=
  ∃ v ls', e = .returned (.tuple #[.string y.2.1, v, .int .i64 y.2.2.2]) ∧ w'.ownsRow 0 9 1 v y.2.2.1.length (cellsS y.2.2.1) ∧ IsSo w' g b ls' c ∧ ls'.map Cl.bin = y.1 ∧ Fr (Own g b ls) w w' ∧ (∀ i, Own g b ls' i → Own g b ls i ∨ w.heap.size ≤ i) ∧
    (∀ i, v.ownBlock = some i → Own g b ls i ∧ ¬ Own g b ls' i)
theorem take_same {g b c : Nat} {ls : List Cl} {w : World} (h : IsSo w g b ls c) (n : Int) : TakeE g b c ls w (ls.map Cl.bin, nul, [], n) (.returned (.tuple #[.string nul, .slice none 0 0, .int .i64 n])) w :=
  ⟨_, ls, rfl, ⟨rfl, .inl ⟨rfl, rfl⟩⟩, h, rfl, Fr.refl _ _, fun i hi => .inl hi, fun i hi => by simp [Value.ownBlock] at hi⟩

theorem set_modify {ls : List Cl} {k : Nat} {x : Cl} (hx : ls[k]? = some x) (f : Cl → Cl) : ls.modify k f = ls.set k (f x) := by
  apply List.ext_getElem?
  intro j
  rw [List.getElem?_modify, List.getElem?_set]
  obtain ⟨hk, hg⟩ := List.getElem?_eq_some_iff.1 hx
  by_cases e : k = j
  · subst e; simp [hk, hg]
  · simp [e]
theorem map_set (ls : List Cl) (k : Nat) (y : Cl) : (ls.set k y).map Cl.bin = (ls.map Cl.bin).set k y.bin := by rw [List.map_set]

theorem take_end {w w1 w2 : World} {g b c k r m : Nat} {ls : List Cl} {x : Cl} (h : IsSo w g b ls c) (hx : ls[k]? = some x) (hm : x.m = .map (some r)) (e1 : w1 = ((w.drewN m).setCell ⟨b, k * 3, none⟩ (.string nul)).setCell ⟨b, k * 3 + 1, none⟩ (.slice none 0 0))
    (hg : MG Value.bool w2 r []) (hf : Fr (fun i => i = r) w1 w2) : TakeE g b c ls w ((ls.map Cl.bin).set k ⟨nul, []⟩, x.key, x.items, 0) (.returned (.tuple #[.string x.key, x.v, .int .i64 0])) w2 := by
  have hk := (List.getElem?_eq_some_iff.1 hx).1
  have hcl := h.cl k x hx
  have hb : ¬ x.In b := hcl.ne h.arr (by decide)
  have hrb : b ≠ r := fun e => hb (.inl (by rw [hm, e]))
  have f01 : Fr (fun i => i = b) w w1 := by
    rw [e1]
    exact (((Fr.refl (fun i => i = b) w).drewN m).setCell _ _ (.inl rfl)).setCell _ _ (.inl rfl)
  have a1 : Blk w1 b 64 (cells3 (ls.set k ⟨nul, x.items, .slice none 0 0, x.m⟩)).toArray := by
    rw [e1]
    have := arr_set1 (arr_set0 ((h.drewN m).arr) k nul) k (.slice none 0 0)
    rw [set_modify hx, set_modify (x := { x with key := nul }) (by rw [List.getElem?_set]; simp [hk]), List.set_set] at this
    exact this
  have a2 : Blk w2 b 64 (cells3 (ls.set k ⟨nul, [], .slice none 0 0, x.m⟩)).toArray := by
    have := a1.fr hf hrb
    have e : cells3 (ls.set k ⟨nul, [], .slice none 0 0, x.m⟩) = cells3 (ls.set k ⟨nul, x.items, .slice none 0 0, x.m⟩) := by
      unfold cells3
      rw [List.flatMap_def, List.flatMap_def, List.map_set, List.map_set]
    rw [e]
    exact this
  have fw : Fr (fun i => i = b ∨ i = r) w w2 := (f01.mono fun i _ e => .inl e).trans (hf.mono fun i _ e => .inr e)
  have hy : IsCl w2 ⟨nul, [], .slice none 0 0, x.m⟩ := ⟨⟨rfl, .inl ⟨rfl, rfl⟩⟩, r, [], hm, hg, fun q => by simp [getG]⟩
  have hyin : ∀ i, Cl.In ⟨nul, [], .slice none 0 0, x.m⟩ i → x.In i := by
    rintro i (e | e)
    · exact .inl e
    · simp [Value.ownBlock] at e
  have hvr : x.v.ownBlock ≠ some r := by
    obtain ⟨r', l, e', ⟨es, c', hmp, _⟩, _⟩ := hcl.map
    rw [hm] at e'
    cases e'
    exact own_ne_map hcl.row hmp
  have hvb : x.v.ownBlock ≠ some b := fun e => hb (.inr e)
  have hS := h.turn (y := ⟨nul, [], .slice none 0 0, x.m⟩) hx fw (fun i hi => hi.imp id (fun e => .inl (by rw [hm, e]))) a2 hy (fun i hi => .inl (hyin i hi)) (by rw [map_set]; exact set_ok h.ok k)
  refine ⟨x.v, _, rfl, own_fr hcl.row fw (fun i hi e => ?_), hS, map_set _ _ _, fw.mono fun i _ e => ?_, fun i hi => .inl ?_, fun i hi => ⟨.inr (.inr ⟨k, x, hx, .inr hi⟩), ?_⟩⟩
  · rcases e with e | e
    · exact hvb (by rw [← e]; exact hi)
    · exact hvr (by rw [← e]; exact hi)
  · rcases e with e | e
    · exact .inr (.inl e)
    · exact .inr (.inr ⟨k, x, hx, .inl (by rw [hm, e])⟩)
  · rcases hi with e | e | ⟨j, z, hz, hi⟩
    · exact .inl e
    · exact .inr (.inl e)
    · rcases set_at hz with ⟨_, rfl⟩ | ⟨_, hz⟩
      · exact .inr (.inr ⟨k, x, hx, hyin i hi⟩)
      · exact .inr (.inr ⟨j, z, hz, hi⟩)
  · rintro (e | e | ⟨j, z, hz, hj⟩)
    · subst e; exact hcl.ne h.blk (by decide) (.inr hi)
    · subst e; exact hvb hi
    · rcases set_at hz with ⟨_, rfl⟩ | ⟨hne, hz⟩
      · rcases hj with e | e
        · rw [show (Cl.m ⟨nul, [], .slice none 0 0, x.m⟩) = x.m from rfl, hm] at e
          cases e
          exact hvr hi
        · simp [Value.ownBlock] at e
      · exact hne (h.sep k j x z i hx hz (.inr hi) hj)

set_option maxRecDepth 100000 in
set_option maxHeartbeats 1000000 in
theorem take_any (g b c : Nat) (ls : List Cl) (i : Int) (w : World) (h : IsSo w g b ls c) : Calls Try.prog 13 #[.pointer (some ⟨g, 0, none⟩), .int .i64 i] w (TakeE g b c ls w (sTake (ls.map Cl.bin) i)) := by
  have d0 := h.blk.cell 0
  simp at d0
  obtain ⟨hn, hn1⟩ := h.len
  have hlen : (ls.length : Int) ≤ 16 := by omega
  have hml : (ls.map Cl.bin).length = ls.length := List.length_map ..
  have H := Lib.hid h
  by_cases h0 : i < 0
  · have e : sTake (ls.map Cl.bin) i = (ls.map Cl.bin, nul, [], 9) := by unfold sTake; rw [if_pos (.inl h0)]
    rw [e]
    clear e h hml
    go_enter Try.func13, Try.ntmps13
    go_wp2
    refine bodyPost_ret (results_tmp3 rfl _ _ _) rfl ?_
    exact take_same H.out 9
  · by_cases h1 : (ls.length : Int) ≤ i
    · have e : sTake (ls.map Cl.bin) i = (ls.map Cl.bin, nul, [], 9) := by unfold sTake; rw [if_pos (.inr (by rw [hml]; exact h1))]
      rw [e]
      clear e h hml
      go_enter Try.func13, Try.ntmps13
      go_wp2
      refine bodyPost_ret (results_tmp3 rfl _ _ _) rfl ?_
      exact take_same H.out 9
    · obtain ⟨k, rfl⟩ : ∃ k : Nat, i = (k : Int) := ⟨i.toNat, by omega⟩
      have hlt : k < ls.length := by omega
      have hlt2 : (k : Int) < (ls.length : Int) := by omega
      obtain ⟨x, hx⟩ : ∃ x, ls[k]? = some x := ⟨ls[k], List.getElem?_eq_getElem hlt⟩
      obtain ⟨c0, c1, c2⟩ := arr_cells h.arr hx
      have f0 := h.arr.frozen (k * 3)
      have f1 := h.arr.frozen (k * 3 + 1)
      obtain ⟨A, cap, r, hv, hm⟩ := h.forms hx
      have hle := h.le hx
      have hc2 := h.ok.c2
      rw [hv] at c1
      rw [hm] at c2
      have hb : (ls.map Cl.bin)[k]? = some x.bin := by simp [hx]
      have e : sTake (ls.map Cl.bin) (k : Int) = if x.items = [] then (ls.map Cl.bin, nul, [], 18) else ((ls.map Cl.bin).set k ⟨nul, []⟩, x.key, x.items, 0) := by
        unfold sTake
        rw [if_neg (by rw [hml]; omega), Int.toNat_natCast, hb]
        rfl
      rw [e]
      clear e hb hml
      by_cases hi : x.items = []
      · have kz : ((x.items.length : Int) == 0) = true := by simp [hi]
        rw [if_pos hi]
        clear h hx hv hm hi
        go_enter Try.func13, Try.ntmps13
        go_wp2
        refine bodyPost_ret (results_tmp3 rfl _ _ _) rfl ?_
        exact take_same H.out 18
      · have kz : ((x.items.length : Int) == 0) = false := by
          have : 0 < x.items.length := List.length_pos_iff.2 hi
          simp
          omega
        rw [if_neg hi]
        obtain ⟨r', l, e', hmg, _⟩ := (h.cl k x hx).map
        rw [hm] at e'
        cases e'
        have hrb : r ≠ b := fun e => (h.cl k x hx).ne h.arr (by decide) (.inl (by rw [hm, e]))
        have HX := Lib.hid hx
        have HV := Lib.hid hv
        have HM := Lib.hid hm
        have HG : Hid (∀ m, MG Value.bool (((w.drewN m).setCell ⟨b, k * 3, none⟩ (.string nul)).setCell ⟨b, k * 3 + 1, none⟩ (.slice none 0 0)) r l) := fun m => hmg.fr ((((Fr.refl (fun i => i = b) w).drewN m).setCell _ _ (.inl rfl)).setCell _ _ (.inl rfl)) hrb
        clear h hx hv hm hi hmg hrb
        go_enter Try.func13, Try.ntmps13
        go_wp2
        go_quiet (fail)
        go_wp2_with ((with_reducible show wpList _ _ _ (⟨_, Op.call ⟨Callee.builtin Builtin.clear, _, _⟩, _, _, _, _⟩ :: _) _ _); refine wpList_clear_MG rfl _ rfl Try.underlying62 rfl (HG.out _) ?_; intro w3 hg3 hf3; have HE := Lib.hid (take_end H.out HX.out HM.out rfl hg3 hf3); clear hg3)
        refine bodyPost_ret (results_tmp3 rfl _ _ _) rfl ?_
        have := HE.out
        rw [HV.out] at this
        exact this

end Go.Proofs.Yteokognbnilkmaa
