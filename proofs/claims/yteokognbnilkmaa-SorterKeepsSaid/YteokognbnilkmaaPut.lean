/-
  The walk of Put.
-/
import Derived.Test.YteokognbnilkmaaWalkc
import Derived.Test.YteokognbnilkmaaSpread
import Derived.Deep.RegionLaw
import Derived.Deep.RegionHeld3
import Derived.Deep.DrawnRows
namespace Go.Proofs.Yteokognbnilkmaa
open Go.RowKit

theorem nul_eq (x : Bs) : (x.toList == nul.toList) = decide (x = nul) := by
  by_cases h : x = nul
  · rw [(Lib.bytes_beq_iff x nul).2 h]; simp [h]
  · rw [(Lib.bytes_beq_false_iff x nul).2 h]; simp [h]
theorem isEmpty_iff (x : Bs) : x.toList.isEmpty = decide (x = nul) := by
  rw [← nul_eq]
  have : nul.toList = [] := by decide +kernel
  rw [this]
  cases x.toList <;> rfl
theorem ne_of {x : Bs} (h : x ≠ nul) : x.toList.isEmpty = false := by rw [isEmpty_iff]; simp [h]
theorem eq_of {x : Bs} (h : x = nul) : x.toList.isEmpty = true := by rw [isEmpty_iff]; simp [h]

/-- How Put ends. -/
def PutE (g b c : Nat) (ls : List Cl) (w : World) (y : Bins × Nat × Int) (e : Ending) (w' : World) : Prop :=
  e = .returned (.tuple #[.int .i64 (y.2.1 : Nat), .int .i64 y.2.2]) ∧ ∃ ls', IsSo w' g b ls' c ∧ ls'.map Cl.bin = y.1 ∧ Fr (Own g b ls) w w' ∧ ∀ i, Own g b ls' i → Own g b ls i ∨ w.heap.size ≤ i
theorem put_same {g b c : Nat} {ls : List Cl} {w w' : World} (h : IsSo w g b ls c) (hs : Same w w') (n : Int) : PutE g b c ls w (ls.map Cl.bin, 0, n) (.returned (.tuple #[.int .i64 (0 : Nat), .int .i64 n])) w' :=
  ⟨rfl, ls, h.same hs, rfl, hs.to _, fun i hi => .inl hi⟩

theorem cell_fr {S : Nat → Prop} {w w' : World} {p : Addr} {v : Value} (hf : Fr S w w') (hn : ¬ S p.block) (h : w.cell? p = some v) : w'.cell? p = some v := by
  have hl := World.block_lt_of_cell? _ _ h
  rw [← h]
  unfold World.cell?
  rw [hf.block p.block hl hn]
theorem mg_ne {w : World} {x : Cl} {r : Nat} (h : IsCl w x) (hm : x.m = .map (some r)) : x.v.ownBlock ≠ some r := by
  obtain ⟨r', l, e', ⟨es, c', hmp, _⟩, _⟩ := h.map
  rw [hm] at e'
  cases e'
  exact own_ne_map h.row hmp
theorem undrew {w w' : World} {row : Option Nat} (h : w.drew.grownBy w' row) : w.grownBy w' row := ⟨h.os, h.tape, h.output, h.size, h.block⟩
section
variable {V : Type} {vf : V → Value} {P : Program} {w w' : World} {t k e : TypeId} {r : Nat} {l : List (ByteArray × V)}
theorem step_mapUpdate_MG {ops : Array Oper} {o : Oper} {a : Act} {K : Act → World → Prop} {Q : Exit → Act → World → Prop} {E : Prop}
    (hg : o.guard = none) (m x y : Operand) (hop : o.op = Op.mapUpdate t m x y) (ht : P.underlying t = some (.map k e)) (hk : P.underlying k = some .string) (p : ByteArray) (v : V)
    (he : a.eval m = .map (some r)) (hx : a.eval x = .string p) (hy : a.eval y = vf v) (hm : MG vf w r l)
    (hK : ∀ w' l', MG vf w' r l' → (∀ q, getG l' q = if q = p then some v else getG l q) → Fr (fun i => i = r) w w' → K (a.put o.dst undef) w') :
    if Region.wanted o (yielded ops a.tmps) = true then Oper.wp P o a w K Q else E := by
  have hw : Region.wanted o (yielded ops a.tmps) = true := by simp [Region.wanted, hg]
  rw [if_pos hw]
  obtain ⟨w', l', hrun, r1, r2, r4⟩ := hm.update ht hk p v
  unfold Oper.wp
  simp [execOp, hop, he, hx, hy, hrun, Result.andThen]
  exact hK w' l' r1 r2 r4
end

/-- The bin behind a Put. -/
theorem put_end {w V1 V2 V3 V4 : World} {g b c k r : Nat} {ls : List Cl} {x : Cl} {key item : Bs} {v' : Value} {l l' : List (Bs × Bool)} (h : IsSo w g b ls c) (hx : ls[k]? = some x) (hm : x.m = .map (some r)) (hlt : x.items.length < c)
    (a1 : Blk V1 b 64 (cells3 (ls.set k { x with key := key })).toArray) (f1 : Fr (fun i => i = b) w V1)
    (hown : V2.ownsRow 0 9 1 v' (x.items.length + 1) (cellsS x.items ++ [.string item])) (hgr : (V1.alloc (.cells #[.string item] 9)).grownBy V2 x.v.ownBlock) (hat : v'.ownBlock = x.v.ownBlock ∨ v'.ownBlock = some (V1.alloc (.cells #[.string item] 9)).heap.size)
    (f3 : Fr (fun i => i = b) V2 V3) (a3 : ∀ ls', Blk V2 b 64 (cells3 ls').toArray → Blk V3 b 64 (cells3 (ls'.modify k fun x => { x with v := v' })).toArray)
    (hg : MG Value.bool V4 r l') (hgl : ∀ q, getG l' q = if q = item then some true else getG l q) (hgl0 : ∀ q, getG l q = if q ∈ x.items then some true else none) (f4 : Fr (fun i => i = r) V3 V4) :
    PutE g b c ls w (putAt (ls.map Cl.bin) k key item, k, 0) (.returned (.tuple #[.int .i64 (k : Nat), .int .i64 0])) V4 := by
  have hk := (List.getElem?_eq_some_iff.1 hx).1
  have hcl := h.cl k x hx
  have hb : ¬ x.In b := hcl.ne h.arr (by decide)
  have hrb : b ≠ r := fun e => hb (.inl (by rw [hm, e]))
  have hz1 := f1.size
  have hza : (V1.alloc (.cells #[.string item] 9)).heap.size = V1.heap.size + 1 := by simp
  have hz2 := hgr.size
  have f2 : Fr (fun i => x.v.ownBlock = some i) V1 V2 := ((Fr.refl _ _).alloc _).trans (Fr.of_row hgr)
  have a2 := a1.fr f2 (fun e => hb (.inr e))
  have a3' := a3 _ a2
  rw [set_modify (x := { x with key := key }) (by rw [List.getElem?_set]; simp [hk]), List.set_set] at a3'
  have hv'b : v'.ownBlock ≠ some b := own_ne hown a2 (by decide)
  have hvr : v'.ownBlock ≠ some r := by
    rcases hat with e | e
    · rw [e]
      obtain ⟨r', l, e', ⟨es, c', hmp, _⟩, _⟩ := hcl.map
      rw [hm] at e'
      cases e'
      exact own_ne_map hcl.row hmp
    · rw [e, hza]
      intro e2
      simp only [Option.some.injEq] at e2
      have := hcl.lt (.inl hm)
      omega
  have a4 : Blk V4 b 64 (cells3 (ls.set k ⟨key, x.items ++ [item], v', x.m⟩)).toArray := by
    have := a3'.fr f4 hrb
    have e : cells3 (ls.set k ⟨key, x.items ++ [item], v', x.m⟩) = cells3 (ls.set k ⟨key, x.items, v', x.m⟩) := by
      unfold cells3
      rw [List.flatMap_def, List.flatMap_def, List.map_set, List.map_set]
    rw [e]
    exact this
  have hrow : V4.ownsRow 0 9 1 v' (x.items ++ [item]).length (cellsS (x.items ++ [item])) := by
    have h1 : V2.ownsRow 0 9 1 v' (x.items ++ [item]).length (cellsS (x.items ++ [item])) := by simpa [cellsS] using hown
    exact own_fr (own_fr h1 f3 (fun i hi e => hv'b (by rw [← e]; exact hi))) f4 (fun i hi e => hvr (by rw [← e]; exact hi))
  have hy : IsCl V4 ⟨key, x.items ++ [item], v', x.m⟩ := ⟨hrow, r, l', hm, hg, fun q => by
    rw [hgl q, hgl0 q]
    by_cases e : q = item
    · simp [e]
    · simp [e]⟩
  have fw : Fr (fun i => i = b ∨ x.In i) w V4 := by
    refine fr_trans2 (fr_trans2 (fr_trans2 (f1.mono fun i _ e => .inl e) f2 (fun i _ e => .inr (.inr e))) f3 (fun i _ e => .inl e)) f4 (fun i _ e => .inr (.inl (by rw [hm, e])))
  have hin : ∀ i, Cl.In ⟨key, x.items ++ [item], v', x.m⟩ i → x.In i ∨ w.heap.size ≤ i := by
    rintro i (e | e)
    · exact .inl (.inl e)
    · rcases hat with e2 | e2
      · exact .inl (.inr (by rw [← e2]; exact e))
      · have e3 : v'.ownBlock = some i := e
        rw [e2, hza] at e3
        simp only [Option.some.injEq] at e3
        right
        omega
  have hbins : (ls.set k ⟨key, x.items ++ [item], v', x.m⟩).map Cl.bin = putAt (ls.map Cl.bin) k key item := by
    rw [map_set]
    unfold putAt
    apply List.ext_getElem?
    intro j
    rw [List.getElem?_modify, List.getElem?_set]
    obtain ⟨hk2, hg2⟩ := List.getElem?_eq_some_iff.1 hx
    by_cases e : k = j
    · subst e; simp [hk2, hg2, Cl.bin]
    · simp [e]
  have hS := h.turn (y := ⟨key, x.items ++ [item], v', x.m⟩) hx fw (fun i hi => hi) a4 hy hin (by rw [hbins]; exact putAt_ok h.ok (h.bin hx) hlt key item)
  refine ⟨rfl, _, hS, hbins, fw.mono fun i _ e => ?_, fun i hi => ?_⟩
  · rcases e with e | e
    · exact .inr (.inl e)
    · exact .inr (.inr ⟨k, x, hx, e⟩)
  · rcases hi with e | e | ⟨j, z, hz, hi⟩
    · exact .inl (.inl e)
    · exact .inl (.inr (.inl e))
    · rcases set_at hz with ⟨_, rfl⟩ | ⟨_, hz⟩
      · rcases hin i hi with e | e
        · exact .inl (.inr (.inr ⟨k, x, hx, e⟩))
        · exact .inr e
      · exact .inl (.inr (.inr ⟨j, z, hz, hi⟩))
theorem PutE.base {g b c : Nat} {ls : List Cl} {w V V' : World} {y : Bins × Nat × Int} {e : Ending} (h : PutE g b c ls V y e V') (hs : Same w V) : PutE g b c ls w y e V' := by
  obtain ⟨h1, ls', h2, h3, h4, h5⟩ := h
  have hz := hs.size
  exact ⟨h1, ls', h2, h3, (hs.to _).trans h4, fun i hi => (h5 i hi).imp id (fun e => by omega)⟩

set_option maxRecDepth 100000 in
set_option maxHeartbeats 4000000 in
theorem put_any (g b c : Nat) (ls : List Cl) (key item : Bs) (w : World) (h : IsSo w g b ls c) : Calls Try.prog 12 #[.pointer (some ⟨g, 0, none⟩), .string key, .string item] w (PutE g b c ls w (sPut c (ls.map Cl.bin) key item)) := by
  obtain ⟨i0, hi0, hz0, hz1, hz2⟩ := info_parts info9
  have hmf : ∀ (fn : Fn) (first cap : Array Value) (w : World), (Instr.makeFunc fn first cap).run Try.prog w = .ok (.func fn first cap) w := fun _ _ _ _ => rfl
  have d0 := h.blk.cell 0
  simp at d0
  obtain ⟨hn, hn1⟩ := h.len
  have hc2 := h.ok.c2
  have hlen : (ls.length : Int) ≤ 16 := by omega
  have H := Lib.hid h
  have HS : Hid (Same w (((w.alloc (.cells #[.pointer (some ⟨g, 0, none⟩)] 27)).alloc (.cells #[.string key] 9)).alloc (.cells #[.string item] 9))) := (((Fr.refl _ w).alloc _).alloc _).alloc _
  by_cases hk : key = nul
  · have e : sPut c (ls.map Cl.bin) key item = (ls.map Cl.bin, 0, 6) := by unfold sPut; rw [if_pos (.inl hk)]
    rw [e]
    have kk := eq_of hk
    clear e h hk
    go_enter Try.func12, Try.ntmps12
    go_wp2
    refine bodyPost_ret (results_tmp2 rfl _ _ _) rfl ?_
    exact put_same H.out HS.out 6
  · have kk := ne_of hk
    by_cases hi : item = nul
    · have e : sPut c (ls.map Cl.bin) key item = (ls.map Cl.bin, 0, 6) := by unfold sPut; rw [if_pos (.inr hi)]
      rw [e]
      have ki := eq_of hi
      clear e h hk hi
      go_enter Try.func12, Try.ntmps12
      go_wp2
      refine bodyPost_ret (results_tmp2 rfl _ _ _) rfl ?_
      exact put_same H.out HS.out 6
    · have ki := ne_of hi
      have hno : ¬ (key = nul ∨ item = nul) := fun e => e.elim hk hi
      have HI : Hid (IsSo (((w.alloc (.cells #[.pointer (some ⟨g, 0, none⟩)] 27)).alloc (.cells #[.string key] 9)).alloc (.cells #[.string item] 9)) g b ls c) := h.same HS.out
      have q0 : (((w.alloc (.cells #[.pointer (some ⟨g, 0, none⟩)] 27)).alloc (.cells #[.string key] 9)).alloc (.cells #[.string item] 9)).cell? ⟨w.heap.size, 0, none⟩ = some (.pointer (some ⟨g, 0, none⟩)) := by
        have := ((Blk.new w 27 #[.pointer (some ⟨g, 0, none⟩)]).alloc (.cells #[.string key] 9)).alloc (.cells #[.string item] 9)
        simpa using this.cell 0
      have q1 : (((w.alloc (.cells #[.pointer (some ⟨g, 0, none⟩)] 27)).alloc (.cells #[.string key] 9)).alloc (.cells #[.string item] 9)).cell? ⟨w.heap.size + 1, 0, none⟩ = some (.string key) := by
        have := (Blk.new (w.alloc (.cells #[.pointer (some ⟨g, 0, none⟩)] 27)) 9 #[.string key]).alloc (.cells #[.string item] 9)
        simpa using this.cell 0
      have q2 : (((w.alloc (.cells #[.pointer (some ⟨g, 0, none⟩)] 27)).alloc (.cells #[.string key] 9)).alloc (.cells #[.string item] 9)).cell? ⟨w.heap.size + 1 + 1, 0, none⟩ = some (.string item) := by
        have := Blk.new ((w.alloc (.cells #[.pointer (some ⟨g, 0, none⟩)] 27)).alloc (.cells #[.string key] 9)) 9 #[.string item]
        simpa using this.cell 0
      clear h hk hi
      cases hf : fnd (pHas item) (ls.map Cl.bin) with
      | some j =>
        have e : sPut c (ls.map Cl.bin) key item = (ls.map Cl.bin, 0, 7) := by unfold sPut; rw [if_neg hno, hf]; rfl
        rw [e]
        have HF : Hid (fndV (pHas item) ls = .tuple #[.int .i64 (j : Nat), .bool true]) := by unfold fndV; rw [hf]; rfl
        clear e hno hf
        go_enter Try.func12, Try.ntmps12
        go_wp2_with fail
        generalize hW : ((w.alloc (.cells #[.pointer (some ⟨g, 0, none⟩)] 27)).alloc (.cells #[.string key] 9)).alloc (.cells #[.string item] 9) = W at q0 q1 q2 HS HI ⊢
        clear hW
        refine (findHas _ item W HI.out q2).mono ?_
        rw [HF.out]
        rintro e w' ⟨rfl, m, rfl⟩
        go_wp2
        refine bodyPost_ret (results_tmp2 rfl _ _ _) rfl ?_
        exact put_same H.out (Fr.drewN HS.out m) 7
      | none =>
        have HF : Hid (fndV (pHas item) ls = .tuple #[.int .i64 (0 : Nat), .bool false]) := by unfold fndV; rw [hf]; rfl
        cases hg : fnd (pKey c key) (ls.map Cl.bin) with
        | some k =>
          have e : sPut c (ls.map Cl.bin) key item = (putAt (ls.map Cl.bin) k key item, k, 0) := by unfold sPut; rw [if_neg hno, hf, hg]; rfl
          rw [e]
          have HG : Hid (fndV (pKey c key) ls = .tuple #[.int .i64 (k : Nat), .bool true]) := by unfold fndV; rw [hg]; rfl
          obtain ⟨bx, hbx, hp, _⟩ := fnd_some hg
          have hroom : bx.items.length < c := by unfold pKey at hp; simp at hp; omega
          clear e hno hf hg hp
          go_enter Try.func12, Try.ntmps12
          go_wp2_with fail
          generalize hW : ((w.alloc (.cells #[.pointer (some ⟨g, 0, none⟩)] 27)).alloc (.cells #[.string key] 9)).alloc (.cells #[.string item] 9) = W at q0 q1 q2 HS HI ⊢
          clear hW
          refine (findHas _ item W HI.out q2).mono ?_
          rw [HF.out]
          rintro e w' ⟨rfl, m, rfl⟩
          go_wp2_with fail
          refine (findKey _ _ key (W.drewN m) (HI.out.drewN m) q1 q0).mono ?_
          rw [HG.out]
          rintro e w' ⟨rfl, m2, rfl⟩
          clear HG
          rw [World.drewN_drewN]
          obtain ⟨x, hx, rfl⟩ : ∃ x, ls[k]? = some x ∧ x.bin = bx := by
            rw [List.getElem?_map, Option.map_eq_some_iff] at hbx
            exact hbx
          have hV := HI.out.drewN (m + m2)
          obtain ⟨A, cap, r, hv, hm⟩ := hV.forms hx
          obtain ⟨r', l, e', hmg, hgl0⟩ := (hV.cl k x hx).map
          rw [hm] at e'
          cases e'
          have hlt : k < ls.length := (List.getElem?_eq_some_iff.1 hx).1
          have hlt2 : (k : Int) < (ls.length : Int) := by omega
          have hrow := (hV.cl k x hx).row
          have hb : ¬ x.In b := (hV.cl k x hx).ne hV.arr (by decide)
          have hrb : r ≠ b := fun e => hb (.inl (by rw [hm, e]))
          have SV : Hid (Same w (W.drewN (m + m2))) := Fr.drewN HS.out _
          have SB : Hid (IsSo (W.drewN (m + m2)) g b ls c) := hV
          have p2 : (W.drewN (m + m2)).cell? ⟨w.heap.size + 1 + 1, 0, none⟩ = some (.string item) := q2
          have p1 : (W.drewN (m + m2)).cell? ⟨w.heap.size + 1, 0, none⟩ = some (.string key) := q1
          have p0 : (W.drewN (m + m2)).cell? ⟨w.heap.size, 0, none⟩ = some (.pointer (some ⟨g, 0, none⟩)) := q0
          have hgl : w.heap.size + 1 + 1 < W.heap.size := World.block_lt_of_cell? _ _ q2
          have hbl := hV.arr.lt
          have hgg := hV.blk.lt
          have e0 : (W.drewN (m + m2)).cell? ⟨g, 0, none⟩ = some (.slice (some ⟨b, 0, none⟩) ls.length ls.length) := by
            have := hV.blk.cell 0
            simpa using this
          clear q0 q1 q2 HI d0 HF HS hbx
          generalize W.drewN (m + m2) = V at hV hmg hrow SV SB p0 p1 p2 e0 hbl hgg ⊢
          obtain ⟨c0, c1, c2⟩ := arr_cells hV.arr hx
          rw [hv] at c1
          rw [hm] at c2
          have z0 := hV.arr.frozen (k * 3)
          have z1 := hV.arr.frozen (k * 3 + 1)
          have a1 : Blk (V.setCell ⟨b, k * 3, none⟩ (.string key)) b 64 (cells3 (ls.set k { x with key := key })).toArray := by
            have := arr_set0 hV.arr k key
            rwa [set_modify hx] at this
          have f1 : Fr (fun i => i = b) V (V.setCell ⟨b, k * 3, none⟩ (.string key)) := (Fr.refl _ _).setCell _ _ (.inl rfl)
          have hle : x.items.length ≤ 32 := by have := hV.le hx; omega
          have HX := Lib.hid hx
          have HV2 := Lib.hid hv
          have HM := Lib.hid hm
          have HB := Lib.hid hb
          have HRB := Lib.hid hrb
          have HGL := Lib.hid hgl0
          have hkx : (ls.set k { x with key := key })[k]? = some { x with key := key } := by rw [List.getElem?_set]; simp [hlt]
          obtain ⟨c0', c1', c2'⟩ := arr_cells a1 hkx
          simp only [hv] at c1'
          simp only [hm] at c2'
          have hne : b ≠ w.heap.size + 1 + 1 := fun e => by
            have h1 := H.out.arr.lt
            omega
          have p2' : (V.setCell ⟨b, k * 3, none⟩ (.string key)).cell? ⟨w.heap.size + 1 + 1, 0, none⟩ = some (.string item) := by
            rw [World.cell?_setCell_other _ _ _ _ (fun e => hne (congrArg Addr.block e))]
            exact p2
          have hmg1 := hmg.fr f1 hrb
          have hrow1 := own_fr hrow f1 (fun i hi e => hb (.inr (by rw [← e]; exact hi)))
          rw [hv] at hrow1
          have HNE := Lib.hid hne
          clear hx hv hm hb hrb hgl0 hkx hmg hrow hne
          go_wp2
          generalize HW1 : V.setCell ⟨b, k * 3, none⟩ (.string key) = V1 at a1 f1 c0' c1' c2' p2' hmg1 hrow1 ⊢
          clear HW1 c0 c1 c2 z0 z1 p0 p1 p2 hV
          have A1 := Lib.hid a1
          have F1 := Lib.hid f1
          have R1 := Lib.hid hrow1
          have M1 := Lib.hid hmg1
          have z1 := a1.frozen (k * 3 + 1)
          have b1 := a1.lt
          have c1a : (V1.alloc (.cells #[.string item] 9)).cell? ⟨b, k * 3 + 1, none⟩ = some (.slice A x.items.length cap) := same_cell ((Fr.refl _ _).alloc _) c1'
          clear a1 f1 hrow1 hmg1
          go_region_law ((refine step_append_any ((V1.alloc (.cells #[.string item] 9)).drew) (by rfl) (.tmp 57) (.tmp 59) 38 (by rfl) 0 9 i0 _ 1 16 Try.underlying38 hi0 hz0 hz1 hz2 rfl (by decide) (.slice A x.items.length cap) x.items.length (cellsS x.items) (by rfl) (R1.out.alloc (.cells #[.string item] 9)) (V1.heap.size + 1) (some ⟨V1.heap.size, 0, none⟩) 1 1 [.string item] (by rfl) (Reads.drew (reads_one V1 9 (.string item))) (by simp [Value.oneCell']) (by unfold maxLen; omega) (by omega) (Nat.zero_le _) ?_; intro v' V2 hown' hgrow0 hat0; have hgrow := undrew hgrow0; have hat : v'.ownBlock = (Value.slice A x.items.length cap).ownBlock ∨ v'.ownBlock = some (V1.alloc (.cells #[.string item] 9)).heap.size := hat0; clear hgrow0 hat0; have hex : ∃ A' c', v' = .slice A' (x.items.length + 1) c' := (let ⟨A', c', e, _⟩ := row_form hown'; ⟨A', c', e⟩); obtain ⟨A2, cap2, hv2⟩ := hex; have a2 := A1.out.fr (((Fr.refl _ _).alloc _).trans (Fr.of_row hgrow)) (fun e => HB.out (.inr (by rw [HV2.out]; exact e))); have e1 := (arr_cells a2 (k := k) (x := { x with key := key }) (by rw [List.getElem?_set]; simp [hlt])).2.1; simp only [HV2.out] at e1; have y1 := a2.frozen (k * 3 + 1); have HO := Lib.hid hown'; have HGR := Lib.hid hgrow; have HAT := Lib.hid hat; have A2' := Lib.hid a2; clear hown' hgrow hat a2; subst hv2))
          all_goals
            have hgr2 : (V1.alloc (.cells #[.string item] 9)).grownBy V2 x.v.ownBlock := by rw [HV2.out]; exact HGR.out
            have hat2 : (Value.slice A2 (x.items.length + 1) cap2).ownBlock = x.v.ownBlock ∨ (Value.slice A2 (x.items.length + 1) cap2).ownBlock = some (V1.alloc (.cells #[.string item] 9)).heap.size := by rw [HV2.out]; exact HAT.out
            have f2 : Fr (fun i => x.v.ownBlock = some i) V1 V2 := ((Fr.refl _ _).alloc _).trans (Fr.of_row hgr2)
            have hcl := H.out.cl k x HX.out
            have p2b : V2.cell? ⟨w.heap.size + 1 + 1, 0, none⟩ = some (.string item) := cell_fr f2 (fun e => by have h9 : w.heap.size + 1 + 1 < w.heap.size := hcl.lt (.inr e); omega) p2'
            have f3 : Fr (fun i => i = b) V2 (V2.setCell ⟨b, k * 3 + 1, none⟩ (.slice A2 (x.items.length + 1) cap2)) := (Fr.refl _ _).setCell _ _ (.inl rfl)
            have a3 := arr_set1 A2'.out k (.slice A2 (x.items.length + 1) cap2)
            have m3 : MG Value.bool (V2.setCell ⟨b, k * 3 + 1, none⟩ (.slice A2 (x.items.length + 1) cap2)) r l := (M1.out.fr f2 (fun e => mg_ne hcl HM.out e)).fr f3 HRB.out
            have c2'' : (V2.setCell ⟨b, k * 3 + 1, none⟩ (.slice A2 (x.items.length + 1) cap2)).cell? ⟨b, k * 3 + 2, none⟩ = some (.map (some r)) := by
              rw [← HM.out]
              refine (arr_cells a3 (x := { x with key := key, v := .slice A2 (x.items.length + 1) cap2 }) ?_).2.2
              rw [List.getElem?_modify, List.getElem?_set]
              simp [hlt]
            have p2'' : (V2.setCell ⟨b, k * 3 + 1, none⟩ (.slice A2 (x.items.length + 1) cap2)).cell? ⟨w.heap.size + 1 + 1, 0, none⟩ = some (.string item) := cell_fr f3 (fun e => HNE.out e.symm) p2b
            have HE : Hid (∀ (V4 : World) (l4 : List (Bs × Bool)), MG Value.bool V4 r l4 → (∀ q, getG l4 q = if q = item then some true else getG l q) → Fr (fun i => i = r) (V2.setCell ⟨b, k * 3 + 1, none⟩ (.slice A2 (x.items.length + 1) cap2)).drew V4 → PutE g b c ls w (putAt (ls.map Cl.bin) k key item, k, 0) (.returned (.tuple #[.int .i64 (k : Nat), .int .i64 0])) V4) := fun V4 l4 g4 h4 f4 =>
              (put_end (V3 := (V2.setCell ⟨b, k * 3 + 1, none⟩ (.slice A2 (x.items.length + 1) cap2)).drew) SB.out HX.out HM.out hroom A1.out F1.out HO.out hgr2 hat2 f3.drew (fun ls' hb' => (arr_set1 hb' k _).drew) g4 h4 HGL.out f4).base SV.out
            have HMG : Hid (MG Value.bool (V2.setCell ⟨b, k * 3 + 1, none⟩ (.slice A2 (x.items.length + 1) cap2)).drew r l) := m3
            have hbr := HRB.out
            have hrh : r < w.heap.size := hcl.lt (.inl HM.out)
            clear hgr2 hat2 f2 f3 a3 m3 hcl p2b e1 y1 A1 F1 R1 M1 A2' HO HGR HAT c0' c1' c2' p2' c1a z1 HX HV2 HM HB HGL HRB
            go_wp2
            generalize V2.setCell ⟨b, k * 3 + 1, none⟩ (.slice A2 (x.items.length + 1) cap2) = V3 at c2'' p2'' HE HMG ⊢
            have HC2 : Hid (∀ V4 : World, Fr (fun i => i = r) V3.drew V4 → V4.cell? ⟨b, k * 3 + 2, none⟩ = some (.map (some r))) := fun V4 f => cell_fr f (fun e => hbr e.symm) c2''
            have HP2 : Hid (∀ V4 : World, Fr (fun i => i = r) V3.drew V4 → V4.cell? ⟨w.heap.size + 1 + 1, 0, none⟩ = some (.string item)) := fun V4 f => cell_fr f (fun e => by have e' : w.heap.size + 1 + 1 = r := e; omega) p2''
            refine wp_region_noPanic ?_
            refine wp_region_held_drew (S := (fun W => W.cell? ⟨b, k * 3 + 2, none⟩ = some (.map (some r)) ∧ W.cell? ⟨w.heap.size + 1 + 1, 0, none⟩ = some (.string item))) (by kernel_rfl) ?_ (fun hHeld => ?_)
            · exact ⟨c2'', p2''⟩
            refine wpAnyH_take (i := 0) (oi := { dst := some 63, op := Go.Op.move (Go.Operand.tmp 12), type := 66, pos := _, after := #[], guard := none }) (v := ?_) rfl (by kernel_rfl) (by kernel_rfl) (by kernel_rfl) (fun _ _ _ h => h) (Or.inl ⟨by rfl, ?q0⟩) (by assumption) ?_
            case q0 => (intro w hSw; (try dsimp only at hSw); go_simp; (try with_reducible rfl))
            (try simp only [Act.put, List.setIfInBounds_toArray, List.set_cons_zero, List.set_cons_succ])
            refine wpAnyH_take (i := 1) (oi := { dst := some 64, op := Go.Op.nilCheck (Go.Operand.tmp 63), type := 0, pos := _, after := #[{ on := 0, ground := Go.Ground.data }], guard := none }) (v := ?_) rfl (by kernel_rfl) (by kernel_rfl) (by kernel_rfl) (fun _ _ _ h => h) (Or.inl ⟨by rfl, ?q1⟩) (by assumption) ?_
            case q1 => (intro w hSw; (try dsimp only at hSw); go_simp; (try with_reducible rfl))
            (try simp only [Act.put, List.setIfInBounds_toArray, List.set_cons_zero, List.set_cons_succ])
            refine wpAnyH_take (i := 2) (oi := { dst := some 65, op := Go.Op.fieldAddr 64 (Go.Operand.tmp 64) 2, type := 0, pos := _, after := #[{ on := 1, ground := Go.Ground.data }], guard := none }) (v := ?_) rfl (by kernel_rfl) (by kernel_rfl) (by kernel_rfl) (fun _ _ _ h => h) (Or.inl ⟨by rfl, ?q2⟩) (by assumption) ?_
            case q2 => (intro w hSw; (try dsimp only at hSw); go_simp; (try with_reducible rfl))
            (try simp only [Act.put, List.setIfInBounds_toArray, List.set_cons_zero, List.set_cons_succ])
            refine wpAnyH_take (i := 3) (oi := { dst := some 66, op := Go.Op.load 62 (Go.Operand.tmp 65), type := 62, pos := _, after := #[{ on := 2, ground := Go.Ground.data }], guard := none }) (v := ?_) rfl (by kernel_rfl) (by kernel_rfl) (by kernel_rfl) (fun _ _ _ h => h) (Or.inl ⟨by rfl, ?q3⟩) (by assumption) ?_
            case q3 => (intro w hSw; (try dsimp only at hSw); go_simp; (try with_reducible rfl))
            (try simp only [Act.put, List.setIfInBounds_toArray, List.set_cons_zero, List.set_cons_succ])
            refine wpAnyH_take (i := 4) (oi := { dst := some 67, op := Go.Op.load 9 (Go.Operand.tmp 5), type := 9, pos := _, after := #[], guard := none }) (v := ?_) rfl (by kernel_rfl) (by kernel_rfl) (by kernel_rfl) (fun _ _ _ h => h) (Or.inl ⟨by rfl, ?q4⟩) (by assumption) ?_
            case q4 => (intro w hSw; (try dsimp only at hSw); go_simp; (try with_reducible rfl))
            (try simp only [Act.put, List.setIfInBounds_toArray, List.set_cons_zero, List.set_cons_succ])
            refine wpAnyH_ready (rs := [5]) (by kernel_rfl) (by simp) ?_
            refine AllReadyH.cons (o := { dst := none, op := Go.Op.mapUpdate 62 (Go.Operand.tmp 66) (Go.Operand.tmp 67) (Go.Operand.const (Go.Value.bool true)), type := 0, pos := _, after := #[{ on := 3, ground := Go.Ground.data }, { on := 4, ground := Go.Ground.data }, { on := 0, ground := Go.Ground.phase }, { on := 1, ground := Go.Ground.phase }, { on := 2, ground := Go.Ground.phase }, { on := 3, ground := Go.Ground.phase }, { on := 4, ground := Go.Ground.phase }], guard := none }) rfl (fun K hK => ?_) AllReadyH.nil
            (refine step_mapUpdate_MG (vf := Value.bool) (l := l) (by rfl) (.tmp 66) (.tmp 67) _ (by rfl) Try.underlying62 Try.underlying9 item true (by rfl) (by rfl) (by rfl) HMG.out ?_; intro V4 l4 hg4 hl4 hf4)
            refine hK.out _ _ ?_ (fun hHeld => ?_)
            · exact ⟨HC2.out V4 hf4, HP2.out V4 hf4⟩
            clear hK K
            (try simp only [Act.put, List.setIfInBounds_toArray, List.set_cons_zero, List.set_cons_succ])
            refine wpAnyH_done (by kernel_rfl) ?_ _
            refine NoPanic.normal ?_
            go_wp2
            refine bodyPost_ret (results_tmp2 rfl _ _ _) rfl ?_
            exact HE.out V4 l4 hg4 hl4 hf4
        | none =>
          have HG : Hid (fndV (pKey c key) ls = .tuple #[.int .i64 (0 : Nat), .bool false]) := by unfold fndV; rw [hg]; rfl
          cases he : fnd pEmpty (ls.map Cl.bin) with
          | some k =>
            have e : sPut c (ls.map Cl.bin) key item = (putAt (ls.map Cl.bin) k key item, k, 0) := by unfold sPut; rw [if_neg hno, hf, hg, he]; rfl
            rw [e]
            have HE : Hid (fndV pEmpty ls = .tuple #[.int .i64 (k : Nat), .bool true]) := by unfold fndV; rw [he]; rfl
            obtain ⟨bx, hbx, hp, _⟩ := fnd_some he
            have hroom : bx.items.length < c := by have := H.out.ok.c1; unfold pEmpty at hp; simp at hp; rw [hp]; simp; omega
            clear e hno hf hg he hp
            go_enter Try.func12, Try.ntmps12
            go_wp2_with fail
            generalize hW : ((w.alloc (.cells #[.pointer (some ⟨g, 0, none⟩)] 27)).alloc (.cells #[.string key] 9)).alloc (.cells #[.string item] 9) = W at q0 q1 q2 HS HI ⊢
            clear hW
            refine (findHas _ item W HI.out q2).mono ?_
            rw [HF.out]
            rintro e w' ⟨rfl, m, rfl⟩
            go_wp2_with fail
            refine (findKey _ _ key (W.drewN m) (HI.out.drewN m) q1 q0).mono ?_
            rw [HG.out]
            rintro e w' ⟨rfl, m2, rfl⟩
            rw [World.drewN_drewN]
            go_wp2_with fail
            refine (findEmpty (W.drewN (m + m2)) (HI.out.drewN (m + m2))).mono ?_
            rw [HE.out]
            rintro e w' ⟨rfl, m3, rfl⟩
            clear HG HE
            rw [World.drewN_drewN]
            obtain ⟨x, hx, rfl⟩ : ∃ x, ls[k]? = some x ∧ x.bin = bx := by
              rw [List.getElem?_map, Option.map_eq_some_iff] at hbx
              exact hbx
            have hV := HI.out.drewN (m + m2 + m3)
            obtain ⟨A, cap, r, hv, hm⟩ := hV.forms hx
            obtain ⟨r', l, e', hmg, hgl0⟩ := (hV.cl k x hx).map
            rw [hm] at e'
            cases e'
            have hlt : k < ls.length := (List.getElem?_eq_some_iff.1 hx).1
            have hlt2 : (k : Int) < (ls.length : Int) := by omega
            have hrow := (hV.cl k x hx).row
            have hb : ¬ x.In b := (hV.cl k x hx).ne hV.arr (by decide)
            have hrb : r ≠ b := fun e => hb (.inl (by rw [hm, e]))
            have SV : Hid (Same w (W.drewN (m + m2 + m3))) := Fr.drewN HS.out _
            have SB : Hid (IsSo (W.drewN (m + m2 + m3)) g b ls c) := hV
            have p2 : (W.drewN (m + m2 + m3)).cell? ⟨w.heap.size + 1 + 1, 0, none⟩ = some (.string item) := q2
            have p1 : (W.drewN (m + m2 + m3)).cell? ⟨w.heap.size + 1, 0, none⟩ = some (.string key) := q1
            have p0 : (W.drewN (m + m2 + m3)).cell? ⟨w.heap.size, 0, none⟩ = some (.pointer (some ⟨g, 0, none⟩)) := q0
            have hgl : w.heap.size + 1 + 1 < W.heap.size := World.block_lt_of_cell? _ _ q2
            have hbl := hV.arr.lt
            have hgg := hV.blk.lt
            have e0 : (W.drewN (m + m2 + m3)).cell? ⟨g, 0, none⟩ = some (.slice (some ⟨b, 0, none⟩) ls.length ls.length) := by
              have := hV.blk.cell 0
              simpa using this
            clear q0 q1 q2 HI d0 HF HS hbx
            generalize W.drewN (m + m2 + m3) = V at hV hmg hrow SV SB p0 p1 p2 e0 hbl hgg ⊢
            obtain ⟨c0, c1, c2⟩ := arr_cells hV.arr hx
            rw [hv] at c1
            rw [hm] at c2
            have z0 := hV.arr.frozen (k * 3)
            have z1 := hV.arr.frozen (k * 3 + 1)
            have a1 : Blk (V.setCell ⟨b, k * 3, none⟩ (.string key)) b 64 (cells3 (ls.set k { x with key := key })).toArray := by
              have := arr_set0 hV.arr k key
              rwa [set_modify hx] at this
            have f1 : Fr (fun i => i = b) V (V.setCell ⟨b, k * 3, none⟩ (.string key)) := (Fr.refl _ _).setCell _ _ (.inl rfl)
            have hle : x.items.length ≤ 32 := by have := hV.le hx; omega
            have HX := Lib.hid hx
            have HV2 := Lib.hid hv
            have HM := Lib.hid hm
            have HB := Lib.hid hb
            have HRB := Lib.hid hrb
            have HGL := Lib.hid hgl0
            have hkx : (ls.set k { x with key := key })[k]? = some { x with key := key } := by rw [List.getElem?_set]; simp [hlt]
            obtain ⟨c0', c1', c2'⟩ := arr_cells a1 hkx
            simp only [hv] at c1'
            simp only [hm] at c2'
            have hne : b ≠ w.heap.size + 1 + 1 := fun e => by
              have h1 := H.out.arr.lt
              omega
            have p2' : (V.setCell ⟨b, k * 3, none⟩ (.string key)).cell? ⟨w.heap.size + 1 + 1, 0, none⟩ = some (.string item) := by
              rw [World.cell?_setCell_other _ _ _ _ (fun e => hne (congrArg Addr.block e))]
              exact p2
            have hmg1 := hmg.fr f1 hrb
            have hrow1 := own_fr hrow f1 (fun i hi e => hb (.inr (by rw [← e]; exact hi)))
            rw [hv] at hrow1
            have HNE := Lib.hid hne
            clear hx hv hm hb hrb hgl0 hkx hmg hrow hne
            go_wp2
            generalize HW1 : V.setCell ⟨b, k * 3, none⟩ (.string key) = V1 at a1 f1 c0' c1' c2' p2' hmg1 hrow1 ⊢
            clear HW1 c0 c1 c2 z0 z1 p0 p1 p2 hV
            have A1 := Lib.hid a1
            have F1 := Lib.hid f1
            have R1 := Lib.hid hrow1
            have M1 := Lib.hid hmg1
            have z1 := a1.frozen (k * 3 + 1)
            have b1 := a1.lt
            have c1a : (V1.alloc (.cells #[.string item] 9)).cell? ⟨b, k * 3 + 1, none⟩ = some (.slice A x.items.length cap) := same_cell ((Fr.refl _ _).alloc _) c1'
            clear a1 f1 hrow1 hmg1
            go_region_law ((refine step_append_any ((V1.alloc (.cells #[.string item] 9)).drew) (by rfl) (.tmp 57) (.tmp 59) 38 (by rfl) 0 9 i0 _ 1 16 Try.underlying38 hi0 hz0 hz1 hz2 rfl (by decide) (.slice A x.items.length cap) x.items.length (cellsS x.items) (by rfl) (R1.out.alloc (.cells #[.string item] 9)) (V1.heap.size + 1) (some ⟨V1.heap.size, 0, none⟩) 1 1 [.string item] (by rfl) (Reads.drew (reads_one V1 9 (.string item))) (by simp [Value.oneCell']) (by unfold maxLen; omega) (by omega) (Nat.zero_le _) ?_; intro v' V2 hown' hgrow0 hat0; have hgrow := undrew hgrow0; have hat : v'.ownBlock = (Value.slice A x.items.length cap).ownBlock ∨ v'.ownBlock = some (V1.alloc (.cells #[.string item] 9)).heap.size := hat0; clear hgrow0 hat0; have hex : ∃ A' c', v' = .slice A' (x.items.length + 1) c' := (let ⟨A', c', e, _⟩ := row_form hown'; ⟨A', c', e⟩); obtain ⟨A2, cap2, hv2⟩ := hex; have a2 := A1.out.fr (((Fr.refl _ _).alloc _).trans (Fr.of_row hgrow)) (fun e => HB.out (.inr (by rw [HV2.out]; exact e))); have e1 := (arr_cells a2 (k := k) (x := { x with key := key }) (by rw [List.getElem?_set]; simp [hlt])).2.1; simp only [HV2.out] at e1; have y1 := a2.frozen (k * 3 + 1); have HO := Lib.hid hown'; have HGR := Lib.hid hgrow; have HAT := Lib.hid hat; have A2' := Lib.hid a2; clear hown' hgrow hat a2; subst hv2))
            all_goals
              have hgr2 : (V1.alloc (.cells #[.string item] 9)).grownBy V2 x.v.ownBlock := by rw [HV2.out]; exact HGR.out
              have hat2 : (Value.slice A2 (x.items.length + 1) cap2).ownBlock = x.v.ownBlock ∨ (Value.slice A2 (x.items.length + 1) cap2).ownBlock = some (V1.alloc (.cells #[.string item] 9)).heap.size := by rw [HV2.out]; exact HAT.out
              have f2 : Fr (fun i => x.v.ownBlock = some i) V1 V2 := ((Fr.refl _ _).alloc _).trans (Fr.of_row hgr2)
              have hcl := H.out.cl k x HX.out
              have p2b : V2.cell? ⟨w.heap.size + 1 + 1, 0, none⟩ = some (.string item) := cell_fr f2 (fun e => by have h9 : w.heap.size + 1 + 1 < w.heap.size := hcl.lt (.inr e); omega) p2'
              have f3 : Fr (fun i => i = b) V2 (V2.setCell ⟨b, k * 3 + 1, none⟩ (.slice A2 (x.items.length + 1) cap2)) := (Fr.refl _ _).setCell _ _ (.inl rfl)
              have a3 := arr_set1 A2'.out k (.slice A2 (x.items.length + 1) cap2)
              have m3 : MG Value.bool (V2.setCell ⟨b, k * 3 + 1, none⟩ (.slice A2 (x.items.length + 1) cap2)) r l := (M1.out.fr f2 (fun e => mg_ne hcl HM.out e)).fr f3 HRB.out
              have c2'' : (V2.setCell ⟨b, k * 3 + 1, none⟩ (.slice A2 (x.items.length + 1) cap2)).cell? ⟨b, k * 3 + 2, none⟩ = some (.map (some r)) := by
                rw [← HM.out]
                refine (arr_cells a3 (x := { x with key := key, v := .slice A2 (x.items.length + 1) cap2 }) ?_).2.2
                rw [List.getElem?_modify, List.getElem?_set]
                simp [hlt]
              have p2'' : (V2.setCell ⟨b, k * 3 + 1, none⟩ (.slice A2 (x.items.length + 1) cap2)).cell? ⟨w.heap.size + 1 + 1, 0, none⟩ = some (.string item) := cell_fr f3 (fun e => HNE.out e.symm) p2b
              have HE : Hid (∀ (V4 : World) (l4 : List (Bs × Bool)), MG Value.bool V4 r l4 → (∀ q, getG l4 q = if q = item then some true else getG l q) → Fr (fun i => i = r) (V2.setCell ⟨b, k * 3 + 1, none⟩ (.slice A2 (x.items.length + 1) cap2)).drew V4 → PutE g b c ls w (putAt (ls.map Cl.bin) k key item, k, 0) (.returned (.tuple #[.int .i64 (k : Nat), .int .i64 0])) V4) := fun V4 l4 g4 h4 f4 =>
                (put_end (V3 := (V2.setCell ⟨b, k * 3 + 1, none⟩ (.slice A2 (x.items.length + 1) cap2)).drew) SB.out HX.out HM.out hroom A1.out F1.out HO.out hgr2 hat2 f3.drew (fun ls' hb' => (arr_set1 hb' k _).drew) g4 h4 HGL.out f4).base SV.out
              have HMG : Hid (MG Value.bool (V2.setCell ⟨b, k * 3 + 1, none⟩ (.slice A2 (x.items.length + 1) cap2)).drew r l) := m3
              have hbr := HRB.out
              have hrh : r < w.heap.size := hcl.lt (.inl HM.out)
              clear hgr2 hat2 f2 f3 a3 m3 hcl p2b e1 y1 A1 F1 R1 M1 A2' HO HGR HAT c0' c1' c2' p2' c1a z1 HX HV2 HM HB HGL HRB
              go_wp2
              generalize V2.setCell ⟨b, k * 3 + 1, none⟩ (.slice A2 (x.items.length + 1) cap2) = V3 at c2'' p2'' HE HMG ⊢
              have HC2 : Hid (∀ V4 : World, Fr (fun i => i = r) V3.drew V4 → V4.cell? ⟨b, k * 3 + 2, none⟩ = some (.map (some r))) := fun V4 f => cell_fr f (fun e => hbr e.symm) c2''
              have HP2 : Hid (∀ V4 : World, Fr (fun i => i = r) V3.drew V4 → V4.cell? ⟨w.heap.size + 1 + 1, 0, none⟩ = some (.string item)) := fun V4 f => cell_fr f (fun e => by have e' : w.heap.size + 1 + 1 = r := e; omega) p2''
              refine wp_region_noPanic ?_
              refine wp_region_held_drew (S := (fun W => W.cell? ⟨b, k * 3 + 2, none⟩ = some (.map (some r)) ∧ W.cell? ⟨w.heap.size + 1 + 1, 0, none⟩ = some (.string item))) (by kernel_rfl) ?_ (fun hHeld => ?_)
              · exact ⟨c2'', p2''⟩
              refine wpAnyH_take (i := 0) (oi := { dst := some 63, op := Go.Op.move (Go.Operand.tmp 12), type := 66, pos := _, after := #[], guard := none }) (v := ?_) rfl (by kernel_rfl) (by kernel_rfl) (by kernel_rfl) (fun _ _ _ h => h) (Or.inl ⟨by rfl, ?q0⟩) (by assumption) ?_
              case q0 => (intro w hSw; (try dsimp only at hSw); go_simp; (try with_reducible rfl))
              (try simp only [Act.put, List.setIfInBounds_toArray, List.set_cons_zero, List.set_cons_succ])
              refine wpAnyH_take (i := 1) (oi := { dst := some 64, op := Go.Op.nilCheck (Go.Operand.tmp 63), type := 0, pos := _, after := #[{ on := 0, ground := Go.Ground.data }], guard := none }) (v := ?_) rfl (by kernel_rfl) (by kernel_rfl) (by kernel_rfl) (fun _ _ _ h => h) (Or.inl ⟨by rfl, ?q1⟩) (by assumption) ?_
              case q1 => (intro w hSw; (try dsimp only at hSw); go_simp; (try with_reducible rfl))
              (try simp only [Act.put, List.setIfInBounds_toArray, List.set_cons_zero, List.set_cons_succ])
              refine wpAnyH_take (i := 2) (oi := { dst := some 65, op := Go.Op.fieldAddr 64 (Go.Operand.tmp 64) 2, type := 0, pos := _, after := #[{ on := 1, ground := Go.Ground.data }], guard := none }) (v := ?_) rfl (by kernel_rfl) (by kernel_rfl) (by kernel_rfl) (fun _ _ _ h => h) (Or.inl ⟨by rfl, ?q2⟩) (by assumption) ?_
              case q2 => (intro w hSw; (try dsimp only at hSw); go_simp; (try with_reducible rfl))
              (try simp only [Act.put, List.setIfInBounds_toArray, List.set_cons_zero, List.set_cons_succ])
              refine wpAnyH_take (i := 3) (oi := { dst := some 66, op := Go.Op.load 62 (Go.Operand.tmp 65), type := 62, pos := _, after := #[{ on := 2, ground := Go.Ground.data }], guard := none }) (v := ?_) rfl (by kernel_rfl) (by kernel_rfl) (by kernel_rfl) (fun _ _ _ h => h) (Or.inl ⟨by rfl, ?q3⟩) (by assumption) ?_
              case q3 => (intro w hSw; (try dsimp only at hSw); go_simp; (try with_reducible rfl))
              (try simp only [Act.put, List.setIfInBounds_toArray, List.set_cons_zero, List.set_cons_succ])
              refine wpAnyH_take (i := 4) (oi := { dst := some 67, op := Go.Op.load 9 (Go.Operand.tmp 5), type := 9, pos := _, after := #[], guard := none }) (v := ?_) rfl (by kernel_rfl) (by kernel_rfl) (by kernel_rfl) (fun _ _ _ h => h) (Or.inl ⟨by rfl, ?q4⟩) (by assumption) ?_
              case q4 => (intro w hSw; (try dsimp only at hSw); go_simp; (try with_reducible rfl))
              (try simp only [Act.put, List.setIfInBounds_toArray, List.set_cons_zero, List.set_cons_succ])
              refine wpAnyH_ready (rs := [5]) (by kernel_rfl) (by simp) ?_
              refine AllReadyH.cons (o := { dst := none, op := Go.Op.mapUpdate 62 (Go.Operand.tmp 66) (Go.Operand.tmp 67) (Go.Operand.const (Go.Value.bool true)), type := 0, pos := _, after := #[{ on := 3, ground := Go.Ground.data }, { on := 4, ground := Go.Ground.data }, { on := 0, ground := Go.Ground.phase }, { on := 1, ground := Go.Ground.phase }, { on := 2, ground := Go.Ground.phase }, { on := 3, ground := Go.Ground.phase }, { on := 4, ground := Go.Ground.phase }], guard := none }) rfl (fun K hK => ?_) AllReadyH.nil
              (refine step_mapUpdate_MG (vf := Value.bool) (l := l) (by rfl) (.tmp 66) (.tmp 67) _ (by rfl) Try.underlying62 Try.underlying9 item true (by rfl) (by rfl) (by rfl) HMG.out ?_; intro V4 l4 hg4 hl4 hf4)
              refine hK.out _ _ ?_ (fun hHeld => ?_)
              · exact ⟨HC2.out V4 hf4, HP2.out V4 hf4⟩
              clear hK K
              (try simp only [Act.put, List.setIfInBounds_toArray, List.set_cons_zero, List.set_cons_succ])
              refine wpAnyH_done (by kernel_rfl) ?_ _
              refine NoPanic.normal ?_
              go_wp2
              refine bodyPost_ret (results_tmp2 rfl _ _ _) rfl ?_
              exact HE.out V4 l4 hg4 hl4 hf4
          | none =>
            have e : sPut c (ls.map Cl.bin) key item = (ls.map Cl.bin, 0, 12) := by unfold sPut; rw [if_neg hno, hf, hg, he]; rfl
            rw [e]
            have HE : Hid (fndV pEmpty ls = .tuple #[.int .i64 (0 : Nat), .bool false]) := by unfold fndV; rw [he]; rfl
            clear e hno hf hg he
            go_enter Try.func12, Try.ntmps12
            go_wp2_with fail
            generalize hW : ((w.alloc (.cells #[.pointer (some ⟨g, 0, none⟩)] 27)).alloc (.cells #[.string key] 9)).alloc (.cells #[.string item] 9) = W at q0 q1 q2 HS HI ⊢
            clear hW
            refine (findHas _ item W HI.out q2).mono ?_
            rw [HF.out]
            rintro e w' ⟨rfl, m, rfl⟩
            go_wp2_with fail
            refine (findKey _ _ key (W.drewN m) (HI.out.drewN m) q1 q0).mono ?_
            rw [HG.out]
            rintro e w' ⟨rfl, m2, rfl⟩
            rw [World.drewN_drewN]
            go_wp2_with fail
            refine (findEmpty (W.drewN (m + m2)) (HI.out.drewN (m + m2))).mono ?_
            rw [HE.out]
            rintro e w' ⟨rfl, m3, rfl⟩
            go_wp2
            refine bodyPost_ret (results_tmp2 rfl _ _ _) rfl ?_
            exact put_same H.out (Fr.drewN HS.out _) 12

end Go.Proofs.Yteokognbnilkmaa
