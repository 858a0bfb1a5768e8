/-
  The walks of push, pop and New.
-/
import Derived.Test.YtahommgchnbnjaaSpread
import Derived.Deep.RegionLaw
import Derived.Deep.Fields
import Derived.BigRegion
import Derived.Laws.MakeOwn
namespace Go.Proofs.Ytahommgchnbnjaa
open Go.RowKit

/-- Only blocks of the yard have turned, and it has taken no other ones than new ones. -/
structure Upd (w w' : World) (g b : Nat) (ls ls' : List Bay) : Prop where
  fr : Fr (Own g b ls) w w'
  own : ∀ i, Own g b ls' i → Own g b ls i ∨ w.heap.size ≤ i
theorem Upd.trans {w w' w'' : World} {g b : Nat} {l l' l'' : List Bay} (h : Upd w w' g b l l') (k : Upd w' w'' g b l' l'') : Upd w w'' g b l l'' :=
  ⟨fr_trans2 h.fr k.fr (fun i hi ho => (h.own i ho).elim id (fun x => by omega)), fun i hi => (k.own i hi).elim (h.own i) (fun x => .inr (Nat.le_trans h.fr.size x))⟩
theorem Upd.same {w w' : World} (hs : Same w w') (g b : Nat) (ls : List Bay) : Upd w w' g b ls ls := ⟨hs.to _, fun _ hi => .inl hi⟩

/-- One bay is turned. -/
theorem IsY.turn {w W : World} {g b c p j : Nat} {ls : List Bay} {x y : Bay} (h : IsY w g b ls c p) (hx : ls[j]? = some x) (hf : Fr (fun i => i = b ∨ x.v.ownBlock = some i) w W) (hb : Blk W b 65 ((ls.set j y).map Bay.v).toArray)
    (hr : W.ownsRow 0 67 2 y.v y.es.length (cellsE y.es)) (ho : ∀ i, y.v.ownBlock = some i → x.v.ownBlock = some i ∨ w.heap.size ≤ i) (hl : y.es.length ≤ c) : IsY W g b (ls.set j y) c p ∧ Upd w W g b ls (ls.set j y) := by
  have hj := (List.getElem?_eq_some_iff.1 hx).1
  have hgb := h.gb
  have get : ∀ (k : Nat) (z : Bay), (ls.set j y)[k]? = some z → (k = j ∧ z = y) ∨ (k ≠ j ∧ ls[k]? = some z) := by
    intro k z hz
    rw [List.getElem?_set] at hz
    by_cases e : j = k
    · rw [if_pos e, if_pos hj] at hz
      exact .inl ⟨e.symm, (Option.some.inj hz).symm⟩
    · rw [if_neg e] at hz
      exact .inr ⟨fun e' => e e'.symm, hz⟩
  refine ⟨⟨?_, hb, fun k z hz => ?_, fun k m z z' i hz hz' hi hi' => ?_, ?_⟩, ⟨hf.mono fun i _ hi => ?_, fun i hi => ?_⟩⟩
  · rw [List.length_set]
    exact h.blk.fr hf (fun e => e.elim hgb (h.ng hx))
  · rcases get k z hz with ⟨rfl, rfl⟩ | ⟨hk, hz⟩
    · exact hr
    · exact own_fr (h.row k z hz) hf (fun i hi e => e.elim (fun e => h.nb hz (by rw [← e]; exact hi)) (fun e => hk (h.apart k j z x i hz hx hi e)))
  · rcases get k z hz with ⟨rfl, rfl⟩ | ⟨hk, qz⟩ <;> rcases get m z' hz' with ⟨rfl, rfl⟩ | ⟨hm, qz'⟩
    · rfl
    · rcases ho i hi with e | e
      · exact absurd (h.apart m k z' x i qz' hx hi' e) hm
      · have := (own_lt (h.row m z' qz') hi').2
        omega
    · rcases ho i hi' with e | e
      · exact absurd (h.apart k m z x i qz hx hi e) hk
      · have := (own_lt (h.row k z qz) hi).2
        omega
    · exact h.apart k m z z' i qz qz' hi hi'
  · have hok := h.ok
    refine ⟨hok.c1, hok.c2, by simpa using hok.n1, by simpa using hok.n2, fun e he => ?_⟩
    obtain ⟨z, hz, rfl⟩ := List.mem_map.1 he
    rcases List.mem_or_eq_of_mem_set hz with hz | rfl
    · exact hok.le z.es (List.mem_map.2 ⟨z, hz, rfl⟩)
    · exact hl
  · rcases hi with rfl | hi
    · exact .inr (.inl rfl)
    · exact .inr (.inr ⟨j, x, hx, hi⟩)
  · rcases hi with rfl | rfl | ⟨k, z, hz, hi⟩
    · exact .inl (.inl rfl)
    · exact .inl (.inr (.inl rfl))
    · rcases get k z hz with ⟨rfl, rfl⟩ | ⟨hk, hz⟩
      · rcases ho i hi with e | e
        · exact .inl (.inr (.inr ⟨k, x, hx, e⟩))
        · exact .inr e
      · exact .inl (.inr (.inr ⟨k, z, hz, hi⟩))
theorem arr_set (ls : List Bay) (j : Nat) (y : Bay) : ((ls.map Bay.v).toArray.setIfInBounds j y.v) = ((ls.set j y).map Bay.v).toArray := by
  simp [List.map_set]
theorem undrew {w w' : World} {row : Option Nat} (h : w.drew.grownBy w' row) : w.grownBy w' row := ⟨h.os, h.tape, h.output, h.size, h.block⟩
theorem reads_ent (w : World) (s : Bs) (n : Nat) : Reads (w.alloc (.cells #[.string s, .int .i64 n] 67)) (w.heap.size + 1) 2 (some ⟨w.heap.size, 0, none⟩) 1 [.string s, .int .i64 n] := by
  refine ⟨rfl, fun _ => ⟨_, rfl, Nat.lt_succ_self _, fun j u hu => ?_⟩⟩
  have hj : j < 2 := by simpa using (List.getElem?_eq_some_iff.1 hu).1
  rw [addr_add]
  match j, hj with
  | 0, _ => simp at hu; subst hu; simp
  | 1, _ => simp at hu; subst hu; simp

/-- The yard behind a push. -/
theorem push_end {w V V2 : World} {g b c p j n : Nat} {s : Bs} {ls : List Bay} {x : Bay} {v' : Value} (h : IsY w g b ls c p) (hx : ls[j]? = some x) (hlt : x.es.length < c) (hs : Same w V) (hown : V2.ownsRow 0 67 2 v' (x.es.length + 1) (cellsE x.es ++ [.string s, .int .i64 n]))
    (hgr : V.grownBy V2 x.v.ownBlock) (hat : v'.ownBlock = x.v.ownBlock ∨ v'.ownBlock = some V.heap.size) :
    IsY (V2.setCell ⟨b, j, none⟩ v') g b (ls.set j ⟨x.es ++ [(s, n)], v'⟩) c p ∧ Upd w (V2.setCell ⟨b, j, none⟩ v') g b ls (ls.set j ⟨x.es ++ [(s, n)], v'⟩) := by
  have hzs := hs.size
  have f2 : Fr (fun i => x.v.ownBlock = some i) w V2 := (hs.to _).trans (Fr.of_row hgr)
  have f3 : Fr (fun i => i = b ∨ x.v.ownBlock = some i) w (V2.setCell ⟨b, j, none⟩ v') := (f2.mono fun _ _ hi => .inr hi).setCell _ _ (.inl (.inl rfl))
  have hnb := h.nb hx
  have hvb : v'.ownBlock ≠ some b := by
    rcases hat with e | e
    · rw [e]; exact hnb
    · rw [e]; intro e'; have := h.arr.lt; cases e'; omega
  have a2 := ((h.arr.fr f2 hnb).set_ j v')
  rw [arr_set ls j ⟨x.es ++ [(s, n)], v'⟩] at a2
  refine h.turn hx f3 a2 ?_ (fun i hi => ?_) (by simp; omega)
  · have e : cellsE (x.es ++ [(s, n)]) = cellsE x.es ++ [.string s, .int .i64 n] := by rw [cellsE_append]; rfl
    rw [e, List.length_append]
    exact own_fr hown ((Fr.refl (fun i => i = b) V2).setCell ⟨b, j, none⟩ v' (.inl rfl)) (fun i hi e => by subst e; exact hvb hi)
  · rcases hat with e | e
    · exact .inl (by rw [← e]; exact hi)
    · right
      have hi' : v'.ownBlock = some i := hi
      rw [e] at hi'
      cases hi'
      exact hzs

/-- How push ends. -/
def PushE (w : World) (g b c p j n : Nat) (s : Bs) (ls : List Bay) (x : Bay) (e : Ending) (w' : World) : Prop := e = .returned (.tuple #[]) ∧ ∃ v', IsY w' g b (ls.set j ⟨x.es ++ [(s, n)], v'⟩) c p ∧ Upd w w' g b ls (ls.set j ⟨x.es ++ [(s, n)], v'⟩)

set_option maxRecDepth 100000 in
set_option maxHeartbeats 1000000 in
theorem push_any (g b c p j n : Nat) (s : Bs) (ls : List Bay) (x : Bay) (w : World) (h : IsY w g b ls c p) (hx : ls[j]? = some x) (hlt : x.es.length < c) : Calls Try.prog 26 #[.pointer (some ⟨b, j, none⟩), .agg #[.string s, .int .i64 n]] w (PushE w g b c p j n s ls x) := by
  obtain ⟨i0, hi0, hz0, hz1, hz2⟩ := info_parts info67
  have hc2 := h.ok.c2
  obtain ⟨A, cap, hv, _, _⟩ := row_formN (h.row j x hx)
  have cx : w.cell? ⟨b, j, none⟩ = some (.slice A x.es.length cap) := by rw [← hv]; exact h.cell hx
  have hbl := h.arr.lt
  have hfz := h.arr.frozen j
  have hs0 : Same w (w.alloc (.cells #[.string s, .int .i64 n] 67)) := (Fr.refl _ _).alloc _
  have hs1 : Same w ((w.alloc (.cells #[.string s, .int .i64 n] 67)).alloc (.cells #[.string s, .int .i64 n] 67)) := Fr.alloc hs0 _
  have hrow := own_fr (h.row j x hx) hs1 (fun _ _ x => x)
  rw [hv] at hrow
  have R1 := Lib.hid hrow
  have HE := Lib.hid (fun V2 v' ho hg ha => push_end (V2 := V2) (v' := v') (s := s) (n := n) h hx hlt hs1 ho hg ha)
  have AR := Lib.hid (h.arr.fr hs1 (fun x => x))
  have HNB := Lib.hid (h.nb hx)
  have HV := Lib.hid hv
  have HX := Lib.hid hx
  have RD := reads_ent (w.alloc (.cells #[.string s, .int .i64 n] 67)) s n
  simp only [World.size_alloc] at RD
  have HRD := Lib.hid RD
  clear h hx hv hrow hs0 hs1 RD
  go_enter Try.func26, Try.ntmps26
  go_upto_region 1 with fail
  go_region_law ((refine step_append_any (((w.alloc (.cells #[.string s, .int .i64 n] 67)).alloc (.cells #[.string s, .int .i64 n] 67)).drew) (by rfl) (.tmp 8) (.tmp 10) 63 (by rfl) 0 67 i0 _ 2 24 Try.underlying63 hi0 hz0 hz1 hz2 rfl (by decide) (.slice A x.es.length cap) x.es.length (cellsE x.es) (by rfl) R1.out (w.heap.size + 1 + 1) (some ⟨w.heap.size + 1, 0, none⟩) 1 1 [.string s, .int .i64 n] (by rfl) (Reads.drew HRD.out) (by simp [Value.oneCell']) (by unfold maxLen; omega) (by omega) (Nat.zero_le _) ?_; intro v' V2 hown' hgrow0 hat0; have hgrow := undrew hgrow0; have HO := Lib.hid hown'; have HGR := Lib.hid hgrow; have HAT := Lib.hid hat0; have a2 := AR.out.fr (Fr.of_row hgrow) (fun e => HNB.out (by rw [HV.out]; exact e)); have e1 := a2.cell j; have y1 := a2.frozen j; have b1 := a2.lt; have hex : ∃ A' c', v' = .slice A' (x.es.length + 1) c' := (let ⟨A', c', e, _⟩ := row_formN hown'; ⟨A', c', e⟩); obtain ⟨A2, cap2, hv2⟩ := hex; rw [List.getElem?_toArray, List.getElem?_map, HX.out] at e1; simp only [Option.map_some, HV.out] at e1; clear hown' hgrow hgrow0 hat0 a2; subst hv2))
  all_goals
    go_end0
    exact ⟨rfl, _, HE.out _ _ HO.out (by rw [HV.out]; exact HGR.out) (by rw [HV.out]; exact HAT.out)⟩

/-- A row's room. -/
theorem row_cap {w : World} {base n cap size : Nat} {e : TypeId} {A : Option Addr} {xs : List Value} (h : w.ownsRow base e size (.slice A n cap) n xs) : n ≤ cap ∧ cap ≤ 9223372036854775807 := by
  obtain ⟨_, ⟨hv, rfl⟩ | ⟨g, cap', cur, hv, _, _, h1, h2, _⟩⟩ := h
  · cases hv; omega
  · cases hv
    unfold maxLen at h2
    exact ⟨h1, h2⟩
/-- The yard behind a pop. -/
theorem pop_end {w V : World} {g b c p j : Nat} {ls : List Bay} {x : Bay} {A : Option Addr} {cap : Nat} (h : IsY w g b ls c p) (hx : ls[j]? = some x) (hv : x.v = .slice A x.es.length cap) (hs : Same w V) :
    IsY (V.setCell ⟨b, j, none⟩ (.slice A (x.es.length - 1) cap)) g b (ls.set j ⟨x.es.dropLast, .slice A (x.es.length - 1) cap⟩) c p ∧ Upd w (V.setCell ⟨b, j, none⟩ (.slice A (x.es.length - 1) cap)) g b ls (ls.set j ⟨x.es.dropLast, .slice A (x.es.length - 1) cap⟩) := by
  have f3 : Fr (fun i => i = b ∨ x.v.ownBlock = some i) w (V.setCell ⟨b, j, none⟩ (.slice A (x.es.length - 1) cap)) := (hs.to _).setCell _ _ (.inl (.inl rfl))
  have a2 := ((h.arr.fr hs (fun x => x)).set_ j (.slice A (x.es.length - 1) cap))
  rw [arr_set ls j ⟨x.es.dropLast, .slice A (x.es.length - 1) cap⟩] at a2
  have hr := h.row j x hx
  have hnb := h.nb hx
  have hle := h.le hx
  rw [hv] at hr hnb
  have ho : ∀ i, (Value.slice A (x.es.length - 1) cap).ownBlock = some i → (Value.slice A x.es.length cap).ownBlock = some i := fun i hi => by cases A <;> exact hi
  have hc := own_cut hr (k := x.es.length - 1) (by omega)
  rw [cellsE_take, ← List.dropLast_eq_take] at hc
  refine h.turn hx f3 a2 ?_ (fun i hi => .inl (by rw [hv]; exact ho i hi)) (by simp; omega)
  simp only [List.length_dropLast]
  exact own_fr (own_fr hc hs (fun _ _ x => x)) ((Fr.refl (fun i => i = b) V).setCell ⟨b, j, none⟩ _ (.inl rfl)) (fun i hi e => by subst e; exact hnb (ho _ hi))

/-- How pop ends. -/
def PopE (w : World) (g b c p j : Nat) (e0 : Ent) (ls : List Bay) (x : Bay) (e : Ending) (w' : World) : Prop := e = .returned (.agg #[.string e0.1, .int .i64 (e0.2 : Nat)]) ∧ ∃ v', IsY w' g b (ls.set j ⟨x.es.dropLast, v'⟩) c p ∧ Upd w w' g b ls (ls.set j ⟨x.es.dropLast, v'⟩)

set_option maxRecDepth 100000 in
set_option maxHeartbeats 1000000 in
theorem pop_any (g b c p j : Nat) (e0 : Ent) (ls : List Bay) (x : Bay) (w : World) (h : IsY w g b ls c p) (hx : ls[j]? = some x) (he : x.es.getLast? = some e0) : Calls Try.prog 29 #[.pointer (some ⟨b, j, none⟩)] w (PopE w g b c p j e0 ls x) := by
  have hc2 := h.ok.c2
  have hle := h.le hx
  have hne : x.es ≠ [] := fun e => by rw [e] at he; simp at he
  have hpos : 0 < x.es.length := List.length_pos_iff.2 hne
  obtain ⟨k, hk⟩ : ∃ k, x.es.length = k + 1 := ⟨x.es.length - 1, by omega⟩
  have hek : x.es[k]? = some e0 := by
    rw [List.getLast?_eq_getElem?, hk] at he
    exact he
  obtain ⟨gi, cap, hv, c0, c1, hgl⟩ := h.ent hx hek
  have hrow := h.row j x hx
  rw [hv] at hrow
  obtain ⟨hcap, hcap2⟩ := row_cap hrow
  have cx : w.cell? ⟨b, j, none⟩ = some (.slice (some ⟨gi, 0, none⟩) (k + 1 : Nat) cap) := by rw [← hk, ← hv]; exact h.cell hx
  have hbl := h.arr.lt
  have hfz := h.arr.frozen j
  have hs2 : Same w ((w.alloc (.cells #[.string e0.1, .int .i64 (e0.2 : Nat)] 67)).alloc (.cells #[.string e0.1, .int .i64 (e0.2 : Nat)] 67)) := ((Fr.refl _ _).alloc _).alloc _
  have HE := Lib.hid (fun V hs => pop_end (V := V) h hx hv hs)
  rw [hk] at HE hcap hle
  simp only [Nat.add_sub_cancel] at HE
  clear h hx hv hrow he hne hpos hek hk hs2
  have g1 : (0 : Int) ≤ (k : Int) := by omega
  have g2 : (k : Int) ≤ (cap : Int) := by omega
  have g3 : ((k + 1 : Nat) : Int) = (k : Int) + 1 := by omega
  have g4 : (k : Int) < (k : Int) + 1 := by omega
  go_enter Try.func29, Try.ntmps29
  go_wp2
  obtain ⟨hY, hU⟩ := HE.out w (Same.refl w)
  have hW : Same (w.setCell ⟨b, j, none⟩ (.slice (some ⟨gi, 0, none⟩) k cap)) (((w.setCell ⟨b, j, none⟩ (.slice (some ⟨gi, 0, none⟩) k cap)).alloc (.cells #[.string e0.1, .int .i64 (e0.2 : Nat)] 67)).alloc (.cells #[.string e0.1, .int .i64 (e0.2 : Nat)] 67)) := ((Fr.refl _ _).alloc _).alloc _
  exact bodyPost_ret (v := .agg #[.string e0.1, .int .i64 (e0.2 : Nat)]) (by simp [results, Try.results29, go_sem]) rfl ⟨rfl, _, hY.same hW, hU.trans (Upd.same hW _ _ _)⟩

theorem run_make_rowN {P : Program} (t e : TypeId) (i : TypeInfo) (z : Value) (ht : P.underlying t = some (.slice e)) (hi : P.info? e = some i) (hz : i.zero = some z)
    (kl kc : IntKind) (n c : Nat) (hnc : n ≤ c) (hbytes : i.bytes * c ≤ 281474976710656) (h63 : c ≤ 9223372036854775807) (w : World) :
    (Instr.makeSlice t (.int kl (n : Int)) (.int kc (c : Int))).run P w = .ok (.slice (some ⟨w.heap.size, 0, none⟩) n c) (w.alloc (.cells (madeCells z.cells (c * i.size)) e)) := by
  have hb : (i.bytes : Int) * (c : Int) ≤ 281474976710656 := by
    have h : ((i.bytes * c : Nat) : Int) ≤ 281474976710656 := by omega
    rwa [Int.natCast_mul] at h
  have hr := run_make (P := P) w t e i z ht hi hz kl kc n c (by omega) (by omega) hb (by omega)
  simp only [Int.toNat_natCast] at hr
  exact hr
/-- What New refuses. -/
def NewBad (n c : Int) : Prop := n < 1 ∨ 16 < n ∨ c < 1 ∨ 32 < c
theorem made1 (n : Nat) : madeCells (Value.agg #[.slice none 0 0]).cells (n * 1) = (List.replicate n (Value.slice none 0 0)).toArray := by
  apply Array.ext
  · simp [madeCells]
  · intro i h1 h2
    simp [madeCells, Value.cells, Nat.mod_one]
theorem new_mem (n c : Nat) (w : World) (h1 : 1 ≤ n) (h2 : n ≤ 16) (h3 : 1 ≤ c) (h4 : c ≤ 32) :
    IsY ((w.alloc (.cells (List.replicate n (Value.slice none 0 0)).toArray 65)).alloc (.cells #[.slice (some ⟨w.heap.size, 0, none⟩) n n, .int .i64 c, .int .i64 (0 : Nat)] 62)) (w.heap.size + 1) w.heap.size (List.replicate n ⟨[], .slice none 0 0⟩) c 0 := by
  have bg := Blk.new (w.alloc (.cells (List.replicate n (Value.slice none 0 0)).toArray 65)) 62 #[.slice (some ⟨w.heap.size, 0, none⟩) n n, .int .i64 c, .int .i64 (0 : Nat)]
  have bb := (Blk.new w 65 (List.replicate n (Value.slice none 0 0)).toArray).alloc (.cells #[.slice (some ⟨w.heap.size, 0, none⟩) n n, .int .i64 c, .int .i64 (0 : Nat)] 62)
  rw [World.size_alloc] at bg
  have get : ∀ (k : Nat) (x : Bay), (List.replicate n (⟨[], .slice none 0 0⟩ : Bay))[k]? = some x → x = ⟨[], .slice none 0 0⟩ := by
    intro k x hx
    exact List.eq_of_mem_replicate (List.mem_of_getElem? hx)
  refine ⟨by rw [List.length_replicate]; exact bg, by rw [List.map_replicate]; exact bb, fun k x hx => ?_, fun j k x y i hx hy hi _ => ?_, ⟨h3, h4, by simpa using h1, by simpa using h2, fun b hb => ?_⟩⟩
  · rw [get k x hx]
    exact ⟨rfl, .inl ⟨rfl, rfl⟩⟩
  · rw [get j x hx] at hi
    cases hi
  · obtain ⟨x, hx, rfl⟩ := List.mem_map.1 hb
    rw [List.eq_of_mem_replicate hx]
    simp
/-- How New ends. -/
def NewE (w : World) (n c : Nat) (e : Ending) (w' : World) : Prop :=
  e = .returned (.tuple #[.pointer (some ⟨w.heap.size + 1, 0, none⟩), .int .i64 0]) ∧ IsY w' (w.heap.size + 1) w.heap.size (List.replicate n ⟨[], .slice none 0 0⟩) c 0 ∧ Same w w'

set_option maxRecDepth 100000 in
set_option maxHeartbeats 1000000 in
theorem new_any (n c : Nat) (w : World) (h1 : 1 ≤ n) (h2 : n ≤ 16) (h3 : 1 ≤ c) (h4 : c ≤ 32) : Calls Try.prog 11 #[.int .i64 n, .int .i64 c] w (NewE w n c) := by
  obtain ⟨i0, hi0, hz0, hz1, hz2⟩ := info_parts info65
  have hmk := fun W => run_make_rowN (P := Try.prog) 60 65 i0 _ Try.underlying60 hi0 hz0 .i64 .i64 n n (Nat.le_refl _) (by rw [hz2]; omega) (by omega) W
  rw [hz1, made1] at hmk
  have g1 : (1 : Int) ≤ (n : Int) := by omega
  have g2 : (n : Int) ≤ 16 := by omega
  have g3 : (1 : Int) ≤ (c : Int) := by omega
  have g4 : (c : Int) ≤ 32 := by omega
  have HM := Lib.hid (new_mem n c w h1 h2 h3 h4)
  generalize (List.replicate n (Value.slice none 0 0)).toArray = cs at hmk HM
  clear hz1 h1 h2 h3 h4
  go_enter Try.func11, Try.ntmps11
  go_wp2
  refine bodyPost_ret (results_tmp2 rfl _ _ _) rfl ?_
  exact ⟨rfl, HM.out, ((Fr.refl _ _).alloc _).alloc _⟩
set_option maxHeartbeats 1000000 in
theorem new_bad (n c : Int) (w : World) (h : NewBad n c) : Calls Try.prog 11 #[.int .i64 n, .int .i64 c] w fun e w' => e = .returned (.tuple #[.pointer none, .int .i64 9]) ∧ w = w' := by
  by_cases h1 : n < 1
  · clear h
    go_enter Try.func11, Try.ntmps11
    go_wp2
    exact bodyPost_ret (results_tmp2 rfl _ _ _) rfl ⟨rfl, rfl⟩
  · by_cases h2 : 16 < n
    · clear h
      go_enter Try.func11, Try.ntmps11
      go_wp2
      exact bodyPost_ret (results_tmp2 rfl _ _ _) rfl ⟨rfl, rfl⟩
    · by_cases h3 : c < 1
      · clear h
        go_enter Try.func11, Try.ntmps11
        go_wp2
        exact bodyPost_ret (results_tmp2 rfl _ _ _) rfl ⟨rfl, rfl⟩
      · have h4 : 32 < c := by unfold NewBad at h; omega
        clear h
        go_enter Try.func11, Try.ntmps11
        go_wp2
        exact bodyPost_ret (results_tmp2 rfl _ _ _) rfl ⟨rfl, rfl⟩

end Go.Proofs.Ytahommgchnbnjaa
