/-
  The walk of Remove.
-/
import Derived.Test.YtholaaojcpifnaaWalkd
namespace Go.Proofs.Ytholaaojcpifnaa
open Go.RowKit

/-- How Remove ends. -/
def RemS (g r : Nat) (v : Value) (w : World) (s : Stk) (o : Bs) (e : Ending) (w' : World) : Prop :=
  ∃ l v', e = .returned l ∧ w'.ownsRow w.heap.size 9 1 l (held s o).length (cellsS (held s o)) ∧ IsS w' g r v' (sRemove s o) ∧ Fr (Own g r v) w w' ∧ (∀ i, v'.ownBlock = some i → v.ownBlock = some i ∨ w.heap.size ≤ i) ∧ (∀ i, l.ownBlock = some i → v'.ownBlock ≠ some i)

/-- What is left of the first k items. -/
def keeps (s : Stk) (hs : List Bs) : List Bs := (s.filter fun e => decide (e.1 ∉ hs)).map (·.1)
theorem keeps_take {s : Stk} {hs : List Bs} {k : Nat} {e : Bs × Bs} (h : s[k]? = some e) : keeps (s.take (k + 1)) hs = if e.1 ∈ hs then keeps (s.take k) hs else keeps (s.take k) hs ++ [e.1] := by
  obtain ⟨hk, he⟩ := List.getElem?_eq_some_iff.1 h
  unfold keeps
  rw [List.take_succ_eq_append_getElem hk, List.filter_append, List.map_append, he]
  by_cases h2 : e.1 ∈ hs <;> simp [h2]
theorem keeps_le (s : Stk) (hs : List Bs) : (keeps s hs).length ≤ s.length := by unfold keeps; rw [List.length_map]; exact List.length_filter_le _ _
theorem own_base0 {w : World} {base : Nat} {e : TypeId} {size n : Nat} {v : Value} {xs : List Value} (h : w.ownsRow base e size v n xs) : w.ownsRow 0 e size v n xs := by
  obtain ⟨hl, h | ⟨g, cap, cur, rfl, _, hr⟩⟩ := h
  · exact ⟨hl, .inl h⟩
  · exact ⟨hl, .inr ⟨g, cap, cur, rfl, Nat.zero_le _, hr⟩⟩

/-- What holds at the head of each round of the second loop: w2: the world behind the first one. -/
def KRel (w2 : World) (s : Stk) (hs : List Bs) (lf i : Value) (wr : World) : Prop :=
  ∃ k : Nat, k ≤ s.length ∧ i = .int .i64 k ∧ wr.ownsRow w2.heap.size 9 1 lf (keeps (s.take k) hs).length (cellsS (keeps (s.take k) hs)) ∧ Below w2.heap.size w2 wr

theorem krel_next {w wr w1 : World} {s : Stk} {hs : List Bs} {x ord : Bs} {k : Nat} {l l' : Value} (he : s[k]? = some (x, ord)) (ho : x ∉ hs) (hlt : k < s.length) (hb : Below w.heap.size w wr) (hown : wr.ownsRow w.heap.size 9 1 l (keeps (s.take k) hs).length (cellsS (keeps (s.take k) hs)))
    (h1 : w1.ownsRow w.heap.size 9 1 l' ((keeps (s.take k) hs).length + 1) (cellsS (keeps (s.take k) hs) ++ [.string x])) (hg : (wr.alloc (.cells #[.string x] 9)).grownBy w1 l.ownBlock) : KRel w s hs l' (.int .i64 ((k : Int) + 1)) w1 := by
  have e1 : keeps (s.take (k + 1)) hs = keeps (s.take k) hs ++ [x] := by rw [keeps_take he, if_neg ho]
  refine ⟨k + 1, by omega, by simp, ?_, ?_⟩
  · rw [e1]
    simpa [cellsS] using h1
  · refine (hb.alloc hb.size _).grown hg (by have := hb.size; simp; omega) (fun j hj => ?_)
    exact (hown.lt j hj).1
theorem krel_skip {w wr : World} {s : Stk} {hs : List Bs} {x ord : Bs} {k : Nat} {l : Value} (he : s[k]? = some (x, ord)) (ho : x ∈ hs) (hlt : k < s.length) (hb : Below w.heap.size w wr) (hown : wr.ownsRow w.heap.size 9 1 l (keeps (s.take k) hs).length (cellsS (keeps (s.take k) hs))) :
    KRel w s hs l (.int .i64 ((k : Int) + 1)) wr := by
  have e1 : keeps (s.take (k + 1)) hs = keeps (s.take k) hs := by rw [keeps_take he, if_pos ho]
  exact ⟨k + 1, by omega, by simp, by rw [e1]; exact hown, hb⟩

theorem rem_end {w w1 w2 w3 : World} {g r : Nat} {v l lf : Value} {s : Stk} {o : Bs} {m : List (Bs × Bs)} (H : IsS w g r v s) (hb : Below w.heap.size w w1) (hbk : Blk w2 g 55 #[.map (some r), v]) (hm : MG Value.string w2 r m)
    (hg : ∀ q, getG m q = if q ∈ held s o then none else getG s q) (hl : w2.ownsRow w.heap.size 9 1 l (held s o).length (cellsS (held s o))) (hf : Fr (fun i => i = r) w1 w2)
    (hb3 : Below w2.heap.size w2 w3) (hlf : w3.ownsRow w2.heap.size 9 1 lf (keeps s (held s o)).length (cellsS (keeps s (held s o)))) : RemS g r v w s o (.returned l) (w3.setCell ⟨g, 1, none⟩ lf) := by
  have hz1 := hb.size
  have hz2 := hf.size
  have s3 : Fr (fun _ => False) w2 w3 := Fr.of_new hb3 _
  have fset : Fr (fun i => i = g) w3 (w3.setCell ⟨g, 1, none⟩ lf) := (Fr.refl _ _).setCell _ _ (.inl rfl)
  have hb3' := hbk.fr s3 (fun x => x)
  have hl3 := own_fr hl s3 (fun _ _ x => x)
  have hlg : lf.ownBlock ≠ some g := own_ne hlf hb3' (by decide)
  have hle := H.ok
  have hlen : (sRemove s o).length = (keeps s (held s o)).length := by rw [remove_eq hle]; unfold keeps; rw [List.length_map]
  have hmap : (sRemove s o).map (·.1) = keeps s (held s o) := by rw [remove_eq hle]; rfl
  refine ⟨l, lf, rfl, own_fr hl3 fset (fun i hi e => (own_ne hl3 hb3' (by decide)) (by rw [← e]; exact hi)), ⟨hb3'.set_ 1 lf, ⟨m, (hm.fr s3 (fun x => x)).fr fset (fun e => H.gr e.symm), fun q => ?_⟩, ?_, sRemove_ok hle o⟩, ?_, ?_, ?_⟩
  · rw [hg q, remove_get hle]
  · rw [hlen, hmap]
    exact own_base0 (own_fr hlf fset (fun i hi e => hlg (by rw [← e]; exact hi)))
  · exact (((Same.of hb).to _).trans (hf.mono fun i _ e => .inr (.inl e))).trans ((s3.mono fun _ _ x => x.elim).trans (fset.mono fun i _ e => .inl e))
  · intro i hi
    have := (hlf.lt i hi).1
    right
    omega
  · intro i hi hj
    have h1 := (hl.lt i hi).2
    have h2 := (hlf.lt i hj).1
    omega

set_option maxRecDepth 100000 in
set_option maxHeartbeats 2000000 in
theorem remove_any (g r : Nat) (v : Value) (s : Stk) (o : Bs) (w : World) (h : IsS w g r v s) : Calls Try.prog 23 #[.pointer (some ⟨g, 0, none⟩), .string o] w (RemS g r v w s o) := by
  obtain ⟨i0, hi0, hz0, hz1, hz2⟩ := info_parts info9
  have hle := held_le s o
  have hs5 := h.ok.le
  have hl5 : ((held s o).length : Int) ≤ 512 := by omega
  have hl6 : (s.length : Int) ≤ 512 := by omega
  go_enter Try.func23, Try.ntmps23
  go_wp2_with fail
  refine (held_any g r v s o w h).mono ?_
  rintro e w1 ⟨l, rfl, hown, hb⟩
  have h1 := h.same (Same.of hb)
  obtain ⟨A, cap, hl, hn, _⟩ := row_form hown
  subst hl
  by_cases hz : (held s o).length = 0
  · have hnil : held s o = [] := List.eq_nil_of_length_eq_zero hz
    have kz : (((held s o).length : Int) == 0) = true := by simp [hz]
    have HN := Lib.hid hnil
    clear hnil hz hown
    go_wp2
    go_ret
    refine ⟨_, v, rfl, ⟨by simp [cellsS], .inl ⟨rfl, by rw [HN.out]; rfl⟩⟩, by rw [remove_nil h.ok o HN.out]; exact h1, (Same.of hb).to _, fun _ hi => .inl hi, fun i hi => by simp [Value.ownBlock] at hi⟩
  · have kz : (((held s o).length : Int) == 0) = false := by simpa using hz
    obtain ⟨m, hm, hg⟩ := h1.map
    have hR : LRel w1 g r v (.slice A (held s o).length cap) s (held s o) none w.heap.size (.int .i64 0) w1 := ⟨0, m, by omega, rfl, h1.blk, hm, fun q => by simp [hg q], h1.row, hown, Fr.refl _ _⟩
    have H := Lib.hid h
    have H1 := Lib.hid h1
    clear h h1 hm hg hown hz
    go_wp2
    go_loopw [21] (fun i wr => LRel w1 g r v (.slice A (held s o).length cap) s (held s o) none w.heap.size i wr) (fun i _ => (held s o).length - (intOf i).toNat)
    case atStart => exact hR
    case round =>
      obtain ⟨k, m, hk, rfl, hbk, hm, hg, hv, hl, hf⟩ := hrel
      clear hR
      have d0 := hbk.cell 0
      have d1 := hbk.cell 1
      simp at d0 d1
      by_cases hlt : k < (held s o).length
      · obtain ⟨x, hx⟩ : ∃ x, (held s o)[k]? = some x := ⟨(held s o)[k], List.getElem?_eq_getElem hlt⟩
        obtain ⟨A', cap', hae, _, hcl⟩ := row_form hl
        simp only [Value.slice.injEq, true_and] at hae
        obtain ⟨rfl, rfl⟩ := hae
        obtain ⟨gi, rfl, hcell, _, _⟩ := hcl k _ (cellsS_get hx)
        have HX := Lib.hid hx
        have HG := Lib.hid hg
        clear hx hg hcl
        go_wp2_with ((with_reducible show wpList _ _ _ (⟨_, Op.call ⟨Callee.builtin Builtin.delete, _, _⟩, _, _, _, _⟩ :: _) _ _); refine wpList_delete_MG rfl _ _ _ rfl Try.underlying53 Try.underlying9 x rfl rfl hm ?_; intro w3 m3 hm3 hg3 hf3; have HE := Lib.hid (lrel_next hlt HX.out H1.out.gr hbk hm HG.out hv hl hf hm3 hg3 hf3); clear hg3)
        go_roundw
        case rel => exact HE.out
        case measure => simp [intOf]; omega
      · have hk2 : k = (held s o).length := by omega
        subst hk2
        rw [List.take_length] at hg
        have HG := Lib.hid hg
        obtain ⟨A2, cap2, hve, hn2, hcv⟩ := row_form hv
        subst hve
        have HCV := Lib.hid hcv
        have hlk := fun (q : Bs) (wz : World) (hz : Same wr wz) => (MG.fr hm hz (fun x => x)).look2 (P := Try.prog) (t := 53) Try.underlying53 Try.underlying9 zero9 q
        have HLK := Lib.hid hlk
        have hR2 : KRel wr s (held s o) (.slice none 0 0) (.int .i64 0) wr := ⟨0, by omega, rfl, ⟨by simp [cellsS, keeps], .inl ⟨rfl, by simp [keeps]⟩⟩, Below.refl _ _⟩
        have gl := hbk.lt
        clear hg hcv hlk
        obtain ⟨wq, hwq⟩ : ∃ wq : World, wq = wr := ⟨_, rfl⟩
        subst hwq
        go_wp2
        go_loopw [8, 36] (fun lf i wr => KRel wq s (held s o) lf i wr) (fun _ i _ => s.length - (intOf i).toNat)
        case atStart => exact hR2
        case round =>
          obtain ⟨k2, hk2, rfl, hown2, hb2⟩ := hrel
          clear hR2
          have hbk2 := hbk.fr (Fr.of_new hb2 (fun _ => False)) (fun x => x)
          have e0 := hbk2.cell 0
          have e1 := hbk2.cell 1
          have y1 := hbk2.frozen 1
          simp at e0 e1
          have hwl := keeps_le (s.take k2) (held s o)
          rw [List.length_take] at hwl
          by_cases hlt2 : k2 < s.length
          · obtain ⟨e, he⟩ : ∃ e, s[k2]? = some e := ⟨s[k2], List.getElem?_eq_getElem hlt2⟩
            obtain ⟨x, ord⟩ := e
            obtain ⟨gi, rfl, hcell0, _, hgl⟩ := HCV.out k2 _ (cellsS_get (x := x) (by simp [he]))
            have hcell : wr.cell? ⟨gi, k2, none⟩ = some (.string x) := (hb2.cell (p := ⟨gi, k2, none⟩) hgl).trans hcell0
            have hgx : getG s x = some ord := getG_mem s x ord H.out.ok.nd (List.mem_of_getElem? he)
            have hl2 := HLK.out x wr (Fr.of_new hb2 _)
            rw [HG.out x, hgx] at hl2
            have hbs := hb2.size
            have HE := Lib.hid he
            clear hcell0 hgx he
            by_cases ho : x ∈ held s o
            · rw [if_pos ho] at hl2
              simp at hl2
              have HN := Lib.hid (krel_skip HE.out ho hlt2 hb2 hown2)
              clear ho
              go_wp2
              go_roundw
              case rel => exact HN.out
              case measure => simp [intOf]; omega
            · rw [if_neg ho] at hl2
              simp at hl2
              have HN := Lib.hid (fun w1 l' h1 h2 => krel_next (w1 := w1) (l' := l') HE.out ho hlt2 hb2 hown2 h1 h2)
              clear ho
              go_wp2_with (at_builtin; refine wpList_append_own_at _ rfl _ _ 31 rfl wq.heap.size 9 i0 _ 1 16 Try.underlying31 hi0 hz0 hz1 hz2 rfl (by decide) _ _ _ rfl (hown2.alloc _) ⟨wr.heap.size, 0, none⟩ 1 1 [.string x] rfl rfl (cell_one_new _ _ _) (by simp [Value.oneCell']) (by unfold maxLen; omega) (by omega) (by simp; omega) ?_; intro v' w3 hown' hgrow _ _; have HE2 := Lib.hid (HN.out w3 v' hown' hgrow); clear hown' hgrow hl2)
              go_roundw
              case rel => exact HE2.out
              case measure => simp [intOf]; omega
          · have hk3 : k2 = s.length := by omega
            subst hk3
            rw [List.take_length] at hown2
            have HF := Lib.hid (rem_end H.out hb hbk hm HG.out hl hf hb2 hown2)
            obtain ⟨A9, c9, hlf, _, _⟩ := row_form hown2
            subst hlf
            clear hwl hown2 hbk2
            go_wp2
            go_ret
            exact HF.out

end Go.Proofs.Ytholaaojcpifnaa
