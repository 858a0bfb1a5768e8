/-
  The walks of Add and Release.
-/
import Derived.Test.YtholaaojcpifnaaWalkb
namespace Go.Proofs.Ytholaaojcpifnaa
open Go.RowKit

theorem Fr.of_row {w w' : World} {row : Option Nat} (h : w.grownBy w' row) : Fr (fun i => row = some i) w w' := ⟨h.os, h.tape, h.output, h.size, fun i hi hn => h.block i hi (fun e => hn e.symm)⟩

/-- Behind 'append' and the store of the new slice. -/
theorem add_end {w w1 w3 : World} {g r : Nat} {v v' : Value} {s : Stk} {x : Bs} {l1 : List (Bs × Bs)} (H : IsS w g r v s) (hm1 : MG Value.string w1 r l1) (hg1 : ∀ q, getG l1 q = if q = x then some nul else getG s q) (hf1 : Fr (fun i => i = r) w w1)
    (hx : getG s x = none) (hok : SOk (s ++ [(x, nul)])) (hown : w3.ownsRow 0 9 1 v' (s.length + 1) (cellsS (s.map (·.1)) ++ [.string x])) (hgr : (w1.alloc (.cells #[.string x] 9)).grownBy w3 v.ownBlock) (hat : v'.ownBlock = v.ownBlock ∨ v'.ownBlock = some (w1.alloc (.cells #[.string x] 9)).heap.size) :
    LeftS g r v w (s ++ [(x, nul)], 0) (.returned (.int .i64 0)) (w3.setCell ⟨g, 1, none⟩ v') := by
  have hz1 := hf1.size
  have f13 : Fr (fun i => v.ownBlock = some i) w1 w3 := ((Fr.refl _ _).alloc _).trans (Fr.of_row hgr)
  have hb1 := H.blk.fr hf1 H.gr
  have hb3 := hb1.fr f13 H.vg
  have hm3 := hm1.fr f13 H.vr
  have fset : Fr (fun i => i = g) w3 (w3.setCell ⟨g, 1, none⟩ v') := (Fr.refl _ _).setCell _ _ (.inl rfl)
  have hvg : v'.ownBlock ≠ some g := own_ne hown hb3 (by decide)
  refine ⟨rfl, v', ⟨hb3.set_ 1 v', ⟨l1, hm3.fr fset (fun e => H.gr e.symm), fun q => ?_⟩, ?_, hok⟩, ?_, ?_⟩
  · rw [hg1 q]
    have hnm := (getG_none_iff s x).1 hx
    rw [getG_append s x nul q hnm]
  · have := own_fr hown fset (fun i hi e => hvg (by rw [← e]; exact hi))
    simpa [cellsS] using this
  · exact ((hf1.mono fun i _ e => .inr (.inl e)).trans (f13.mono fun i _ e => .inr (.inr e))).trans (fset.mono fun i _ e => .inl e)
  · intro i hi
    rcases hat with e | e
    · rw [e] at hi; exact .inl hi
    · rw [e] at hi
      simp only [Option.some.injEq, World.size_alloc] at hi
      right
      omega

set_option maxRecDepth 100000 in
set_option maxHeartbeats 1000000 in
theorem add_any (g r : Nat) (v : Value) (s : Stk) (x : Bs) (w : World) (h : IsS w g r v s) : Calls Try.prog 21 #[.pointer (some ⟨g, 0, none⟩), .string x] w (LeftS g r v w (sAdd s x)) := by
  obtain ⟨i0, hi0, hz0, hz1, hz2⟩ := info_parts info9
  have c0 := h.blk.cell 0
  have c1 := h.blk.cell 1
  have hl := h.look2 x
  simp at c0 c1
  have H := Lib.hid h
  obtain ⟨A, cap, hv, hn, _⟩ := row_form h.row
  by_cases hx : x = nul
  · have e : sAdd s x = (s, 6) := by unfold sAdd; rw [if_pos hx]
    rw [e]
    have k := eq_of hx
    clear hx e h hv
    go_enter Try.func21, Try.ntmps21
    go_wp2
    go_ret
    exact LeftS.same H.out
  · have k := ne_of hx
    cases hg : getG s x with
    | some o =>
      have e : sAdd s x = (s, 7) := by unfold sAdd; rw [if_neg hx, if_pos (by rw [hg]; rfl)]
      rw [e]
      rw [hg] at hl
      simp at hl
      clear hx e h hg hv
      go_enter Try.func21, Try.ntmps21
      go_wp2
      go_ret
      exact LeftS.same H.out
    | none =>
      rw [hg] at hl
      simp at hl
      subst hv
      by_cases hle : 512 ≤ s.length
      · have e : sAdd s x = (s, 12) := by unfold sAdd; rw [if_neg hx, if_neg (by rw [hg]; simp), if_pos hle]
        rw [e]
        have hle2 : (512 : Int) ≤ (s.length : Int) := by omega
        have kle : decide ((512 : Int) ≤ (s.length : Int)) = true := by simpa using hle2
        clear hx e h hg hle
        go_enter Try.func21, Try.ntmps21
        go_wp2
        go_ret
        exact LeftS.same H.out
      · have e : sAdd s x = (s ++ [(x, nul)], 0) := by unfold sAdd; rw [if_neg hx, if_neg (by rw [hg]; simp), if_neg hle]
        have hok := sAdd_ok h.ok x
        rw [e] at hok ⊢
        obtain ⟨l, hm, hgl⟩ := h.map
        have HG := Lib.hid hgl
        have HX := Lib.hid hg
        have HOK := Lib.hid hok
        have hle2 : (s.length : Int) < 512 := by omega
        have HLE := Lib.hid hle
        clear hx e h hg hgl hok hle
        go_enter Try.func21, Try.ntmps21
        go_wp2_with (first | ((with_reducible show wpList _ _ _ (⟨_, Op.mapUpdate _ _ _ _, _, _, _, _⟩ :: _) _ _); refine wpList_mapUpdate_MG rfl _ _ _ rfl Try.underlying53 Try.underlying9 x nul rfl rfl rfl hm ?_; intro w1 l1 hm1 hg1 hf1; have HG1 : Hid (∀ q, getG l1 q = if q = x then some nul else getG s q) := (fun q => by rw [hg1 q, HG.out q]); have d1 := (H.out.blk.fr hf1 H.out.gr).cell 1; simp at d1; have hrow1 := own_fr H.out.row hf1 (fun i hi e => H.out.vr (by rw [← e]; exact hi)); clear hl hg1) | (at_builtin; refine wpList_append_own_at _ rfl _ _ 31 rfl 0 9 i0 _ 1 16 Try.underlying31 hi0 hz0 hz1 hz2 rfl (by decide) _ _ _ rfl (hrow1.alloc _) ⟨w1.heap.size, 0, none⟩ 1 1 [.string x] rfl rfl (cell_one_new _ _ _) (by simp [Value.oneCell']) (by unfold maxLen; omega) (by have := hle2; omega) (Nat.zero_le _) ?_; intro v' w3 hown' hgrow _ hat; have hb3 := ((H.out.blk.fr hf1 H.out.gr).fr (((Fr.refl _ _).alloc _).trans (Fr.of_row hgrow)) H.out.vg); have d3 := hb3.cell 1; have z3 := hb3.frozen 1; simp at d3; have HE := Lib.hid (add_end H.out hm1 HG1.out hf1 HX.out HOK.out hown' hgrow hat); have hex : ∃ A' n' c', v' = .slice A' n' c' := (let ⟨A', c', e, _⟩ := row_form hown'; ⟨A', _, c', e⟩); obtain ⟨A', n', c', hv'⟩ := hex; rw [hv'] at HE ⊢; clear hown' hgrow hat hv'))
        go_ret
        exact HE.out

end Go.Proofs.Ytholaaojcpifnaa
