/-
  The walks of Free, Held, Add and Reserve.
-/
import Derived.Test.YtholaaojcpifnaaWalka
namespace Go.Proofs.Ytholaaojcpifnaa
open Go.RowKit

theorem nilS (w : World) : RetS w [] (.returned (.slice none 0 0)) w := ⟨_, rfl, ⟨by simp [cellsS], .inl ⟨rfl, rfl⟩⟩, Below.refl _ _⟩
theorem nul_eq (x : Bs) : (x.toList == nul.toList) = decide (x = nul) := by
  by_cases h : x = nul
  · rw [(Lib.bytes_beq_iff x nul).2 h]; simp [h]
  · rw [(Lib.bytes_beq_false_iff x nul).2 h]; simp [h]
theorem isEmpty_iff (x : Bs) : x.toList.isEmpty = decide (x = nul) := by
  rw [← nul_eq]
  have : nul.toList = [] := by decide +kernel
  rw [this]
  cases x.toList <;> rfl
theorem ne_of {x : Bs} (h : x ≠ nul) : x.toList.isEmpty = false := by rw [isEmpty_iff]; simp [h]
theorem eq_of {x : Bs} (h : x = nul) : x.toList.isEmpty = true := by rw [isEmpty_iff]; simp [h]

set_option maxHeartbeats 400000 in
theorem free_any (g r : Nat) (v : Value) (s : Stk) (w : World) (h : IsS w g r v s) : Calls Try.prog 17 #[.pointer (some ⟨g, 0, none⟩)] w (RetS w (withs s nul)) := by
  go_enter Try.func17, Try.ntmps17
  go_wp2_with fail
  refine (with_any g r v s nul w h).mono ?_
  rintro e w1 ⟨l, rfl, hown, hb⟩
  go_wp2
  go_ret
  exact ⟨_, rfl, hown, hb⟩

set_option maxHeartbeats 400000 in
theorem held_any (g r : Nat) (v : Value) (s : Stk) (o : Bs) (w : World) (h : IsS w g r v s) : Calls Try.prog 19 #[.pointer (some ⟨g, 0, none⟩), .string o] w (RetS w (held s o)) := by
  by_cases ho : o = nul
  · have e : held s o = [] := by unfold held; rw [if_pos ho]
    rw [e]
    have k := eq_of ho
    clear ho e h
    go_enter Try.func19, Try.ntmps19
    go_wp2
    go_ret
    exact nilS w
  · have e : held s o = withs s o := by unfold held; rw [if_neg ho]
    rw [e]
    have k := ne_of ho
    clear ho e
    go_enter Try.func19, Try.ntmps19
    go_wp2_with fail
    refine (with_any g r v s o w h).mono ?_
    rintro e w1 ⟨l, rfl, hown, hb⟩
    go_wp2
    go_ret
    exact ⟨_, rfl, hown, hb⟩

/-- How a call ends that changes the stock: its code, the stock behind it; no other block has turned; its row is the old one or a new one. -/
def LeftS (g r : Nat) (v : Value) (w : World) (x : Stk × Int) (e : Ending) (w' : World) : Prop :=
  e = .returned (.int .i64 x.2) ∧ ∃ v', IsS w' g r v' x.1 ∧ Fr (Own g r v) w w' ∧ ∀ i, v'.ownBlock = some i → v.ownBlock = some i ∨ w.heap.size ≤ i

theorem LeftS.same {g r : Nat} {v : Value} {w : World} {s : Stk} {c : Int} (h : IsS w g r v s) : LeftS g r v w (s, c) (.returned (.int .i64 c)) w := ⟨rfl, v, h, Fr.refl _ _, fun _ hi => .inl hi⟩

set_option maxHeartbeats 1000000 in
theorem reserve_any (g r : Nat) (v : Value) (s : Stk) (x o : Bs) (w : World) (h : IsS w g r v s) : Calls Try.prog 22 #[.pointer (some ⟨g, 0, none⟩), .string x, .string o] w (LeftS g r v w (sReserve s x o)) := by
  have c0 := h.blk.cell 0
  have hl := h.look2 x
  simp at c0
  have H := Lib.hid h
  by_cases ho : o = nul
  · have e : sReserve s x o = (s, 6) := by unfold sReserve; rw [if_pos ho]
    rw [e]
    have k := eq_of ho
    clear ho e h
    go_enter Try.func22, Try.ntmps22
    go_wp2
    go_ret
    exact LeftS.same H.out
  · have k := ne_of ho
    cases hg : getG s x with
    | none =>
      have e : sReserve s x o = (s, 8) := by unfold sReserve; rw [if_neg ho, hg]
      rw [e]
      rw [hg] at hl
      simp at hl
      clear ho e h hg
      go_enter Try.func22, Try.ntmps22
      go_wp2
      go_ret
      exact LeftS.same H.out
    | some hd =>
      rw [hg] at hl
      simp at hl
      by_cases hh : hd = nul
      · have e : sReserve s x o = (setO s x o, 0) := by unfold sReserve; rw [if_neg ho, hg]; simp [hh]
        rw [e]
        have k2 := eq_of hh
        obtain ⟨l, hm, hgl⟩ := h.map
        have HG := Lib.hid hgl
        have HGx := Lib.hid hg
        clear ho e h hg hgl hh
        go_enter Try.func22, Try.ntmps22
        go_wp2_with ((with_reducible show wpList _ _ _ (⟨_, Op.mapUpdate _ _ _ _, _, _, _, _⟩ :: _) _ _); refine wpList_mapUpdate_MG rfl _ _ _ rfl Try.underlying53 Try.underlying9 x o rfl rfl rfl hm ?_; intro w1 l1 hm1 hg1 hf1; have HG1 := Lib.hid hg1; clear hl hg1)
        go_ret
        refine ⟨rfl, v, ⟨H.out.blk.fr hf1 H.out.gr, ⟨l1, hm1, fun q => ?_⟩, ?_, setO_ok H.out.ok x o⟩, hf1.mono fun i _ e => .inr (.inl e), fun _ hi => .inl hi⟩
        · rw [HG1.out q, setO_get, HG.out q]
          split
          · subst q; rw [HGx.out]; rfl
          · rfl
        · have := own_fr H.out.row hf1 (fun i hi e => H.out.vr (by rw [← e]; exact hi))
          show w1.ownsRow 0 9 1 v (setO s x o).length (cellsS ((setO s x o).map (·.1)))
          rw [setO_fst]
          unfold setO
          rw [List.length_map]
          exact this
      · have e : sReserve s x o = (s, 14) := by unfold sReserve; rw [if_neg ho, hg]; simp [hh]
        rw [e]
        have k2 := ne_of hh
        clear ho e h hg hh
        go_enter Try.func22, Try.ntmps22
        go_wp2
        go_ret
        exact LeftS.same H.out

end Go.Proofs.Ytholaaojcpifnaa
