/-
  The walks of Credit and Claim.
-/
import Derived.Test.YtpapgldjmglaiaaWalkb
namespace Go.Proofs.Ytpapgldjmglaiaa
open Go.RowKit

/-- How a call of a method ends: the code, the account behind it; no other block has turned. -/
def Left1 (g r : Nat) (w : World) (x : Ac × Int) (e : Ending) (w' : World) : Prop := e = .returned (.int .i64 x.2) ∧ IsA w' g r x.1 ∧ Fr (fun i => i = g ∨ i = r) w w'

theorem IsA.upd {w w' : World} {g r : Nat} {a : Ac} {T cr cl : Int} {f : Int → Int} {l l' : List (Int × Int)} (hB : Blk w' g 50 #[.int .i64 a.F, .int .i64 a.P, .map (some r), .int .i64 T, .int .i64 cr, .int .i64 cl]) (hm : MI w' r l') (hg : ∀ q, get l' q = f q) (hk : ∀ p ∈ l'.map (·.1), 0 ≤ p ∧ p ≤ 1000000) : IsA w' g r ⟨a.F, a.P, T, cr, cl, f⟩ := ⟨hB, l', hm, hg, hk⟩

set_option maxHeartbeats 1000000 in
theorem credit_any (g r K : Nat) (a : Ac) (per vol : Int) (w : World) (h : IsA w g r a) (ok : a.Ok K) : Calls Try.prog 17 #[.pointer (some ⟨g, 0, none⟩), .int .i64 per, .int .i64 vol] w (Left1 g r w (a.credit per vol)) := by
  by_cases hc : a.check per vol = 0
  · have e : a.credit per vol = ({ a with T := per, f := addAt a.f per (vol * a.F / 1000), cr := a.cr + vol * a.F / 1000 }, 0) := by unfold Ac.credit; rw [if_neg (by simpa using hc)]
    rw [e]
    obtain ⟨q1, q2, q3, q4, q5⟩ := check_zero (by simpa using hc)
    obtain ⟨m1, m2, m3, m4⟩ := mul_div_bd q4 q5 ok.f1 ok.f2
    have o1 := ok.one per
    have o2 := ok.c0
    have o3 := ok.c1
    have o4 := ok.kk
    have o5 : 0 ≤ a.cr := by have := ok.bd 0 (a.T + 1).toNat; have := ok.tot; omega
    have o6 : a.cr ≤ 225179981368524800 := by omega
    have HC := Lib.hid hc
    clear hc e
    go_enter Try.func17, Try.ntmps17
    go_wp2_with fail
    refine (check_any g r a per vol w h).mono ?_
    rintro e w1 ⟨rfl, hs1⟩
    have h1 := h.same hs1
    have hne := h1.ne
    rw [HC.out]
    obtain ⟨hblk, l, hm, hget, hkeys⟩ := h1
    have c0 := hblk.cell 0
    have c2 := hblk.cell 2
    have c3 := hblk.cell 3
    have c4 := hblk.cell 4
    have z3 := hblk.frozen 3
    have z4 := hblk.frozen 4
    simp at c0 c2 c3 c4
    have hblk2 := hblk.set_ 3 (.int .i64 per)
    have hf2 : Fr (fun i => i = g ∨ i = r) w (w1.setCell ⟨g, 3, none⟩ (.int .i64 per)) := ((hs1.to _).setCell ⟨g, 3, none⟩ _ (.inl (.inl rfl)))
    have hm2 : MI (w1.setCell ⟨g, 3, none⟩ (.int .i64 per)) r l := hm.fr ((Fr.refl (fun i => i = g) w1).setCell ⟨g, 3, none⟩ _ (.inl rfl)) (fun e => hne e.symm)
    have hl : (Instr.lookup 48 (.map (some r)) (.int .i64 per) false).run Try.prog (w1.setCell ⟨g, 3, none⟩ (.int .i64 per)) = .ok (.int .i64 (a.f per)) (w1.setCell ⟨g, 3, none⟩ (.int .i64 per)) := by
      rw [← hget per]
      exact hm2.lookup Try.underlying48 Try.underlying3 zero3 per
    have HB2 := Lib.hid hblk2
    have HG := Lib.hid hget
    have HKs := Lib.hid hkeys
    clear hblk hm hget hkeys hs1 h hblk2
    by_cases hn : 0 < vol * a.F / 1000
    · go_wp2_with ((with_reducible show wpList _ _ _ (⟨_, Op.mapUpdate _ _ _ _, _, _, _, _⟩ :: _) _ _); refine wpList_mapUpdate_MI rfl _ _ _ rfl Try.underlying48 Try.underlying3 per (a.f per + vol * a.F / 1000) rfl rfl rfl hm2 ?_; intro w3 l3 hm3 hg3 hk3 hf3; have hb3 := HB2.out.fr hf3 hne; have d4 := hb3.cell 4; have y4 := hb3.frozen 4; simp at d4; have HG3 := Lib.hid hg3; have HK3 := Lib.hid hk3; clear hg3 hk3 hl)
      go_ret
      refine ⟨rfl, ⟨(hb3.set_ 4 _), l3, hm3.fr ((Fr.refl (fun i => i = g) w3).setCell ⟨g, 4, none⟩ _ (.inl rfl)) (fun e => hne e.symm), fun q => ?_, fun p hp => ?_⟩, (hf2.trans (hf3.mono fun i _ e => .inr e)).setCell ⟨g, 4, none⟩ _ (.inl (.inl rfl))⟩
      · rw [HG3.out q, HG.out q]
        show _ = addAt a.f per (vol * a.F / 1000) q
        unfold addAt
        split
        · subst q; rfl
        · rfl
      · rcases HK3.out p hp with rfl | hp
        · exact ⟨q1, q2⟩
        · exact HKs.out p hp
    · have hz : Hid (vol * a.F / 1000 = 0) := by show _ = _; omega
      go_wp2
      go_ret
      refine ⟨rfl, ⟨?_, l, hm2, fun q => ?_, HKs.out⟩, hf2⟩
      · have := HB2.out
        show Blk _ g 50 #[.int .i64 a.F, .int .i64 a.P, .map (some r), .int .i64 per, .int .i64 (a.cr + vol * a.F / 1000), .int .i64 a.cl]
        rw [hz.out]
        simpa using this
      · rw [HG.out q]
        show _ = addAt a.f per (vol * a.F / 1000) q
        rw [hz.out]
        unfold addAt
        split <;> omega
  · have e : a.credit per vol = (a, a.check per vol) := by unfold Ac.credit; rw [if_pos hc]
    rw [e]
    have k1 : (a.check per vol != 0) = true := by simpa using hc
    clear e hc
    go_enter Try.func17, Try.ntmps17
    go_wp2_with fail
    refine (check_any g r a per vol w h).mono ?_
    rintro e w1 ⟨rfl, hs1⟩
    have h1 := h.same hs1
    clear h
    go_wp2
    go_ret
    exact ⟨rfl, h1, hs1.to _⟩

theorem credit_nil (per vol : Int) (w : World) : Calls Try.prog 17 #[.pointer none, .int .i64 per, .int .i64 vol] w fun e w' => e = .returned (.int .i64 1) ∧ w = w' := by
  go_enter Try.func17, Try.ntmps17
  go_wp2
  go_ret
  exact ⟨rfl, rfl⟩

end Go.Proofs.Ytpapgldjmglaiaa
