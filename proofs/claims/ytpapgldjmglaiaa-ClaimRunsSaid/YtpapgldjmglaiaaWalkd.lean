/-
  The walk of Claim.
-/
import Derived.Test.YtpapgldjmglaiaaWalkc
namespace Go.Proofs.Ytpapgldjmglaiaa
open Go.RowKit

/-- f, drained for the first j periods. -/
def part (f : Int → Int) (lo : Int) (N : Nat) (V : Int) (j : Nat) : Int → Int := fun q => if lo ≤ q ∧ q < lo + j then drain f lo N V q else f q

theorem part_all (f : Int → Int) (lo : Int) (N : Nat) (V : Int) (j : Nat) (hj : j ≤ N) (hn : ∀ p, 0 ≤ f p) (h : j = N ∨ V ≤ rs f lo j) (q : Int) : part f lo N V j q = drain f lo N V q := by
  unfold part
  split
  · rfl
  · unfold drain
    split
    · rename_i h1 h2
      rcases h with h | h
      · subst h; exact absurd h2 h1
      · have m1 := rs_mono hn lo (m := j) (n := (q - lo).toNat) (by omega)
        have m2 := rs_mono hn lo (m := j) (n := (q - lo).toNat + 1) (by omega)
        omega
    · rfl
theorem part_next (f : Int → Int) (lo : Int) (N : Nat) (V : Int) (j : Nat) (hj : j < N) (q : Int) : part f lo N V (j + 1) q = if q = lo + j then f q - (min V (rs f lo (j + 1)) - min V (rs f lo j)) else part f lo N V j q := by
  unfold part
  by_cases hq : q = lo + j
  · subst hq
    rw [if_pos (by omega), if_pos rfl]
    unfold drain
    rw [if_pos (by omega), show (lo + (j : Int) - lo).toNat = j by omega]
  · rw [if_neg hq]
    by_cases h2 : lo ≤ q ∧ q < lo + j
    · rw [if_pos h2, if_pos (by omega)]
    · rw [if_neg h2, if_neg (by omega)]

/-- What holds at the head of each round. -/
def CRel (w : World) (g r : Nat) (a : Ac) (per V : Int) (N : Nat) (v p : Value) (wr : World) : Prop :=
  ∃ (j : Nat) (l : List (Int × Int)), j ≤ N ∧ v = .int .i64 (V - min V (rs a.f (per - a.P + 1) j)) ∧ p = .int .i64 (per - a.P + 1 + j) ∧
    Blk wr g 50 #[.int .i64 a.F, .int .i64 a.P, .map (some r), .int .i64 per, .int .i64 a.cr, .int .i64 (a.cl + V)] ∧ MI wr r l ∧ (∀ q, get l q = part a.f (per - a.P + 1) N V j q) ∧ (∀ p ∈ l.map (·.1), 0 ≤ p ∧ p ≤ 1000000) ∧ Fr (fun i => i = g ∨ i = r) w wr

theorem crel_next {w wr w' : World} {g r : Nat} {a : Ac} {per V u : Int} {N j : Nat} {l l' : List (Int × Int)} (hj : j < N)
    (hb : Blk wr g 50 #[.int .i64 a.F, .int .i64 a.P, .map (some r), .int .i64 per, .int .i64 a.cr, .int .i64 (a.cl + V)]) (hne : g ≠ r)
    (hg : ∀ q, get l q = part a.f (per - a.P + 1) N V j q) (hf : Fr (fun i => i = g ∨ i = r) w wr)
    (hm' : MI w' r l') (hg' : ∀ q, get l' q = if q = per - a.P + 1 + j then u else get l q) (hk' : ∀ q ∈ l'.map (·.1), 0 ≤ q ∧ q ≤ 1000000) (hf' : Fr (fun i => i = r) wr w')
    (hu : u = a.f (per - a.P + 1 + j) - (min V (rs a.f (per - a.P + 1) (j + 1)) - min V (rs a.f (per - a.P + 1) j))) :
    CRel w g r a per V N (.int .i64 (V - min V (rs a.f (per - a.P + 1) (j + 1)))) (.int .i64 (per - a.P + 1 + j + 1)) w' :=
  ⟨j + 1, l', by omega, rfl, by simp [Int.add_assoc], hb.fr hf' hne, hm', fun q => by
    rw [hg' q, part_next _ _ _ _ _ hj, hg q, hu]
    split
    · subst q; rfl
    · rfl, hk', hf.trans (hf'.mono fun i _ e => .inr e)⟩

set_option maxRecDepth 100000 in
set_option maxHeartbeats 2000000 in
theorem claim_any (g r K : Nat) (a : Ac) (per vol : Int) (w : World) (h : IsA w g r a) (ok : a.Ok K) : Calls Try.prog 18 #[.pointer (some ⟨g, 0, none⟩), .int .i64 per, .int .i64 vol] w (Left1 g r w (a.claim per vol)) := by
  by_cases hc : a.check per vol = 0
  · obtain ⟨q1, q2, q3, q4, q5⟩ := check_zero (by simpa using hc)
    have hP : Ac.isP per = true := by simp [Ac.isP]; omega
    have hl : a.left per = rs a.f (per - a.P + 1) a.P.toNat := by unfold Ac.left; rw [if_pos hP]
    have hlb := ok.bd (per - a.P + 1) a.P.toNat
    by_cases hq : vol > a.left per
    · have e : a.claim per vol = (a, 23) := by unfold Ac.claim; rw [if_neg (by simpa using hc), if_pos hq]
      rw [e]
      have HC := Lib.hid hc
      clear hc e hl
      go_enter Try.func18, Try.ntmps18
      go_wp2_with fail
      refine (check_any g r a per vol w h).mono ?_
      rintro e w1 ⟨rfl, hs1⟩
      have h1 := h.same hs1
      rw [HC.out]
      go_wp2_with fail
      refine (left_any g r K a per w1 h1 ok).mono ?_
      rintro e w2 ⟨rfl, hs2⟩
      have h2 := h1.same hs2
      clear h h1
      go_wp2
      go_ret
      exact ⟨rfl, h2, (hs1.to _).trans (hs2.to _)⟩
    · have e : a.claim per vol = ({ a with T := per, f := drain a.f (per - a.P + 1) a.P.toNat vol, cl := a.cl + vol }, 0) := by unfold Ac.claim; rw [if_neg (by simpa using hc), if_neg hq]
      rw [e]
      have HC := Lib.hid hc
      have p1 := ok.p1
      have p2 := ok.p2
      have o2 := ok.c0
      have o3 : a.cl ≤ 225179981368524800 := by have := ok.bd 0 (a.T + 1).toNat; have := ok.tot; have := ok.c1; have := ok.kk; omega
      have HB := Lib.hid ok.bd
      have HO := Lib.hid ok.one
      have HN := Lib.hid ok.nn
      have HL := Lib.hid hl
      have HSP := Lib.hid ok.sp
      have t2 := ok.t2
      clear hc e hl
      go_enter Try.func18, Try.ntmps18
      go_wp2_with fail
      refine (check_any g r a per vol w h).mono ?_
      rintro e w1 ⟨rfl, hs1⟩
      have h1 := h.same hs1
      rw [HC.out]
      go_wp2_with fail
      refine (left_any g r K a per w1 h1 ok).mono ?_
      rintro e w2 ⟨rfl, hs2⟩
      have h2 := h1.same hs2
      have hf2 : Fr (fun i => i = g ∨ i = r) w w2 := (hs1.to _).trans (hs2.to _)
      have hne := h2.ne
      obtain ⟨hblk, l, hm, hget, hkeys⟩ := h2
      have c1 := hblk.cell 1
      have c3 := hblk.cell 3
      have c5 := hblk.cell 5
      have z3 := hblk.frozen 3
      have z5 := hblk.frozen 5
      simp at c1 c3 c5
      have hR : CRel w g r a per vol a.P.toNat (.int .i64 vol) (.int .i64 (per - a.P + 1)) ((w2.setCell ⟨g, 3, none⟩ (.int .i64 per)).setCell ⟨g, 5, none⟩ (.int .i64 (a.cl + vol))) :=
        ⟨0, l, by omega, by simp [rs]; omega, by simp, (hblk.set_ 3 _).set_ 5 _, hm.fr (((Fr.refl (fun i => i = g) w2).setCell ⟨g, 3, none⟩ _ (.inl rfl)).setCell ⟨g, 5, none⟩ _ (.inl rfl)) (fun e => hne e.symm),
          fun q => by rw [hget q]; unfold part; rw [if_neg (by omega)], hkeys, (hf2.setCell ⟨g, 3, none⟩ _ (.inl (.inl rfl))).setCell ⟨g, 5, none⟩ _ (.inl (.inl rfl))⟩
      clear h h1 hs1 hs2 hf2 hblk hm hget hkeys ok
      go_wp2
      go_loopw [2, 8] (fun v p wr => CRel w g r a per vol a.P.toNat v p wr) (fun _ p _ => (per + 1 - intOf p).toNat)
      case atStart => exact hR
      case round =>
        obtain ⟨j, l, hj, rfl, rfl, hb, hm, hget, hkeys, hf⟩ := hrel
        clear hR
        have d2 := hb.cell 2
        simp at d2
        have b1 := HB.out (per - a.P + 1) j
        by_cases hlt : j < a.P.toNat
        · have t1 : per - a.P + 1 + (j : Int) ≤ per := by omega
          by_cases hv : 0 < vol - min vol (rs a.f (per - a.P + 1) j)
          · have hlk : ∀ q, (Instr.lookup 48 (.map (some r)) (.int .i64 q) false).run Try.prog wr = .ok (.int .i64 (get l q)) wr := fun q => hm.lookup Try.underlying48 Try.underlying3 zero3 q
            have hgp : get l (per - a.P + 1 + j) = a.f (per - a.P + 1 + j) := by rw [hget]; unfold part; rw [if_neg (by omega)]
            have hl0 := hlk (per - a.P + 1 + j)
            rw [hgp] at hl0
            have o1 := HO.out (per - a.P + 1 + j)
            have ers : rs a.f (per - a.P + 1) (j + 1) = rs a.f (per - a.P + 1) j + a.f (per - a.P + 1 + j) := rfl
            have ER := Lib.hid ers
            have HGet := Lib.hid hget
            have HKeys := Lib.hid hkeys
            clear hlk hgp ers hget hkeys
            by_cases hu : a.f (per - a.P + 1 + j) < vol - min vol (rs a.f (per - a.P + 1) j)
            · go_wp2_with ((with_reducible show wpList _ _ _ (⟨_, Op.call ⟨Callee.builtin Builtin.delete, _, _⟩, _, _, _, _⟩ :: _) _ _); refine wpList_delete_MI rfl _ _ _ rfl Try.underlying48 Try.underlying3 (per - a.P + 1 + j) rfl rfl hm ?_; intro w3 l3 hm3 hg3 hk3 hf3; have HE := Lib.hid (crel_next hlt hb hne HGet.out hf hm3 hg3 (fun q hq => HKeys.out q (hk3 q hq)) hf3 (by have := ER.out; omega)); clear hl0 hg3 hk3)
              go_roundw
              case rel => have := HE.out; rw [show vol - min vol (rs a.f (per - a.P + 1) (j + 1)) = vol - min vol (rs a.f (per - a.P + 1) j) - a.f (per - a.P + 1 + j) from by have := ER.out; omega] at this; exact this
              case measure => simp [intOf]; omega
            · have hu1 : vol - min vol (rs a.f (per - a.P + 1) j) ≤ a.f (per - a.P + 1 + j) := by omega
              by_cases hu2 : vol - min vol (rs a.f (per - a.P + 1) j) = a.f (per - a.P + 1 + j)
              · have ku : (vol - min vol (rs a.f (per - a.P + 1) j) == a.f (per - a.P + 1 + j)) = true := by simpa using hu2
                have HU2 := Lib.hid hu2
                clear hu2
                go_wp2_with ((with_reducible show wpList _ _ _ (⟨_, Op.call ⟨Callee.builtin Builtin.delete, _, _⟩, _, _, _, _⟩ :: _) _ _); refine wpList_delete_MI rfl _ _ _ rfl Try.underlying48 Try.underlying3 (per - a.P + 1 + j) rfl rfl hm ?_; intro w3 l3 hm3 hg3 hk3 hf3; have HE := Lib.hid (crel_next hlt hb hne HGet.out hf hm3 hg3 (fun q hq => HKeys.out q (hk3 q hq)) hf3 (by have := ER.out; have := HU2.out; omega)); clear hl0 hg3 hk3)
                go_roundw
                case rel => have := HE.out; rw [show vol - min vol (rs a.f (per - a.P + 1) (j + 1)) = 0 from by have := ER.out; have := HU2.out; omega] at this; exact this
                case measure => simp [intOf]; omega
              · have hu' : vol - min vol (rs a.f (per - a.P + 1) j) < a.f (per - a.P + 1 + j) := by omega
                have ku : (vol - min vol (rs a.f (per - a.P + 1) j) == a.f (per - a.P + 1 + j)) = false := by simpa using hu2
                have hsp := HSP.out (per - a.P + 1 + j) (by omega)
                clear hu2
                go_wp2_with ((with_reducible show wpList _ _ _ (⟨_, Op.mapUpdate _ _ _ _, _, _, _, _⟩ :: _) _ _); refine wpList_mapUpdate_MI rfl _ _ _ rfl Try.underlying48 Try.underlying3 (per - a.P + 1 + j) (a.f (per - a.P + 1 + j) - (vol - min vol (rs a.f (per - a.P + 1) j))) rfl rfl rfl hm ?_; intro w3 l3 hm3 hg3 hk3 hf3; have HE := Lib.hid (crel_next hlt hb hne HGet.out hf hm3 hg3 (fun q hq => by (rcases hk3 q hq with e | e; (· (rw [e]; omega)); (· exact HKeys.out q e))) hf3 (by have := ER.out; omega)); clear hl0 hg3 hk3)
                go_roundw
                case rel => have := HE.out; rw [show vol - min vol (rs a.f (per - a.P + 1) (j + 1)) = 0 from by have := ER.out; omega] at this; exact this
                case measure => simp [intOf]; omega
          · have HGet := Lib.hid hget
            clear hget
            have hfin : Hid (∀ q, get l q = drain a.f (per - a.P + 1) a.P.toNat vol q) := fun q => (HGet.out q).trans (part_all _ _ _ _ _ hj HN.out (.inr (by omega)) q)
            have hv' : vol - min vol (rs a.f (per - a.P + 1) j) ≤ 0 := by omega
            clear hv
            go_wp2
            go_ret
            exact ⟨rfl, ⟨hb, l, hm, hfin.out, hkeys⟩, hf⟩
        · have t1 : ¬ per - a.P + 1 + (j : Int) ≤ per := by omega
          have HGet := Lib.hid hget
          clear hget
          have hfin : Hid (∀ q, get l q = drain a.f (per - a.P + 1) a.P.toNat vol q) := fun q => (HGet.out q).trans (part_all _ _ _ _ _ hj HN.out (.inl (by omega)) q)
          go_wp2
          go_ret
          exact ⟨rfl, ⟨hb, l, hm, hfin.out, hkeys⟩, hf⟩
  · have e : a.claim per vol = (a, a.check per vol) := by unfold Ac.claim; rw [if_pos hc]
    rw [e]
    have k1 : (a.check per vol != 0) = true := by simpa using hc
    clear e hc
    go_enter Try.func18, Try.ntmps18
    go_wp2_with fail
    refine (check_any g r a per vol w h).mono ?_
    rintro e w1 ⟨rfl, hs1⟩
    have h1 := h.same hs1
    clear h
    go_wp2
    go_ret
    exact ⟨rfl, h1, hs1.to _⟩

theorem claim_nil (per vol : Int) (w : World) : Calls Try.prog 18 #[.pointer none, .int .i64 per, .int .i64 vol] w fun e w' => e = .returned (.int .i64 1) ∧ w = w' := by
  go_enter Try.func18, Try.ntmps18
  go_wp2
  go_ret
  exact ⟨rfl, rfl⟩
theorem left_nil (per : Int) (w : World) : Calls Try.prog 15 #[.pointer none, .int .i64 per] w fun e w' => e = .returned (.int .i64 0) ∧ w = w' := by
  go_enter Try.func15, Try.ntmps15
  go_wp2
  go_ret
  exact ⟨rfl, rfl⟩
theorem expired_nil (per : Int) (w : World) : Calls Try.prog 16 #[.pointer none, .int .i64 per] w fun e w' => e = .returned (.int .i64 0) ∧ w = w' := by
  go_enter Try.func16, Try.ntmps16
  go_wp2
  go_ret
  exact ⟨rfl, rfl⟩

end Go.Proofs.Ytpapgldjmglaiaa
