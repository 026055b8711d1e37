/- A promise stays, whatever is paired: the saying of the case law 20 Part 7. Conditions: none. -/
import Derived.Test.YtbgebljjmpklkaaGreatDoorPartF
import Derived.ProofKit
import Derived.OpenShut
import Derived.SizedLaws
import Derived.Handed
import Derived.ChangeSame
import Derived.Test.YtbgebljjmpklkaaGreatDoorRows
import Derived.Test.YtbgebljjmpklkaaGreatDoorTie
import Derived.Test.YtbgebljjmpklkaaGreatDoorCards
import Derived.LaidMore
import Derived.Carry
import Derived.Stop.Joined
import Derived.SevenTiedAt
import Derived.Stop.LaidErr
import Derived.Lib.LaidTab
import Derived.Lay
import Derived.MakeChecks
import Derived.JoinedCond
import Derived.ChangeArms
set_option linter.unusedSimpArgs false
set_option linter.unusedVariables false
namespace Go.Idl
open Go Go.Proofs.Tryz
set_option pp.deepTerms false
theorem W8 : ∀ n : Fin 256, (if decide (48 ≤ n.1 ∧ n.1 ≤ 57) = true then IntKind.u8.wrap ((n.1 : Int) - 48) else if decide (97 ≤ n.1 ∧ n.1 ≤ 102) = true then IntKind.u8.wrap ((IntKind.u8.wrap ((n.1 : Int) - 97)) + 10) else if decide (65 ≤ n.1 ∧ n.1 ≤ 70) = true then IntKind.u8.wrap ((IntKind.u8.wrap ((n.1 : Int) - 65)) + 10) else 16) = (((Kg (UInt8.ofNat n.1)).getD 16 : Nat) : Int) := by decide +kernel
theorem Qe (x : UInt8) : NS (x.toNat : Int) = some (((Kg x).getD 16 : Nat) : Int) := by
 have h := W8 ⟨x.toNat, x.toNat_lt⟩; simp only [UInt8.ofNat_toNat] at h; unfold NS; rw [← h, show Fk (x.toNat : Int) 48 57 = _ from Fa x 48 57, Option.bind_some]; split
 ·rfl
 ·rw [show Fk (x.toNat : Int) 97 102 = _ from Fa x 97 102, Option.bind_some]; split
  ·rfl
  ·rw [show Fk (x.toNat : Int) 65 70 = _ from Fa x 65 70, Option.bind_some]; split <;> rfl
theorem Qf {x : UInt8} {a : Nat} (h : Kg x = some a) : a < 16 := by
 unfold Kg at h; split at h
 ·cases h; omega
 ·split at h
  ·cases h; omega
  ·split at h
   ·cases h; omega
   ·cases h
theorem eY : ∀ a b : Fin 16, orI .u8 (IntKind.u8.wrap ((a.1 : Int) * 16)) (b.1 : Int) = ((16 * a.1 + b.1 : Nat) : Int) := by decide +kernel
theorem Ua {r r' : Str} {y : UInt8} (h : Fm r = some (y, r')) : r'.length < r.length := by
 cases r with
 | nil => cases h
 | cons z r =>
  simp only [Fm] at h; split at h
  ·cases h; simp
  ·cases r with
   | nil => cases h
   | cons w r =>
    simp only [Option.bind_eq_some_iff] at h; obtain ⟨a, _, b, _, h⟩ := h; cases h; simp; omega
theorem Pj : OV = some HQ := rfl
theorem Cg {x c : UInt8} {n : Nat} (hc : c.toNat = n) : ((x.toNat : Int) = (n : Int)) ↔ x = c := Ka c hc
theorem W9 (p r : Str) (h : (p ++ r).length ≤ 10000000) :
    (Fm r = none → Rm (At p r) = some (.error ())) ∧ ∀ y r', Fm r = some (y, r') → ∃ p', p' ++ r' = p ++ r ∧ Rm (At p r) = some (.ok ((y.toNat : Int), At p' r')) := by
 unfold Rm; rw [CK, Option.bind_some]; cases r with
 | nil => exact ⟨fun _ => rfl, fun _ _ h => (by cases h)⟩
 | cons y r =>
  rw [show (hdN (y :: r)).2 = true from rfl, if_pos rfl, Pj, Option.bind_some, show (hdN (y :: r)).1 = (y.toNat : Int) from rfl, Fg, Dw h]; have e32 : ((y.toNat : Int) = 32) ↔ y = 32 := Cg (c := 32) rfl; have e35 : ((y.toNat : Int) = 35) ↔ y = 35 := Cg (c := 35) rfl; by_cases hp : ME y = true
  ·have e1 : Fm (y :: r) = some (y, r) := by rw [Fm.eq_def]; simp only [hp, if_true]
   rw [e1]; refine ⟨fun h => (by cases h), fun y' r' h' => ?_⟩; cases h'; refine ⟨p ++ [y], by simp, ?_⟩; simp only [ME, Bool.or_eq_true, decide_eq_true_eq] at hp; by_cases hs : De y = true
   ·rw [if_pos hs]
   ·rw [if_neg hs]; by_cases h3 : y = 32
    ·rw [if_pos (e32.2 h3)]
    ·rw [if_neg (fun e => h3 (e32.1 e))]; have h4 : y = 35 := by
      rcases hp with (hp | hp) | hp
      ·exact absurd hp hs
      ·exact absurd hp h3
      ·exact hp
     rw [if_pos (e35.2 h4)]
  ·have hs : ¬ De y = true := fun e => hp (by simp [ME, e]); have h3 : ¬ y = 32 := fun e => hp (by simp [ME, e]); have h4 : ¬ y = 35 := fun e => hp (by simp [ME, e]); rw [if_neg hs, if_neg (fun e => h3 (e32.1 e)), if_neg (fun e => h4 (e35.1 e)), CK, Option.bind_some]; cases r with
   | nil =>
    have e1 : Fm [y] = none := by rw [Fm.eq_def]; simp only [hp]; rfl
    rw [e1]; exact ⟨fun _ => rfl, fun _ _ h => by cases h⟩
   | cons z r =>
    have e1 : Fm (y :: z :: r) = (Kg y).bind fun a => (Kg z).bind fun b => some (UInt8.ofNat (16 * a + b), r) := by rw [Fm.eq_def]; simp only [hp]; rfl
    rw [e1, show (hdN (z :: r)).2 = true from rfl, if_pos rfl, show (hdN (z :: r)).1 = (z.toNat : Int) from rfl, Qe, Option.bind_some]; cases hy : Kg y with
    | none => exact ⟨fun _ => rfl, fun _ _ h => by cases h⟩
    | some a =>
     have ha := Qf hy; rw [Option.getD_some, if_pos (by omega), Qe, Option.bind_some]; cases hz : Kg z with
     | none => exact ⟨fun _ => rfl, fun _ _ h => by cases h⟩
     | some b =>
      have hb := Qf hz; simp only [Option.getD_some, Option.bind_some]; rw [if_pos (by omega)]; refine ⟨fun h => (by cases h), fun y' r' h' => ?_⟩; cases h'; refine ⟨p ++ [y] ++ [z], by simp, ?_⟩; have e2 := eY ⟨a, ha⟩ ⟨b, hb⟩; simp only at e2; rw [e2]; have e3 : (UInt8.ofNat (16 * a + b)).toNat = 16 * a + b := by
       rw [UInt8.toNat_ofNat']; exact Nat.mod_eq_of_lt (by omega)
      rw [e3]; have h' : (p ++ [y] ++ z :: r).length ≤ 10000000 := by simpa using h
      have e4 := Dw h'; have e5 : (At p (y :: z :: r)).fs = (At (p ++ [y]) (z :: r)).fs := by simp [At]
      have e6 : IntKind.i64.wrap ((At p (y :: z :: r)).fat + 1) = (At (p ++ [y]) (z :: r)).fat := by
       have := congrArg AH.fat (Dw h); simpa using this
      rw [← e4, e5, e6]
theorem Lp (p r : Str) (x : Int) (out : Str) : CU x out (At p r) = some (.inl (out, false, decide (x = 32), (hdN r).1, (hdN r).2, At p r)) := by
 unfold CU; rw [CK]; rfl
noncomputable def Ry (y : ((List UInt8) × Bool × AH) ⊕ (Except Unit ((List UInt8) × AH))) : Option (Except Unit ((List UInt8) × AH)) := Sum.elim (fun (e : (List UInt8) × Bool × AH) => GU e.1 e.2.1 e.2.2) (fun (q : Except Unit ((List UInt8) × AH)) => some q) y
noncomputable abbrev stV := fun (s : (List UInt8) × Bool × Bool × Int × Bool × AH) => CJ s.1 s.2.1 s.2.2.1 s.2.2.2.1 s.2.2.2.2.1 s.2.2.2.2.2
theorem NY (blank : Bool) (out p r : Str) : (MF blank out r = none → Ry (.inl (out, blank, At p r)) = some (.error ())) ∧ ∀ v r', MF blank out r = some (v, r') → r' = r ∧ Ry (.inl (out, blank, At p r)) = some (.ok (v, At p r)) := by
 unfold MF Ry; simp only [Sum.elim_inl]; unfold GU; cases blank with
 | true => simp
 | false =>
  by_cases h1 : 1 ≤ out.length
  ·by_cases h2 : out.length ≤ 200
   ·have a1 : (1 : Int) ≤ (out.length : Int) := by omega
    have a2 : (out.length : Int) ≤ 200 := by omega
    simp only [Bool.false_eq_true, not_false_eq_true, if_true, a1, a2, h1, h2, and_self, reduceCtorEq, false_implies, true_and, Option.some.injEq, Prod.mk.injEq]
    rintro v r' ⟨rfl, rfl⟩
    exact ⟨rfl, rfl⟩
   ·have a2 : ¬ (out.length : Int) ≤ 200 := by omega
    simp [h1, h2, a2]
  ·have a1 : ¬ (1 : Int) ≤ (out.length : Int) := by omega
   simp [h1, a1]
theorem HR : ∀ (n : Nat) (p r out : Str) (blank : Bool), r.length < n → (p ++ r).length ≤ 10000000 → out.length + r.length ≤ 10000000 →
    (DS n blank out r = none → (AN stV (out, decide (out = []), blank, (hdN r).1, (hdN r).2, At p r)).bind Ry = some (.error ())) ∧
    ∀ v r', DS n blank out r = some (v, r') → ∃ p', p' ++ r' = p ++ r ∧ (AN stV (out, decide (out = []), blank, (hdN r).1, (hdN r).2, At p r)).bind Ry = some (.ok (v, At p' r'))
  | 0, _, _, _, _ => fun h => absurd h (Nat.not_lt_zero _)
  | n + 1, p, [], out, blank => fun _ _ _ => by
    have e : AN stV (out, decide (out = []), blank, (hdN []).1, (hdN []).2, At p []) = some (.inl (out, blank, At p [])) := by
      refine AR ?_
      simp [stV, CJ, hdN]
    rw [e, Option.bind_some]
    have := NY blank out p []
    refine ⟨fun h => this.1 h, fun v r' h => ?_⟩
    obtain ⟨h1, h2⟩ := this.2 v r' h
    exact ⟨p, by rw [h1], by rw [h1]; exact h2⟩
  | n + 1, p, x :: r, out, blank => fun hn hp ho => by
    have e44 : ((x.toNat : Int) = 44) ↔ x = 44 := Cg (c := 44) rfl
    have e92 : ((x.toNat : Int) = 92) ↔ x = 92 := Cg (c := 92) rfl
    have e32 : ((x.toNat : Int) = 32) ↔ x = 32 := Cg (c := 32) rfl
    have e35 : ((x.toNat : Int) = 35) ↔ x = 35 := Cg (c := 35) rfl
    simp only [List.length_cons] at hn ho
    rw [DS]
    rw [show (hdN (x :: r)).1 = (x.toNat : Int) from rfl, show (hdN (x :: r)).2 = true from rfl]
    by_cases h44 : x = 44
    · subst h44
      have e : AN stV (out, decide (out = []), blank, ((44 : UInt8).toNat : Int), true, At p (44 :: r)) = some (.inl (out, blank, At p (44 :: r))) := by
        refine AR ?_
        simp [stV, CJ]
      rw [e, Option.bind_some, if_pos rfl]
      have := NY blank out p (44 :: r)
      refine ⟨fun h => this.1 h, fun v r' h => ?_⟩
      obtain ⟨h1, h2⟩ := this.2 v r' h
      exact ⟨p, by rw [h1], by rw [h1]; exact h2⟩
    · rw [if_neg h44]
      have h44' : ¬ (x.toNat : Int) = 44 := fun e => h44 (e44.1 e)
      have hp' : (p ++ [x] ++ r).length ≤ 10000000 := by simpa using hp
      by_cases h92 : x = 92
      · subst h92
        rw [if_pos rfl]
        obtain ⟨t1, t2⟩ := W9 (p ++ [92]) r hp'
        cases he : Fm r with
        | none =>
          have e : stV (out, decide (out = []), blank, ((92 : UInt8).toNat : Int), true, At p (92 :: r)) = some (.inr (.inr (.error ()))) := by
            simp only [stV, CJ, if_true]
            rw [if_pos (by decide), if_pos (by decide), Dw hp, t1 he]
            rfl
          rw [AR e]
          exact ⟨fun _ => rfl, fun v r' h => (by cases h)⟩
        | some q =>
          obtain ⟨y, r1⟩ := q
          obtain ⟨p1, hp1, t3⟩ := t2 y r1 he
          have hl := Ua he
          have e : stV (out, decide (out = []), blank, ((92 : UInt8).toNat : Int), true, At p (92 :: r)) = some (.inl (out ++ [y], decide (out ++ [y] = []), false, (hdN r1).1, (hdN r1).2, At p1 r1)) := by
            simp only [stV, CJ, if_true]
            rw [if_pos (by decide), if_pos (by decide), Dw hp, t3, Option.bind_some]
            simp only [orP]
            have hy := y.toNat_lt
            rw [Af (by omega), Af (by simp; omega), Int.toNat_natCast, Lp]
            simp
          rw [Bu e, Option.bind_some]
          have ih := HR n p1 r1 (out ++ [y]) false (by omega) (by rw [hp1]; simpa using hp) (by simp; omega)
          refine ⟨ih.1, fun v r' h => ?_⟩
          obtain ⟨p2, h1, h2⟩ := ih.2 v r' h
          exact ⟨p2, by rw [h1, hp1]; simp, h2⟩
      · rw [if_neg h92]
        have h92' : ¬ (x.toNat : Int) = 92 := fun e => h92 (e92.1 e)
        have hx := x.toNat_lt
        by_cases hf : Kh (decide (out = [])) x = true
        · have e : stV (out, decide (out = []), blank, (x.toNat : Int), true, At p (x :: r)) = some (.inl (out ++ [x], decide (out ++ [x] = []), decide (x = 32), (hdN r).1, (hdN r).2, At (p ++ [x]) r)) := by
            simp only [stV, CJ, if_true]
            rw [if_pos h44', if_neg h92', Pj, Option.bind_some, Fg, Dw hp]
            simp only [Kh, Bool.and_eq_true, Bool.or_eq_true, Bool.not_eq_true', decide_eq_true_eq, decide_eq_false_iff_not] at hf
            obtain ⟨⟨⟨f1, f2⟩, f3⟩, f4⟩ := hf
            rw [f1]
            have g2 : (32 : Int) ≤ (x.toNat : Int) := by omega
            have g3 : (x.toNat : Int) ≤ 126 := by omega
            have gp : gd (0 ≤ (x.toNat : Int) ∧ (x.toNat : Int) ≤ 255) (gd ((out.length + [UInt8.ofNat ((x.toNat : Int)).toNat].length) * 1 ≤ 140737488355328) (CU (x.toNat : Int) (out ++ [UInt8.ofNat ((x.toNat : Int)).toNat]) (At (p ++ [x]) r))) = some (.inl (out ++ [x], decide (out ++ [x] = []), decide (x = 32), (hdN r).1, (hdN r).2, At (p ++ [x]) r)) := by
              rw [Af (by omega), Af (by simp; omega), Int.toNat_natCast, Lp]
              simp [e32]
            simp only [Bool.false_eq_true, not_false_eq_true, if_true, g2, g3]
            by_cases ho' : out = []
            · rcases f4 with f4 | ⟨f4, f5⟩
              · exact absurd ho' f4
              · have f4' : ¬ (x.toNat : Int) = 32 := fun e => f4 (e32.1 e)
                have f5' : ¬ (x.toNat : Int) = 35 := fun e => f5 (e35.1 e)
                simp only [ho', decide_true, not_true_eq_false, if_false, f4', f5', not_false_eq_true, if_true]
                rw [ho'] at gp
                exact gp
            · simp only [ho', decide_false, Bool.false_eq_true, not_false_eq_true, if_true]
              simp only [List.append_eq_nil_iff, ho', false_and, decide_false] at gp ⊢
              exact gp
          rw [Bu e, if_pos hf]
          have ih := HR n (p ++ [x]) r (out ++ [x]) (decide (x = 32)) (by omega) hp' (by simp; omega)
          refine ⟨ih.1, fun v r' h => ?_⟩
          obtain ⟨p2, h1, h2⟩ := ih.2 v r' h
          exact ⟨p2, by rw [h1]; simp, h2⟩
        · rw [if_neg hf]
          have e : stV (out, decide (out = []), blank, (x.toNat : Int), true, At p (x :: r)) = some (.inr (.inr (.error ()))) := by
            simp only [stV, CJ, if_true]
            rw [if_pos h44', if_neg h92', Pj, Option.bind_some, Fg]
            by_cases f1 : De x = true
            · rw [if_neg (by simp [f1])]
            · rw [if_pos (by simpa using f1)]
              by_cases f2 : 32 ≤ x.toNat
              · rw [if_pos (by omega)]
                by_cases f3 : x.toNat ≤ 126
                · rw [if_pos (by omega)]
                  by_cases f0 : out = []
                  · rw [if_neg (by simp [f0])]
                    by_cases f4 : x = 32
                    · rw [if_neg (by simp [f4])]
                    · rw [if_pos (fun e => f4 (e32.1 e))]
                      have f5 : x = 35 := by
                        apply Classical.byContradiction
                        intro f5
                        exact hf (by simp [Kh, f1, f2, f3, f4, f5])
                      rw [if_neg (by simp [f5])]
                  · exact absurd (by simp [Kh, f1, f2, f3, f0]) hf
                · rw [if_neg (by omega)]
              · rw [if_neg (by omega)]
          rw [AR e]
          exact ⟨fun _ => rfl, fun v r' h => (by cases h)⟩
theorem Wa (p r : Str) (h : (p ++ r).length ≤ 1000000) : (DS (r.length + 1) false [] r = none → Pg (At p r) = some (.error ())) ∧ ∀ v r', DS (r.length + 1) false [] r = some (v, r') → ∃ p', p' ++ r' = p ++ r ∧ Pg (At p r) = some (.ok (v, At p' r')) := by
 have := HR (r.length + 1) p r [] false (by omega) (by omega) (by simp only [List.length_append] at h; simp; omega); have e : Pg (At p r) = (AN stV ([], true, false, (hdN r).1, (hdN r).2, At p r)).bind Ry := by
  unfold Pg; rw [CK, Option.bind_some]; rfl
 rw [e]; exact this
end Go.Idl
namespace Go.Idl
open Go Go.Proofs.Tryz
set_option pp.deepTerms false
theorem Qg (p r : Str) (h : (p ++ r).length ≤ 1000000) : (EP r = none → Ro (At p r) = some (.error ())) ∧ ∀ v r', EP r = some (v, r') → ∃ p', p' ++ r' = p ++ r ∧ Ro (At p r) = some (.ok (v, At p' r')) := by
 unfold Ro EP; rw [W7 p r h, Option.bind_some]; cases hc : B7 r 61 with
 | none => exact ⟨fun _ => rfl, fun _ _ h => (by cases h)⟩
 | some q =>
  obtain ⟨t, r1⟩ := q; obtain ⟨h1, _⟩ := Bc.1 hc; simp only []; cases hn : BY t with
  | false => exact ⟨fun _ => rfl, fun _ _ h => (by cases h)⟩
  | true =>
   simp only [if_true]; have hp : (p ++ t ++ [61]) ++ r1 = p ++ r := by rw [h1]; simp
   obtain ⟨v1, v2⟩ := Wa (p ++ t ++ [61]) r1 (by rw [hp]; exact h); cases hv : DS (r1.length + 1) false [] r1 with
   | none =>
    refine ⟨fun _ => ?_, fun _ _ h => (by cases h)⟩; simp only [orP, v1 hv, Option.bind_some]
   | some w =>
    obtain ⟨v, r2⟩ := w; obtain ⟨p2, h3, h4⟩ := v2 v r2 hv; refine ⟨fun h => (by cases h), fun v' r' h' => ?_⟩; cases h'; refine ⟨p2, by rw [h3, hp], ?_⟩; simp only [orP, h4, Option.bind_some]
noncomputable abbrev stP (s : Str) := fun (x : (List S89) × AH) => Eb s x.1 x.2
noncomputable def endP (y : ((List S89) × AH) ⊕ ((List S89) × Int)) : Option ((List S89) × Int) := Sum.elim (fun (e : (List S89) × AH) => MC e.1 e.2) (fun (q : (List S89) × Int) => some q) y
def Ub (d : List S89) : Option (List S89) → (List S89) × Int
  | some l => (d ++ l, 0)
  | none => ([], 160)
theorem NZ (s : Str) (hs : s ≠ []) (hl : s.length ≤ 1000000) : ∀ (n : Nat) (p r : Str) (d : List S89), p ++ r = s → d.length + n = 16 → (AN (stP s) (d, At p r)).bind endP = some (Ub d (DE n r))
  | 0, p, r, d, hp, hd => by
    obtain ⟨v1, v2⟩ := Qg p r (by rw [hp]; exact hl)
    have e : stP s (d, At p r) = some (.inr (.inr ([], 160))) := by
      simp only [stP, Eb]
      rw [if_pos hs]
      cases hq : EP r with
      | none => rw [v1 hq]; rfl
      | some q =>
        obtain ⟨p', _, h2⟩ := v2 q.1 q.2 hq
        rw [h2, Option.bind_some]
        simp only [orP]
        rw [Af (by simp; omega), if_neg (by simp; omega)]
    rw [AR e]
    rfl
  | n + 1, p, r, d, hp, hd => by
    obtain ⟨v1, v2⟩ := Qg p r (by rw [hp]; exact hl)
    rw [DE]
    cases hq : EP r with
    | none =>
      have e : stP s (d, At p r) = some (.inr (.inr ([], 160))) := by
        simp only [stP, Eb]
        rw [if_pos hs, v1 hq]; rfl
      rw [AR e]
      rfl
    | some q =>
      obtain ⟨v, r1⟩ := q
      obtain ⟨p1, h1, h2⟩ := v2 v r1 hq
      rw [Option.bind_some]
      cases r1 with
      | nil =>
        have e : stP s (d, At p r) = some (.inr (.inl (d ++ [v], At p1 []))) := by
          simp only [stP, Eb]
          rw [if_pos hs, h2, Option.bind_some]
          simp only [orP]
          rw [Af (by simp; omega), if_pos (by simp; omega), CK]
          rfl
        rw [AR e]
        rfl
      | cons x r2 =>
        have hpl : (p1 ++ x :: r2).length ≤ 10000000 := by rw [h1, hp]; omega
        have e : stP s (d, At p r) = some (.inl (d ++ [v], At (p1 ++ [x]) r2)) := by
          simp only [stP, Eb]
          rw [if_pos hs, h2, Option.bind_some]
          simp only [orP]
          rw [Af (by simp; omega), if_pos (by simp; omega), CK, Option.bind_some, Dw hpl]
          rfl
        rw [Bu e, NZ s hs hl n (p1 ++ [x]) r2 (d ++ [v]) (by rw [← hp, ← h1]; simp) (by simp; omega)]
        simp only []
        cases DE n r2 <;> simp [Ub]
theorem Zp (s : Str) (hl : s.length ≤ 1000000) : F99 s = some (Ub [] (ER s)) := by
 have e : F99 s = (AN (stP s) ([], (⟨s, 0⟩ : AH))).bind endP := rfl; rw [e]; unfold ER; by_cases hs : s = []
 ·rw [if_pos hs]; have e1 : stP s ([], (⟨s, 0⟩ : AH)) = some (.inr (.inl ([], (⟨s, 0⟩ : AH)))) := by
   simp [stP, Eb, hs]
  rw [AR e1]; rfl
 ·rw [if_neg hs]; have := NZ s hs hl 16 [] s [] rfl rfl; simpa [At] using this
end Go.Idl
namespace Go.Idl
open Go Go.Proofs.Tryz
set_option pp.deepTerms false
end Go.Idl
namespace Go.Idl
open Go Go.Proofs.Tryz
set_option pp.deepTerms false
theorem Wb (x : UInt8) : C0 (C0 x) = C0 x := by
 have : ∀ n : Fin 256, C0 (C0 (UInt8.ofNat n.1)) = C0 (UInt8.ofNat n.1) := by decide +kernel
 have := this ⟨x.toNat, x.toNat_lt⟩; simpa using this
theorem Wc (x : UInt8) : D3 (C0 x) = D3 x := by
 have : ∀ n : Fin 256, D3 (C0 (UInt8.ofNat n.1)) = D3 (UInt8.ofNat n.1) := by decide +kernel
 have := this ⟨x.toNat, x.toNat_lt⟩; simpa using this
theorem Wd (x : UInt8) : Co (C0 x) = Co x := by
 have : ∀ n : Fin 256, Co (C0 (UInt8.ofNat n.1)) = Co (UInt8.ofNat n.1) := by decide +kernel
 have := this ⟨x.toNat, x.toNat_lt⟩; simpa using this
theorem Rz (t : Str) (h : BY t = true) : BY (t.map C0) = true := by
 unfold BY at h ⊢; simp only [Bool.and_eq_true, decide_eq_true_eq, List.all_eq_true, List.length_map, List.mem_map, forall_exists_index, and_imp, forall_apply_eq_imp_iff₂] at h ⊢; refine ⟨⟨h.1.1, ?_⟩, fun x hx => by rw [Wd]; exact h.2 x hx⟩; cases t with
 | nil => exact h.1.2
 | cons c t => simpa [Wc] using h.1.2
theorem Ki : ∀ (n : Nat) (blank : Bool) (out s v r : Str), DS n blank out s = some (v, r) → 1 ≤ v.length ∧ v.length ≤ 200
  | 0, _, _, _, _, _ => fun h => by cases h
  | n + 1, blank, out, [], v, r => fun h => by
    simp only [DS, MF] at h
    split at h
    · rename_i h1; cases h; exact h1.2
    · cases h
  | n + 1, blank, out, x :: s, v, r => fun h => by
    simp only [DS] at h
    split at h
    · simp only [MF] at h
      split at h
      · rename_i h1; cases h; exact h1.2
      · cases h
    · split at h
      · obtain ⟨q, _, h2⟩ := Option.bind_eq_some_iff.1 h
        exact Ki n _ _ _ _ _ h2
      · split at h
        · exact Ki n _ _ _ _ _ h
        · cases h
theorem RB {s r : Str} {p : S89} (h : EP s = some (p, r)) : Ci p = true := by
 unfold EP at h; split at h
 ·cases h
 ·rename_i q hq; split at h
  ·rename_i hn; obtain ⟨q2, h1, h2⟩ := Option.map_eq_some_iff.1 h; cases h2; have hv := Ki _ _ _ _ _ _ (show DS _ _ _ _ = some (q2.1, q2.2) from h1); simp only [Ci, Rz _ hn, Bool.true_and, Bool.and_eq_true, decide_eq_true_eq, List.map_map]; refine ⟨?_, hv⟩; congr 1; funext x; exact Wb x
  ·cases h
theorem Lq : ∀ (n : Nat) (s : Str) (d : List S89), DE n s = some d → d.length ≤ n ∧ (∀ x ∈ d, Ci x = true) ∧ ¬ d = []
  | 0, _, _, h => by cases h
  | n + 1, s, d, h => by
    rw [DE] at h
    obtain ⟨q, h1, h2⟩ := Option.bind_eq_some_iff.1 h
    have hr := RB (show EP s = some (q.1, q.2) from h1)
    split at h2
    · cases h2
      exact ⟨by simp, by simpa using hr, by simp⟩
    · obtain ⟨d', h3, h4⟩ := Option.map_eq_some_iff.1 h2
      subst h4
      obtain ⟨i1, i2, _⟩ := Lq n _ d' h3
      refine ⟨by simp; omega, ?_, by simp⟩
      intro x hx
      rcases List.mem_cons.1 hx with rfl | hx
      · exact hr
      · exact i2 x hx
theorem GW {s : Str} {d : List S89} (h : ER s = some d) : Bz d = true := by
 unfold ER at h; split at h
 ·cases h; simp [Bz]
 ·obtain ⟨h1, h2, _⟩ := Lq 16 s d h; simp only [Bz, Bool.and_eq_true, decide_eq_true_eq, List.all_eq_true]; exact ⟨h1, h2⟩
end Go.Idl
namespace Go.Idl
open Go Go.Proofs.Tryz
set_option pp.deepTerms false
end Go.Idl
namespace Go.Idl
open Go
abbrev Mp := List (Str × S39)
abbrev Np := List (Str × Str)
def DT (x : S39) : Bool := BC x.A7 && BK x.A8 && AM x.A3
def Fo (L : List S39) (x : S39) : List S39 × Int :=
  if DT x = true then (if 0 ≤ Bv L x.A7 then (L, 300) else if 0 ≤ GP L x.A8 then (L, 300) else if 64 ≤ (L.length : Int) then (L, 3) else (G5 (·.A7) x L, 0)) else (L, 2)
def Pk (L : List S39) (h : Str) (c : List (List Str)) : List S39 × Int :=
  if AM c = true then (if Bv L h < 0 then (L, 5) else (L.set (Bv L h).toNat ⟨(L.getD (Bv L h).toNat S39.zero).A7, (L.getD (Bv L h).toNat S39.zero).A8, c⟩, 0)) else (L, 2)
def Kj (L : List S39) (h : Str) : List S39 × Int :=
  if Bv L h < 0 then (L, 5) else (L.take (Bv L h).toNat ++ L.drop ((Bv L h).toNat + 1), 0)
def AX (y : S33) : Bool := ((BK y.A8 && decide (y.fDn = [])) || (decide (y.A8 = []) && (decide (¬ y.fDn = []) && Bz y.fDn))) && (BC y.A7 && AM y.A3)
def Ej (a : S41) : S33 := ⟨a.A5.A7, a.A5.A8, a.fDn, a.A5.A3⟩
def C5 (d : S35) (a : S41) : S35 × Int :=
  if a.A_ = 1 then (⟨(Fo d.fL a.A5).1, d.fP⟩, (Fo d.fL a.A5).2)
  else if a.A_ = 2 then (⟨(Pk d.fL a.A5.A7 a.A5.A3).1, d.fP⟩, (Pk d.fL a.A5.A7 a.A5.A3).2)
  else if a.A_ = 3 then (⟨(Kj d.fL a.A5.A7).1, d.fP⟩, (Kj d.fL a.A5.A7).2)
  else if a.A_ = 4 then (if AX (Ej a) = true then (⟨d.fL, Ej a⟩, 0) else (d, 2))
  else if a.A_ = 5 then (⟨d.fL, S33.zero⟩, 0)
  else (d, 0)
def okX (x : S39) : Prop := x.A7.length ≤ 1000000 ∧ x.A8.length ≤ 1000000 ∧ E7 x.A3
def okA (a : S41) : Prop := okX a.A5 ∧ Pc a.fDn
theorem DU (L : List S39) (h : Str) : (0 ≤ Bv L h ∧ ∃ hk : (Bv L h).toNat < L.length, L[(Bv L h).toNat].A7 = h) ∨ (Bv L h = -1 ∧ ∀ x ∈ L, ¬ x.A7 = h) := by
 unfold Bv; rcases K9 (fun x : S39 => decide (x.A7 = h)) L with ⟨h1, h2⟩ | ⟨k, hk, h1, h2⟩
 ·exact .inr ⟨h1, fun x hx => by simpa using h2 x hx⟩
 ·refine .inl ⟨by omega, ?_⟩; have e : (K8 (fun x : S39 => decide (x.A7 = h)) L).toNat = k := by omega
  simp only [e]; exact ⟨hk, by simpa using h2⟩
theorem N_ (L : List S39) (u : Str) : (0 ≤ GP L u ∧ ∃ hk : (GP L u).toNat < L.length, L[(GP L u).toNat].A8 = u) ∨ (GP L u = -1 ∧ ∀ x ∈ L, ¬ x.A8 = u) := by
 unfold GP; rcases K9 (fun x : S39 => decide (x.A8 = u)) L with ⟨h1, h2⟩ | ⟨k, hk, h1, h2⟩
 ·exact .inr ⟨h1, fun x hx => by simpa using h2 x hx⟩
 ·refine .inl ⟨by omega, ?_⟩; have e : (K8 (fun x : S39 => decide (x.A8 = u)) L).toNat = k := by omega
  simp only [e]; exact ⟨hk, by simpa using h2⟩
theorem Uc (L : List S39) (x : S39) (hl : L.length ≤ 1000000) : AN (fun (s : Int) => E9 L x s) 0 = some ((Fl (·.A7) x.A7 L : Nat) : Int) := by
 obtain ⟨r, h1, h2⟩ := D5 (step := fun (s : Int) => E9 L x s) (Post := fun y => y = ((Fl (·.A7) x.A7 L : Nat) : Int)) L.length (fun i => Fl (·.A7) x.A7 L = i + Fl (·.A7) x.A7 (L.drop i)) (by simp)
  (fun i hi hI => by
    have hw := B6 (i := i) (by omega)
    simp only [E9]
    rw [if_pos (by omega), Af (by omega), Int.toNat_natCast, getD_some hi, hw]
    rw [List.drop_eq_getElem_cons hi] at hI
    simp only [Fl] at hI
    by_cases h : Op.bytesLess L[i].A7 x.A7 = true
    · rw [if_pos h]
      rw [if_pos (show lt8 L[i].A7 x.A7 from h)] at hI
      exact .inl ⟨rfl, by rw [hI]; omega⟩
    · rw [if_neg h]
      rw [if_neg (show ¬ lt8 L[i].A7 x.A7 from h)] at hI
      exact .inr ⟨_, rfl, by rw [hI]; simp⟩)
  (fun hI => by
    simp only [E9]
    rw [if_neg (by omega)]
    refine ⟨_, rfl, ?_⟩
    rw [hI, List.drop_length]
    simp [Fl])
 rw [h1, h2]
theorem Zq (L : List S39) (x : S39) (hl : L.length ≤ 1000000) (hx : okX x) : F38 L x = some (Fo L x) := by
 obtain ⟨h1, h2, h3⟩ := hx; unfold F38 Fo DT; rw [Af h3.1, TO _ h1, TM _ h2, Pa _ h3, Pd _ _ hl, Zb _ _ hl, Uc L x hl]; simp only [Option.bind_some]; by_cases a1 : BC x.A7 = true
 ·rw [if_neg (by simpa using a1)]; by_cases a2 : BK x.A8 = true
  ·rw [if_neg (by simpa using a2)]; by_cases a3 : AM x.A3 = true
   ·rw [if_neg (by simpa using a3), if_pos (c := (BC x.A7 && BK x.A8 && AM x.A3) = true) (by simp [a1, a2, a3])]; by_cases a4 : 0 ≤ Bv L x.A7
    ·rw [if_pos a4, if_pos a4]
    ·rw [if_neg a4, if_neg a4]; by_cases a5 : 0 ≤ GP L x.A8
     ·rw [if_pos a5, if_pos a5]
     ·rw [if_neg a5, if_neg a5]; by_cases a6 : (64 : Int) ≤ L.length
      ·rw [if_pos a6, if_pos a6]
      ·rw [if_neg a6, if_neg a6]; have hc := MA (hf := fun x : S39 => x.A7) x.A7 L; unfold IP; rw [Af (by omega), Af (by omega), Int.toNat_natCast, Af (by simp; omega), Af (by simp; omega), Af (by simp; omega)]; simp [G5]
   ·rw [if_pos a3, if_neg (c := (BC x.A7 && BK x.A8 && AM x.A3) = true) (by simp [a3])]
  ·rw [if_pos a2, if_neg (c := (BC x.A7 && BK x.A8 && AM x.A3) = true) (by simp [a2])]
 ·rw [if_pos a1, if_neg (c := (BC x.A7 && BK x.A8 && AM x.A3) = true) (by simp [a1])]
theorem Zr (L : List S39) (h : Str) (c : List (List Str)) (hl : L.length ≤ 1000000) (hL : ∀ x ∈ L, x.A3.length = 8) (hc : E7 c) : F39 L h c = some (Pk L h c) := by
 unfold F39 Pk; rw [Af hc.1, Pd _ _ hl, Pa _ hc]; simp only [Option.bind_some]; by_cases a1 : AM c = true
 ·rw [if_neg (by simpa using a1), if_pos a1]; by_cases a2 : Bv L h < 0
  ·rw [if_pos a2, if_pos a2]
  ·rw [if_neg a2, if_neg a2]; rcases DU L h with ⟨q, hk, _⟩ | ⟨q, _⟩
   ·rw [Af (by omega), Af (by omega), Af (by rw [getD_some hk]; exact hL _ (List.getElem_mem _))]
   ·omega
 ·rw [if_pos a1, if_neg a1]
theorem We (L : List S39) (h : Str) (hl : L.length ≤ 1000000) : F40 L h = some (Kj L h) := by
 unfold F40 Kj; rw [Pd _ _ hl]; simp only [Option.bind_some]; by_cases a2 : Bv L h < 0
 ·rw [if_pos a2, if_pos a2]
 ·rw [if_neg a2, if_neg a2]; rcases DU L h with ⟨q, hk, _⟩ | ⟨q, _⟩
  ·have hw : IntKind.i64.wrap (Bv L h + 1) = (((Bv L h).toNat + 1 : Nat) : Int) := by
    rw [wrap_i64 (by omega) (by omega)]; omega
   rw [hw, Af (by omega), Af (by omega), Af (by omega), Af (by omega), Int.toNat_natCast, Af (by simp; omega), Af (by simp; omega)]
  ·omega
theorem Zs (y : S33) (h1 : y.A7.length ≤ 1000000) (h2 : y.A8.length ≤ 1000000) (hd : Pc y.fDn) (hc : E7 y.A3) : F41 y = some (AX y) := by
 unfold F41 AX; rw [Af hc.1, TM _ h2, TO _ h1, Pa _ hc, Z7 _ hd]; simp only [Option.bind_some]; have hz : ((y.fDn.length : Int) = 0) ↔ y.fDn = [] := by rw [← List.length_eq_zero_iff]; omega
 have hp : ((0 : Int) < y.fDn.length) ↔ ¬ y.fDn = [] := by rw [← List.length_eq_zero_iff]; omega
 by_cases a1 : BK y.A8 = true
 ·rw [if_pos a1, a1]; by_cases a2 : y.fDn = []
  ·rw [if_pos (hz.2 a2)]; by_cases a3 : BC y.A7 = true
   ·rw [if_pos a3]; simp [a2, a3]
   ·rw [if_neg a3]; simp [a2, a3]
  ·rw [if_neg (fun e => a2 (hz.1 e))]; have hu : ¬ y.A8 = [] := by
    intro e; rw [e] at a1; simp [BK] at a1
   rw [if_neg hu]; simp [a2, hu]
 ·rw [if_neg a1]; by_cases a2 : y.A8 = []
  ·rw [if_pos a2]; by_cases a3 : y.fDn = []
   ·rw [if_neg (fun e => hp.1 e a3)]; simp [a1, a3]
   ·rw [if_pos (hp.2 a3)]; by_cases a4 : Bz y.fDn = true
    ·rw [if_pos a4]; by_cases a5 : BC y.A7 = true
     ·rw [if_pos a5]; simp [a1, a2, a3, a4, a5]
     ·rw [if_neg a5]; simp [a5]
    ·rw [if_neg a4]; simp [a1, a4]
  ·rw [if_neg a2]; simp [a1, a2]
end Go.Idl
namespace Go.Idl
open Go
def okP (y : S33) : Prop := y.A7.length ≤ 1000000 ∧ y.A8.length ≤ 1000000 ∧ Pc y.fDn ∧ E7 y.A3
structure Inv (m : Mp) (n : Np) (pr : Option S33) (d : S35) : Prop where
  tabs : C2 (fun x : S39 => x.A7) (fun x : S39 => x.A8) m n d.fL
  good : ∀ x ∈ d.fL, DT x = true ∧ okX x
  len : d.fL.length ≤ 64
  pro : (pr = none ∧ d.fP = S33.zero) ∨ (pr = some d.fP ∧ AX d.fP = true ∧ okP d.fP)
theorem Inv.nil : Inv [] [] none ⟨[], S33.zero⟩ := ⟨C2.nil, by simp, by simp, .inl ⟨rfl, rfl⟩⟩
variable {m : Mp} {n : Np} {pr : Option S33} {d : S35}
theorem Inv.shape (I : Inv m n pr d) (h : Str) : ((AW m h).getD S39.zero).A3.length = 8 := by
 cases e : AW m h with
 | none => rfl
 | some x => exact (I.good x ((I.tabs.mg h x).1 e).1).2.2.2.1
theorem Inv.big (I : Inv m n pr d) (h : Str) : E7 ((AW m h).getD S39.zero).A3 := by
 cases e : AW m h with
 | none => exact ⟨rfl, by simp [S39.zero]⟩
 | some x => exact (I.good x ((I.tabs.mg h x).1 e).1).2.2.2
theorem Inv.Zt (I : Inv m n pr d) (h : Str) : (AW m h).isSome = decide (0 ≤ Bv d.fL h) := by
 rcases DU d.fL h with ⟨q, hk, e⟩ | ⟨q, e⟩
 ·rw [decide_eq_true q]; have := I.tabs.get (List.getElem_mem hk); rw [e] at this; rw [this]; rfl
 ·rw [q]; rw [(I.tabs.nothing (h := h)).2 e]; rfl
theorem Inv.ent (I : Inv m n pr d) (u : Str) : (AW n u).isSome = decide (0 ≤ GP d.fL u) := by
 rcases N_ d.fL u with ⟨q, hk, e⟩ | ⟨q, e⟩
 ·rw [decide_eq_true q]; have := I.tabs.eG (List.getElem_mem hk); rw [e] at this; rw [this]; rfl
 ·rw [q]; rw [(I.tabs.TT (u := u)).2 e]; rfl
theorem Inv.at_ (I : Inv m n pr d) {h : Str} (q : 0 ≤ Bv d.fL h) : ∃ hk : (Bv d.fL h).toNat < d.fL.length, AW m h = some d.fL[(Bv d.fL h).toNat] ∧ d.fL[(Bv d.fL h).toNat].A7 = h := by
 rcases DU d.fL h with ⟨_, hk, e⟩ | ⟨q', _⟩
 ·have := I.tabs.get (List.getElem_mem hk); rw [e] at this; exact ⟨hk, this, e⟩
 ·omega
theorem Ud (I : Inv m n pr d) : F14 m n pr = some d.fL := by
 have hl := I.len; have hm := I.tabs.len; have hk : ∀ p, p ∈ m → p.1.length ≤ 1000000 := fun p hp => by
  have : p.1 ∈ d.fL.map fun x : S39 => x.A7 := (I.tabs.keys p.1).1 (List.mem_map_of_mem hp); obtain ⟨x, hx, e⟩ := List.mem_map.1 this; rw [← e]; exact (I.good x hx).2.1
 unfold F14 F42 F43; rw [Af ⟨by omega, hk⟩, I.tabs.sort]; simp only [Option.bind_some]; obtain ⟨r, h1, h2⟩ := P7 (step := fun (s : Int × List S39) => HE m (d.fL.map fun x : S39 => x.A7) s.1 s.2) (Post := fun y => y = d.fL) d.fL.length (fun i a => a = d.fL.take i) (a := []) (by simp)
  (fun i a hi hI => by
    have hw := B6 (i := i) (by omega)
    have hi' : i < (d.fL.map fun x : S39 => x.A7).length := by simpa using hi
    have hx := List.getElem_mem hi
    simp only [HE]
    rw [if_pos (by simp; omega), Af (by simp; omega), Int.toNat_natCast, getD_some hi', List.getElem_map, I.tabs.get hx]
    simp only [Option.getD_some]
    rw [IG _ (I.good _ hx).2.2.2]
    simp only [Option.bind_some]
    have hal : a.length ≤ 64 := by rw [hI]; simp; omega
    rw [Af (I.good _ hx).2.2.2.1, Af (by simp; omega), hw]
    exact .inl ⟨_, rfl, by rw [hI, List.take_succ_eq_append_getElem hi]⟩)
  (fun a hI => by
    simp only [HE]
    rw [if_neg (by simp)]
    exact ⟨_, rfl, by rw [hI, List.take_of_length_le (Nat.le_refl _)]⟩)
 rw [h1, h2]; rfl
theorem Ue (y : S33) (h : okP y) : F52 y = some y := by
 unfold F52 F78 F58; rw [Af h.2.2.2.1, Af h.2.2.1.1, Af h.2.2.2]; simp only [Option.bind_some]; rw [Af h.2.2.2.1]
theorem MG {s : Str} (h : BC s = true) : ¬ s = [] := by
 rintro rfl
 simp [BC, GO] at h
theorem Inv.prs (I : Inv m n pr d) : pr.isSome = decide (¬ d.fP.A7 = []) := by
 rcases I.pro with ⟨e1, e2⟩ | ⟨e1, e2, e3⟩
 ·rw [e1, e2]; rfl
 ·rw [e1]; have : BC d.fP.A7 = true := by
   simp only [AX, Bool.and_eq_true] at e2; exact e2.2.1
  simp [MG this]
theorem Inv.Uf (I : Inv m n pr d) : okP d.fP := by
 rcases I.pro with ⟨_, e2⟩ | ⟨_, _, e3⟩
 ·rw [e2]; exact ⟨by simp [S33.zero], by simp [S33.zero], ⟨by simp [S33.zero], by simp [S33.zero]⟩, ⟨rfl, by simp [S33.zero]⟩⟩
 ·exact e3
theorem Kk (I : Inv m n pr d) : F26 m n pr = some (d.fP, pr.isSome) := by
 unfold F26 F42; simp only [Option.bind_some]; rcases I.pro with ⟨e1, e2⟩ | ⟨e1, e2, e3⟩
 ·rw [e1, e2]; rfl
 ·rw [e1]; simp only [Option.isNone_some, Bool.false_eq_true, if_false, Option.isSome_some, Option.getD_some]; rw [Af trivial, Af e3.2.2.2.1, Ue _ e3]; simp only [Option.bind_some]; rw [Af e3.2.2.2.1]
theorem MH (I : Inv m n pr d) : F34 m n pr = some (d.fL.length : Int) := by
 unfold F34 F42; simp only [Option.bind_some]; rw [I.tabs.len]
theorem Zu (I : Inv m n pr d) (h : Str) : F21 m n pr h = some ((AW m h).getD S39.zero, (AW m h).isSome) := by
 unfold F21 F42; simp only [Option.bind_some]; rw [Af (I.shape h), IG _ (I.big h)]; simp only [Option.bind_some]; rw [Af (I.shape h)]
theorem Zv (I : Inv m n pr d) (u : Str) : F18 m n pr u = some ((AW m ((AW n u).getD [])).getD S39.zero, (AW m ((AW n u).getD [])).isSome) := by
 unfold F18 F42; simp only [Option.bind_some]; rw [Zu I]; simp only [Option.bind_some]; rw [Af (I.shape _)]
theorem IY (I : Inv m n pr d) (x : S39) (hx : okX x) : ∃ m' n', F29 m n pr x = some ((Fo d.fL x).2, m', n') ∧ Inv m' n' pr ⟨(Fo d.fL x).1, d.fP⟩ := by
 have hl := I.len; have hm := I.tabs.len; unfold F29 F42 F57 F56 Fo DT; rw [Af hx.2.2.1, TN _ hx.1, TL _ hx.2.1, Af hx.2.2, Af (I.shape _), I.Zt, I.ent, IG _ hx.2.2]; simp only [Option.bind_some]; by_cases a1 : BC x.A7 = true
 ·rw [if_neg (c := ¬ BC x.A7 = true) (by simpa using a1)]; by_cases a2 : BK x.A8 = true
  ·rw [if_neg (c := ¬ BK x.A8 = true) (by simpa using a2)]; by_cases a3 : AM x.A3 = true
   ·rw [if_pos (c := AM x.A3 = true) a3, if_neg (c := ¬ (0 : Int) = 0) (by simp), if_pos (c := (BC x.A7 && BK x.A8 && AM x.A3) = true) (by simp [a1, a2, a3])]; by_cases a4 : 0 ≤ Bv d.fL x.A7
    ·rw [if_pos a4, decide_eq_true a4]; exact ⟨m, n, by simp, I⟩
    ·rw [if_neg a4, decide_eq_false a4]; by_cases a5 : 0 ≤ GP d.fL x.A8
     ·rw [if_pos a5, decide_eq_true a5]; exact ⟨m, n, by simp, I⟩
     ·rw [if_neg a5, decide_eq_false a5]; by_cases a6 : (64 : Int) ≤ d.fL.length
      ·rw [if_pos a6]; exact ⟨m, n, by simp [hm, a6], I⟩
      ·rw [if_neg a6]; refine ⟨AS m x.A7 x, AS n x.A8 x.A7, by simp [F49, Af hx.2.2.1, hm]; omega, ?_⟩; have q1 : ∀ y ∈ d.fL, ¬ y.A7 = x.A7 := by
        rcases DU d.fL x.A7 with ⟨q, _⟩ | ⟨_, q⟩
        ·exact absurd q a4
        ·exact q
       have q2 : ∀ y ∈ d.fL, ¬ y.A8 = x.A8 := by
        rcases N_ d.fL x.A8 with ⟨q, _⟩ | ⟨_, q⟩
        ·exact absurd q a5
        ·exact q
       refine ⟨I.tabs.add q1 q2, fun y hy => ?_, by rw [TU]; omega, I.pro⟩; rcases Dd.1 hy with e | e
       ·subst e; exact ⟨by simp [DT, a1, a2, a3], hx⟩
       ·exact I.good y e
   ·rw [if_neg a3, if_pos (c := ¬ (2 : Int) = 0) (by simp), if_neg (c := (BC x.A7 && BK x.A8 && AM x.A3) = true) (by simp [a3])]; exact ⟨m, n, rfl, I⟩
  ·rw [if_pos a2, if_neg (c := (BC x.A7 && BK x.A8 && AM x.A3) = true) (by simp [a2])]; exact ⟨m, n, rfl, I⟩
 ·rw [if_pos a1, if_neg (c := (BC x.A7 && BK x.A8 && AM x.A3) = true) (by simp [a1])]; exact ⟨m, n, rfl, I⟩
theorem Wg (I : Inv m n pr d) (h : Str) (c : List (List Str)) (hc : E7 c) : ∃ m' n', F30 m n pr h c = some ((Pk d.fL h c).2, m', n') ∧ Inv m' n' pr ⟨(Pk d.fL h c).1, d.fP⟩ := by
 unfold F30 F42 F56 F58 Pk; rw [Af hc.1, Af hc, Af (I.shape _), Af hc, I.Zt]; simp only [Option.bind_some]; by_cases a1 : AM c = true
 ·rw [if_pos (c := AM c = true) a1, if_neg (c := ¬ (0 : Int) = 0) (by simp), if_pos a1]; by_cases a2 : 0 ≤ Bv d.fL h
  ·rw [decide_eq_true a2, if_neg (by simp), if_neg (by omega)]; obtain ⟨hk, e1, e2⟩ := I.at_ a2; have hg := I.good _ (List.getElem_mem hk); rw [e1, getD_some hk]; simp only [Option.getD_some]; rw [Af hc.1]; unfold F49; rw [Af hc.1]; refine ⟨_, _, rfl, ?_⟩; refine ⟨I.tabs.set hk rfl rfl, fun y hy => ?_, by simp; exact I.len, I.pro⟩; rcases List.mem_or_eq_of_mem_set hy with q | q
   ·exact I.good y q
   ·subst q; refine ⟨?_, hg.2.1, hg.2.2.1, hc⟩; have := hg.1; simp only [DT, Bool.and_eq_true] at this ⊢; exact ⟨this.1, a1⟩
  ·rw [decide_eq_false a2, if_pos (by simp), if_pos (by omega)]; exact ⟨m, n, rfl, I⟩
 ·rw [if_neg a1, if_pos (c := ¬ (2 : Int) = 0) (by simp), if_neg a1]; exact ⟨m, n, rfl, I⟩
theorem Wh (I : Inv m n pr d) (h : Str) : ∃ m' n', F32 m n pr h = some ((Kj d.fL h).2, m', n') ∧ Inv m' n' pr ⟨(Kj d.fL h).1, d.fP⟩ := by
 unfold F32 F42 Kj F59; rw [Af (I.shape _), I.Zt]; simp only [Option.bind_some]; by_cases a2 : 0 ≤ Bv d.fL h
 ·rw [decide_eq_true a2, if_neg (by simp), if_neg (by omega)]; obtain ⟨hk, e1, e2⟩ := I.at_ a2; rw [e1]; simp only [Option.getD_some]; refine ⟨_, _, rfl, ?_⟩; have ht := I.tabs.drop hk; rw [e2] at ht; refine ⟨ht, fun y hy => ?_, by have := I.len; simp; omega, I.pro⟩; rcases List.mem_append.1 hy with q | q
  ·exact I.good y (List.mem_of_mem_take q)
  ·exact I.good y (List.mem_of_mem_drop q)
 ·rw [decide_eq_false a2, if_pos (by simp), if_pos (by omega)]; exact ⟨m, n, rfl, I⟩
theorem MI (I : Inv m n pr d) (y : S33) (hy : okP y) : ∃ pr', F27 m n pr y = some (if AX y = true then 0 else 2, pr') ∧ Inv m n pr' ⟨d.fL, if AX y = true then y else d.fP⟩ := by
 have key : F27 m n pr y = some (if AX y = true then (0, some y) else (2, pr)) := by
  have hz : ((y.fDn.length : Int) = 0) ↔ y.fDn = [] := by rw [← List.length_eq_zero_iff]; omega
  have hp : ((0 : Int) < y.fDn.length) ↔ ¬ y.fDn = [] := by rw [← List.length_eq_zero_iff]; omega
  unfold F27 F42 F56 AX; rw [Af hy.2.2.2.1, TL _ hy.2.1, TN _ hy.1, Af hy.2.2.2, TW _ hy.2.2.1, Ue _ hy]; simp only [Option.bind_some]; have hs : y.A3.length = 8 := hy.2.2.2.1; have hgd : ∀ {α : Type} (z : Option α), gd (y.A3.length = 8) z = z := fun z => Af hs; simp only [hgd]; by_cases a1 : BK y.A8 = true
  ·have hu : ¬ y.A8 = [] := by
    intro e; rw [e] at a1; simp [BK] at a1
   by_cases a2 : y.fDn = []
   ·by_cases a3 : BC y.A7 = true <;> by_cases a4 : AM y.A3 = true <;> simp [a1, a2, a3, a4, hu]
   ·have q1 : ¬ ((y.fDn.length : Int) = 0) := fun e => a2 (hz.1 e); simp [a1, a2, q1, hu]
  ·by_cases a2 : y.A8 = []
   ·by_cases a3 : y.fDn = []
    ·have hu0 : BK [] = false := rfl; simp [a2, a3, hu0]
    ·have hu0 : BK [] = false := rfl; have q1 := hp.2 a3; by_cases b1 : Bz y.fDn = true <;> by_cases b2 : BC y.A7 = true <;> by_cases b3 : AM y.A3 = true <;> simp [a2, a3, q1, b1, b2, b3, hu0]
   ·simp [a1, a2]
 rw [key]; by_cases h : AX y = true
 ·exact ⟨some y, by simp [h], ⟨I.tabs, I.good, I.len, .inr (by simp only [h, if_true]; exact ⟨trivial, trivial, hy⟩)⟩⟩
 ·exact ⟨pr, by simp [h], by simp only [h]; exact I⟩
end Go.Idl
namespace Go.Idl
open Go
variable {m : Mp} {n : Np} {pr : Option S33} {d : S35}
theorem Kl : (⟨[], [], [], [[], [], [], [], [], [], [], []]⟩ : S33) = S33.zero := rfl
theorem Qh (I : Inv m n pr d) (a : S41) (ha : okA a) : ∃ m' n' pr', Inv m' n' pr' (C5 d a).1 ∧ ∀ d0 : S35, d0.fL.length ≤ 1000 → (∀ x ∈ d0.fL, x.A3.length = 8) → d0.fP.A3.length = 8 →
    F13 m n pr d0 a = some ((C5 d0 a).1, decide ((C5 d a).2 = (C5 d0 a).2), pr', m', n') := by
 have hp : okP (Ej a) := ⟨ha.1.1, ha.1.2.1, ha.2, ha.1.2.2⟩; have h8 : a.A5.A3.length = 8 := ha.1.2.2.1; by_cases k1 : a.A_ = 1
 ·obtain ⟨m', n', e, I'⟩ := IY I a.A5 ha.1; refine ⟨m', n', pr, by simpa [C5, k1] using I', fun d0 hl hx hq => ?_⟩; unfold F13; rw [Af hq, Af h8, if_pos k1, Zq _ _ (by omega) ha.1, e]; simp [C5, k1]
 by_cases k2 : a.A_ = 2
 ·obtain ⟨m', n', e, I'⟩ := Wg I a.A5.A7 a.A5.A3 ha.1.2.2; refine ⟨m', n', pr, by simpa [C5, k2] using I', fun d0 hl hx hq => ?_⟩; unfold F13; rw [Af hq, Af h8, if_neg k1, if_pos k2, Zr _ _ _ (by omega) hx ha.1.2.2, e]; simp [C5, k2]
 by_cases k3 : a.A_ = 3
 ·obtain ⟨m', n', e, I'⟩ := Wh I a.A5.A7; refine ⟨m', n', pr, by simpa [C5, k3] using I', fun d0 hl hx hq => ?_⟩; unfold F13; rw [Af hq, Af h8, if_neg k1, if_neg k2, if_pos k3, We _ _ (by omega), e]; simp [C5, k3]
 by_cases k4 : a.A_ = 4
 ·obtain ⟨pr', e, I'⟩ := MI I (Ej a) hp; refine ⟨m, n, pr', ?_, fun d0 hl hx hq => ?_⟩
  ·by_cases hr : AX (Ej a) = true
   ·simpa [C5, k4, hr] using I'
   ·simpa [C5, k4, hr] using I'
  ·have e41 : F41 (Ej a) = some (AX (Ej a)) := Zs _ hp.1 hp.2.1 hp.2.2.1 hp.2.2.2; unfold Ej at e e41; unfold F13; rw [Af hq, Af h8, if_neg k1, if_neg k2, if_neg k3, if_pos k4, e, e41]; simp only [Option.bind_some]; by_cases hr : AX (Ej a) = true
   ·have hr' := hr; unfold Ej at hr'; simp [C5, k4, hr, hr', Ej]
   ·have hr' := hr; unfold Ej at hr'; simp [C5, k4, hr, hr']
 by_cases k5 : a.A_ = 5
 ·refine ⟨m, n, none, ?_, fun d0 hl hx hq => ?_⟩
  ·have : Inv m n none ⟨d.fL, S33.zero⟩ := ⟨I.tabs, I.good, I.len, .inl ⟨rfl, rfl⟩⟩; simpa [C5, k5] using this
  ·unfold F13; rw [Af hq, Af h8, if_neg k1, if_neg k2, if_neg k3, if_neg k4, if_pos k5]; simp [F28, F42, C5, k5, Kl]
 ·refine ⟨m, n, pr, by simpa [C5, k1, k2, k3, k4, k5] using I, fun d0 hl hx hq => ?_⟩; unfold F13; rw [Af hq, Af h8, if_neg k1, if_neg k2, if_neg k3, if_neg k4, if_neg k5]; simp [C5, k1, k2, k3, k4, k5]
theorem Inv.sh (I : Inv m n pr d) : ∀ x ∈ d.fL, x.A3.length = 8 := fun x hx => (I.good x hx).2.2.2.1
theorem Inv.eZ (I : Inv m n pr d) : ∀ x ∈ d.fL, E7 x.A3 := fun x hx => (I.good x hx).2.2.2
theorem Inv.psh (I : Inv m n pr d) : d.fP.A3.length = 8 := I.Uf.2.2.2.1
theorem Km {σ ρ α : Type} {step : α → σ → Option (σ ⊕ ρ)} (J : Nat → σ → Prop) : ∀ (l : List α) (k : Nat) (s : σ), J k s → (∀ (i : Nat) (h : i < l.length) (s : σ), J (k + i) s → ∃ s', step l[i] s = some (.inl s') ∧ J (k + i + 1) s') → ∃ s', FW step l s = some (.inl s') ∧ J (k + l.length) s'
  | [], k, s, h0, _ => ⟨s, rfl, h0⟩
  | a :: l, k, s, h0, h => by
    obtain ⟨s1, h1, h2⟩ := h 0 (by simp) s (by simpa using h0)
    obtain ⟨s2, h3, h4⟩ := Km J l (k + 1) s1 (by simpa using h2) fun i hi s hs => by
      obtain ⟨s', q1, q2⟩ := h (i + 1) (by simpa using hi) s (by rw [show k + (i + 1) = k + 1 + i by omega]; exact hs)
      exact ⟨s', by simpa using q1, by rw [show k + 1 + i + 1 = k + (i + 1) + 1 by omega]; exact q2⟩
    have h1' : step a s = some (.inl s1) := by simpa using h1
    refine ⟨s2, ?_, by rw [List.length_cons, show k + (l.length + 1) = k + 1 + l.length by omega]; exact h4⟩
    rw [EB, h1']
    simpa using h3
theorem Ug {α : Type} {l : List α} {i : Nat} (h : i < (FA l).length) : (FA l)[i] = ((i : Int), l[i]'(by rwa [Cm] at h)) := by
 have h' : i < l.length := by rwa [Cm] at h
 have := Lc h'; rw [List.getElem?_eq_getElem h] at this; exact Option.some.inj this
def O0 (a : S41) : Prop := a.A5.A3.length = 8 ∧ a.A5.A7.length ≤ 1000000000000000 ∧ a.A5.A8.length ≤ 1000000000000000 ∧ ∀ x ∈ a.fDn, x.fType.length ≤ 1000000000000000 ∧ x.Ac.length ≤ 1000000000000000
def dnA (x : S89) : Bool := decide (x.fType.length + x.Ac.length ≤ 400)
def Kn (l : List Str) : Bool := decide (l.length ≤ 20) && l.all fun s => decide (s.length ≤ 300)
def Pm (a : S41) : Bool := decide (a.A5.A7.length + a.A5.A8.length ≤ 400) && decide (a.fDn.length ≤ 20) && a.fDn.all dnA && a.A5.A3.all Kn
theorem Wi {a : S41} (h : Pm a = true) (h8 : a.A5.A3.length = 8) : okA a := by
 simp only [Pm, Bool.and_eq_true, decide_eq_true_eq, List.all_eq_true, dnA, Kn] at h; obtain ⟨⟨⟨h1, h2⟩, h3⟩, h4⟩ := h; refine ⟨⟨by omega, by omega, h8, fun l hl => ⟨by have := (h4 l hl).1; omega, fun s hs => by have := (h4 l hl).2 s hs; omega⟩⟩, by omega, fun x hx => by have := h3 x hx; omega⟩
theorem Zw (l : List S41) (most : Int) (hm : most ≤ 1000) (h : ∀ a ∈ l, O0 a) : F10 l most = some (decide ((l.length : Int) ≤ most) && l.all Pm) := by
 unfold F10; by_cases h0 : most < (l.length : Int)
 ·rw [if_pos h0, decide_eq_false (by omega)]; rfl
 ·rw [if_neg h0, decide_eq_true (by omega), BQ l Pm (by omega)
    (fun i hi => by
      obtain ⟨h8, m1, m2, m3⟩ := h _ (List.getElem_mem hi)
      have hg : l.getD i S41.zero = l[i] := getD_some hi _
      have hw : IntKind.i64.wrap ((l[i].A5.A7.length : Int) + (l[i].A5.A8.length : Int)) = (l[i].A5.A7.length : Int) + (l[i].A5.A8.length : Int) := wrap_i64 (by omega) (by omega)
      simp only [JV, Int.toNat_natCast, hg]
      rw [if_pos (by omega), Af (by omega), Af h8, hw]
      unfold Pm
      by_cases a1 : (400 : Int) < (l[i].A5.A7.length : Int) + (l[i].A5.A8.length : Int)
      · rw [if_pos a1, decide_eq_false (p := _ + _ ≤ 400) (by omega)]; simp
      · rw [if_neg a1, decide_eq_true (p := _ + _ ≤ 400) (by omega)]
        by_cases a2 : (20 : Int) < l[i].fDn.length
        · rw [if_pos a2, decide_eq_false (p := l[i].fDn.length ≤ 20) (by omega)]; simp
        · rw [if_neg a2, decide_eq_true (p := l[i].fDn.length ≤ 20) (by omega), BQ l[i].fDn dnA (by omega)
            (fun j hj => by
              have hgj : l[i].fDn.getD j S89.zero = l[i].fDn[j] := getD_some hj _
              obtain ⟨q1, q2⟩ := m3 _ (List.getElem_mem hj)
              have hwj : IntKind.i64.wrap ((l[i].fDn[j].fType.length : Int) + (l[i].fDn[j].Ac.length : Int)) = (l[i].fDn[j].fType.length : Int) + (l[i].fDn[j].Ac.length : Int) := wrap_i64 (by omega) (by omega)
              simp only [GH, Int.toNat_natCast, hg, hgj]
              rw [if_pos (by omega), Af (by omega), hwj]
              unfold dnA
              by_cases b1 : (400 : Int) < (l[i].fDn[j].fType.length : Int) + (l[i].fDn[j].Ac.length : Int)
              · rw [if_pos b1, decide_eq_false (by omega)]; simp
              · rw [if_neg b1, decide_eq_true (by omega)]; simp)
            (by simp only [GH, Int.toNat_natCast, hg]; rw [if_neg (by omega)])]
          by_cases a3 : l[i].fDn.all dnA = true
          · rw [if_pos a3, a3]
            simp only [Option.bind_some, Sum.elim_inl, IL]
            rw [BQ l[i].A5.A3 Kn (by omega)
              (fun j hj => by
                have hgj : l[i].A5.A3.getD j [] = l[i].A5.A3[j] := getD_some hj _
                simp only [GG, Int.toNat_natCast, hg, hgj]
                rw [if_pos (by omega), Af (by omega)]
                unfold Kn
                generalize hv : l[i].A5.A3[j] = v at *
                by_cases b1 : (20 : Int) < v.length
                · rw [if_pos b1, decide_eq_false (p := v.length ≤ 20) (by omega)]; simp
                · rw [if_neg b1, decide_eq_true (p := v.length ≤ 20) (by omega), BQ v (fun s => decide (s.length ≤ 300)) (by omega)
                    (fun q hq => by
                      have hgq : v.getD q [] = v[q] := getD_some hq _
                      simp only [GF, Int.toNat_natCast, hg, hgj, hgq]
                      rw [if_pos (by omega), Af (by omega)]
                      by_cases c1 : (300 : Int) < v[q].length
                      · rw [if_pos c1, decide_eq_false (by omega)]; simp
                      · rw [if_neg c1, decide_eq_true (by omega)]; simp)
                    (by simp only [GF, Int.toNat_natCast, hg, hgj]; rw [if_neg (by omega)])]
                  by_cases b2 : (v.all fun s => decide (s.length ≤ 300)) = true
                  · simp [b2, IK]
                  · rw [if_neg b2, Bool.eq_false_iff.2 b2]; simp)
              (by simp only [GG]; rw [if_neg (by omega)])]
            by_cases a4 : l[i].A5.A3.all Kn = true
            · simp [a4, IJ]
            · rw [if_neg a4, Bool.eq_false_iff.2 a4]; simp
          · rw [if_neg a3, Bool.eq_false_iff.2 a3]; simp)
    (by simp only [JV]; rw [if_neg (by omega)])]
  by_cases h1 : l.all Pm = true
  ·simp [h1, Mc]
  ·rw [if_neg h1, Bool.eq_false_iff.2 h1]; simp
end Go.Idl
namespace Go.Idl
open Go
variable {m : Mp} {n : Np} {pr : Option S33} {d : S35}
def Fp : List (List Str) := [[[65, 110, 110]], [], [], [], [], [], [], []]
def Cp : S39 := ⟨[47, 98, 111, 111, 107, 47, 97], [117, 49], Fp⟩
def Pn : S39 := ⟨[47, 98, 111, 111, 107, 47, 98], [117, 49], Fp⟩
theorem e_ : E7 Fp := by decide
theorem jS : okX Cp := ⟨by decide, by decide, e_⟩
theorem jT : okX Pn := ⟨by decide, by decide, e_⟩
theorem Uh : AM Fp = true := by decide
theorem jU : Fo [] Cp = ([Cp], 0) := by
 have h : DT Cp = true := by decide
 unfold Fo; rw [if_pos h]; rfl
theorem jV : Fo [Cp] Pn = ([Cp], 300) := by
 have h : DT Pn = true := by decide
 have e1 : Bv [Cp] Pn.A7 = -1 := by decide
 have e2 : GP [Cp] Pn.A8 = 0 := by decide
 unfold Fo; rw [if_pos h, e1, e2]; rfl
theorem Xg : BW Fp = [102, 117, 108, 108, 32, 49, 10, 51, 32, 65, 110, 110, 10] := by
 have d1 : Lib.decDigits 1 = [49] := by unfold Lib.decDigits; rfl
 have d3 : Lib.decDigits 3 = [51] := by unfold Lib.decDigits; rfl
 have e : BW Fp = (CW.getD 0 [] ++ 32 :: Lib.decDigits 1 ++ [10]) ++ (Lib.decDigits 3 ++ 32 :: [65, 110, 110] ++ [10]) := by
  simp [BW, Hz, Fp]
 rw [e, d1, d3]; rfl
theorem Po : F11 = some true := by
 obtain ⟨m1, n1, e1, I1⟩ := IY Inv.nil Cp jS; rw [show (⟨[], S33.zero⟩ : S35).fL = [] from rfl, jU] at e1 I1; obtain ⟨m2, n2, e2, I2⟩ := IY I1 Pn jT; rw [show (⟨[Cp], S33.zero⟩ : S35).fL = [Cp] from rfl, jV] at e2 I2; have h31 : F31 = some Fp := rfl; have h8 : Fp.length = 8 := rfl; have g1 : AW n2 [117, 49] = some Cp.A7 := I2.tabs.eG (x := Cp) (by simp); have g2 : AW m2 Cp.A7 = some Cp := I2.tabs.get (x := Cp) (by simp); have h18 : F18 m2 n2 none [117, 49] = some (Cp, true) := by
  rw [Zv I2, g1]; simp only [Option.getD_some]; rw [g2]; rfl
 have h61 : F61 Fp = some (BW Fp, 0) := by
  unfold F61; rw [Af (by decide), if_pos Uh, if_pos Uh]
 have h33 : F33 m2 n2 none = some [(⟨[112] ++ Cp.A7, (Cp.A8 ++ [10]) ++ BW Fp⟩ : S78)] := by
  unfold F33; rw [Kk I2]; simp only [Option.bind_some, Option.isSome_none, Bool.false_eq_true, if_false]; rw [Af I2.psh]; unfold F_; rw [Ud I2]; simp only [Option.bind_some]; rw [Af I2.eZ]; unfold LY; have hen : FA [Cp] = [((0 : Int), Cp)] := rfl; rw [hen, EB]; have hs : FZ ((0 : Int), Cp) [] = some (.inl [(⟨[112] ++ Cp.A7, (Cp.A8 ++ [10]) ++ BW Fp⟩ : S78)]) := by
   unfold FZ; rw [Af (show ((0 : Int), Cp).2.A3.length = 8 from rfl), show ((0 : Int), Cp).2.A3 = Fp from rfl, h61]; simp only [Option.bind_some]; rw [Xg]; rw [Af (by decide), Af (by decide), Af (by decide), Af (by decide)]; rfl
  rw [hs]; rfl
 unfold F11; rw [show F12 = some ([], [], none) from rfl, h31]; simp only [Option.bind_some]; rw [Af h8, show (⟨[47, 98, 111, 111, 107, 47, 97], [117, 49], Fp⟩ : S39) = Cp from rfl, e1]; simp only [Option.bind_some]; rw [Af h8, show (⟨[47, 98, 111, 111, 107, 47, 98], [117, 49], Fp⟩ : S39) = Pn from rfl, e2]; simp only [Option.bind_some]; rw [h18]; simp only [Option.bind_some]; rw [Af (show Cp.A3.length = 8 from rfl), h33, Xg]; rfl
def Ui (l : List S41) (d : S35) : S35 := l.foldl (fun d a => (C5 d a).1) d
theorem fc (l : List S41) (hl : l.length ≤ 1000) (h : ∀ a ∈ l, okA a) : ∃ m n pr, AN (fun (s : Int × (Option S33) × Mp × Np) => OZ l s.1 s.2.1 s.2.2.1 s.2.2.2) (0, none, [], []) = some (pr, m, n) ∧ Inv m n pr (Ui l ⟨[], S33.zero⟩) := by
 obtain ⟨r, h1, h2⟩ := DN (step := fun (s : Int × (Option S33) × Mp × Np) => OZ l s.1 s.2.1 s.2.2.1 s.2.2.2) (Post := fun y => Inv y.2.1 y.2.2 y.1 (Ui l ⟨[], S33.zero⟩))
  (fun s => ∃ i : Nat, i ≤ l.length ∧ s.1 = (i : Int) ∧ Inv s.2.2.1 s.2.2.2 s.2.1 (Ui (l.take i) ⟨[], S33.zero⟩)) (fun s => l.length - s.1.toNat)
  (by
    rintro ⟨k, pr, m, n⟩ ⟨i, hi, hk, I⟩
    simp only at hk I
    subst hk
    simp only [OZ]
    by_cases hlt : i < l.length
    · have hw := B6 (i := i) (by omega)
      obtain ⟨m', n', pr', I', hf⟩ := Qh I l[i] (h _ (List.getElem_mem _))
      left
      rw [if_pos (by omega), Af (by omega), Int.toNat_natCast, getD_some hlt, Af (h _ (List.getElem_mem hlt)).1.2.2.1, Kl, hf ⟨[], S33.zero⟩ (by simp) (by simp) rfl, hw]
      refine ⟨_, rfl, ⟨i + 1, by omega, rfl, ?_⟩, by simp; omega⟩
      unfold Ui
      rw [List.take_succ_eq_append_getElem hlt, List.foldl_append]
      exact I'
    · right
      rw [if_neg (by omega)]
      refine ⟨_, rfl, ?_⟩
      have : i = l.length := by omega
      rw [this, List.take_of_length_le (Nat.le_refl _)] at I
      exact I)
  (s := (0, none, [], [])) ⟨0, by omega, rfl, by simpa [Ui] using Inv.nil⟩
 exact ⟨r.2.1, r.2.2, r.1, h1, h2⟩
end Go.Idl
namespace Go.Idl
open Go
variable {m : Mp} {n : Np} {pr : Option S33} {d : S35}
end Go.Idl
namespace Go.Idl
open Go Go.Lib
variable {m : Mp} {n : Np} {pr : Option S33} {d : S35}
def Ko (x : S39) : S78 := ⟨[112] ++ x.A7, (x.A8 ++ [10]) ++ BW x.A3⟩
def RC (y : S33) : S78 := ⟨[105], Lib.join [y.A7, y.A8, BO y.fDn, BW y.A3] [10]⟩
def Kp (d : S35) : List S78 := (if d.fP.A7 = [] then [] else [RC d.fP]) ++ d.fL.map Ko
theorem Uj (a b c e : Str) : Lib.join [a, b, c, e] [10] = a ++ 10 :: (b ++ 10 :: (c ++ 10 :: e)) := by
 simp [Lib.join, List.intercalate, List.intersperse]
theorem GX {y : S33} (h : AX y = true) : Bz y.fDn = true := by
 simp only [AX, Bool.and_eq_true, Bool.or_eq_true, decide_eq_true_eq] at h; rcases h.1 with h1 | h1
 ·rw [h1.2]; rfl
 ·exact h1.2.2
theorem HS {d : List S89} (h : Bz d = true) : ∀ x ∈ d, Ci x = true := by
 simp only [Bz, Bool.and_eq_true, List.all_eq_true] at h; exact h.2
theorem RD {s : Str} (h : BC s = true) : (10 : UInt8) ∉ s := by
 intro hm; simp only [BC, Ip, Bool.and_eq_true, decide_eq_true_eq, List.all_eq_true] at h; rw [← List.take_append_drop 6 s, List.mem_append] at hm; rcases hm with hm | hm
 ·rw [h.1] at hm; simp [GO] at hm
 ·have := h.2.1 _ hm; simp [Dc] at this
theorem Lr {s : Str} (h : BK s = true) : (10 : UInt8) ∉ s := by
 intro hm; simp only [BK, Bool.and_eq_true, List.all_eq_true] at h; have := h.1 _ hm; simp [Io] at this
theorem CL {y : S33} (h : AX y = true) : (10 : UInt8) ∉ y.A7 ∧ (10 : UInt8) ∉ y.A8 ∧ AM y.A3 = true := by
 have h' := h; simp only [AX, Bool.and_eq_true, Bool.or_eq_true, decide_eq_true_eq] at h'; refine ⟨RD h'.2.1, ?_, h'.2.2⟩; rcases h'.1 with h1 | h1
 ·exact Lr h1.1
 ·rw [h1.1]; simp
theorem Inv.Uk (I : Inv m n pr d) : (d.fP.A7 = [] ∧ pr = none ∧ d.fP = S33.zero) ∨ (¬ d.fP.A7 = [] ∧ pr = some d.fP ∧ AX d.fP = true) := by
 rcases I.pro with ⟨e1, e2⟩ | ⟨e1, e2, e3⟩
 ·exact .inl ⟨by rw [e2]; rfl, e1, e2⟩
 ·have : BC d.fP.A7 = true := by
   simp only [AX, Bool.and_eq_true] at e2; exact e2.2.1
  exact .inr ⟨MG this, e1, e2⟩
theorem Pp {x : S39} (h : DT x = true ∧ okX x) : F61 x.A3 = some (BW x.A3, 0) ∧ (BW x.A3).length ≤ 100000 := by
 have hc : AM x.A3 = true := by
  have := h.1; simp only [DT, Bool.and_eq_true] at this; exact this.2
 have h8 := h.2.2.2.1; refine ⟨?_, Ff _ h8 hc⟩; unfold F61; rw [Af (Ke h8 hc), if_pos hc, if_pos hc]
theorem O1 (I : Inv m n pr d) (l : List S78) (hl : l.length ≤ 1) : F_ m n pr l = some (l ++ d.fL.map Ko) := by
 have h64 := I.len; unfold F_; rw [Ud I]; simp only [Option.bind_some]; rw [Af I.eZ]; obtain ⟨s', h1, h2⟩ := Km (ρ := List S78) (step := fun (el12 : Int × S39) (s : List S78) => FZ el12 s) (fun k s => s = l ++ (d.fL.take k).map Ko) (FA d.fL) 0 l (by simp)
  (fun i hi s hs => by
    have hi' : i < d.fL.length := by rwa [Cm] at hi
    have hg := I.good _ (List.getElem_mem hi')
    have hx := I.sh _ (List.getElem_mem hi')
    obtain ⟨t1, t2⟩ := Pp hg
    have o1 := hg.2.1
    have o2 := hg.2.2.1
    have hsl : s.length ≤ 100 := by rw [hs]; simp; omega
    rw [Ug hi]
    simp only [FZ]
    rw [Af hx, t1]
    simp only [Option.bind_some]
    rw [Af (by simp; omega), Af (by simp; omega), Af (by simp; omega), Af (by simp; omega)]
    refine ⟨_, rfl, ?_⟩
    rw [hs, Nat.zero_add, List.take_succ_eq_append_getElem hi', List.map_append, List.append_assoc]
    rfl)
 unfold LY; rw [h1]; simp only [Option.map_some, Sum.elim_inl, Option.bind_some, Mb]; rw [h2, Nat.zero_add, Cm, List.take_of_length_le (Nat.le_refl _)]
theorem Zx (I : Inv m n pr d) : F33 m n pr = some (Kp d) := by
 unfold F33 Kp; rw [Kk I, I.prs]; simp only [Option.bind_some]; rw [Af I.psh]; rcases I.Uk with ⟨a1, _, _⟩ | ⟨a1, _, a3⟩
 ·rw [if_pos a1, if_neg (by simpa using a1), O1 I [] (by simp)]
 ·obtain ⟨p1, p2, p3⟩ := CL a3; have hd := GX a3; have h8 := I.psh; have hb := I.Uf; have t := Ff _ h8 p3; have hd16 : d.fP.fDn.length ≤ 16 := by
   simp only [Bz, Bool.and_eq_true, decide_eq_true_eq] at hd; exact hd.1
  have td := HP (HS hd); have e61 : F61 d.fP.A3 = some (BW d.fP.A3, 0) := by
   unfold F61; rw [Af (Ke h8 p3), if_pos p3, if_pos p3]
  have o1 := hb.1; have o2 := hb.2.1; rw [if_neg a1, if_pos (by simpa using a1), Ph _ hd, e61]; simp only [Option.bind_some]; have e62 : F62 [d.fP.A7, d.fP.A8, BO d.fP.fDn, BW d.fP.A3] [10] = some (RC d.fP).Ac := by
   unfold F62; refine Af ⟨by simp, ?_⟩; rw [Uj]; simp only [List.length_append, List.length_cons]; omega
  rw [e62]; simp only [Option.bind_some]; rw [Af (by simp), O1 I _ (by simp)]; rfl
theorem O2 {α : Type} {hf : α → Str} (x : α) : ∀ (l : List α), (∀ y ∈ l, lt8 (hf y) (hf x)) → G5 hf x l = l ++ [x]
  | [], _ => by simp [G5, Fl]
  | y :: l, h => by
    rw [Li, if_pos (h y (by simp)), O2 x l fun z hz => h z (by simp [hz])]
    rfl
end Go.Idl
namespace Go.Idl
open Go Go.Proofs.Tryz Go.Lib
set_option pp.deepTerms false
theorem Wj : ∀ (f k : Nat) (s : Str) (c d : List (List Str)), DQ f k s c = some d → (∀ l, l ∈ c → l.length ≤ 1000000) → d.length = c.length ∧ ∀ l, l ∈ d → l.length ≤ 1000000 := by
 intro f
 induction f with
 | zero => intro k s c d h hc; unfold DQ at h; split at h <;> cases h; exact ⟨rfl, hc⟩
 | succ f ih =>
  intro k s c d h hc; unfold DQ at h; split at h
  ·cases h; exact ⟨rfl, hc⟩
  ·obtain ⟨p, h1, h⟩ := Option.bind_eq_some_iff.1 h; split at h
   ·cases h
   ·have hp : p.2.1.length ≤ 1000000 := by
     obtain ⟨q1, _, h1⟩ := Option.bind_eq_some_iff.1 h1; obtain ⟨q2, _, h1⟩ := Option.bind_eq_some_iff.1 h1; obtain ⟨i, _, h1⟩ := Option.bind_eq_some_iff.1 h1; obtain ⟨n, hn, h1⟩ := Option.bind_eq_some_iff.1 h1; obtain ⟨r, hr, rfl⟩ := Option.map_eq_some_iff.1 h1; have := (Cf.1 hn).2.1; have := (Rc hr).2; simp only; omega
    obtain ⟨q1, q2⟩ := ih _ _ _ _ h (fun l hl => by
      rcases List.mem_or_eq_of_mem_set hl with hl | rfl
      · exact hc l hl
      · exact hp)
    exact ⟨by simpa using q1, q2⟩
theorem RF (s : Str) (hs : s.length ≤ 4294967280) : ∀ (k i : Nat), i + k = s.length → AN (fun v => IX s v) (i : Int) = some (match B7 (s.drop i) 10 with | some p => .inr (s.take i ++ p.1, p.2, true) | none => .inl ())
  | 0, i, h => by
    rw [List.drop_of_length_le (by omega)]
    refine AR ?_
    simp only [IX]
    rw [if_neg (by omega)]
    rfl
  | k + 1, i, h => by
    have hi : i < s.length := by omega
    have hg : s.getD i 0 = s[i] := by rw [List.getD_eq_getElem?_getD, List.getElem?_eq_getElem hi]; rfl
    have hw : IntKind.i64.wrap ((i : Int) + 1) = ((i + 1 : Nat) : Int) := B6 (by omega)
    rw [List.drop_eq_getElem_cons hi]
    unfold B7
    by_cases hc : s[i] = 10
    · rw [if_pos hc]
      refine AR ?_
      simp only [IX]
      rw [if_pos (by omega), Af (by omega), Int.toNat_natCast, hg, if_pos (Pf.2 hc), Af (by omega), Af (by omega), hw, Af (by omega), Af (by omega), Int.toNat_natCast]
      simp
    · rw [if_neg hc]
      rw [Bu (s' := ((i + 1 : Nat) : Int)), RF s hs k (i + 1) (by omega)]
      · cases B7 (s.drop (i + 1)) 10 with
        | none => rfl
        | some p =>
          simp only [Option.map_some]
          rw [List.take_succ_eq_append_getElem hi]
          simp only [List.append_assoc, List.singleton_append]
      · simp only [IX]
        rw [if_pos (by omega), Af (by omega), Int.toNat_natCast, hg, if_neg (fun e => hc (Pf.1 e)), hw]
theorem Cb {s : Str} {p : Str × Str} (h : B7 s 10 = some p) : p.1.length + p.2.length + 1 = s.length := by
 obtain ⟨h1, _⟩ := Bc.1 (show B7 s 10 = some (p.1, p.2) from h); rw [h1]; simp; omega
theorem Ee (k : Nat) (s : Str) : splitK [10] 0 (k + 1) s = match B7 s 10 with | some p => p.1 :: splitK [10] 0 k p.2 | none => [s] := by
 rw [splitK, index_one]; cases h : B7 s 10 with
 | none => simp
 | some p =>
  obtain ⟨h1, _⟩ := Bc.1 (show B7 s 10 = some (p.1, p.2) from h); simp only; rw [if_neg (by simp)]; simp [h1]
def ES (s : Str) : Option (Str × Str × Str × Str) := (B7 s 10).bind fun a => (B7 a.2 10).bind fun b => (B7 b.2 10).map fun c => (a.1, b.1, c.1, c.2)
theorem Ul (s : Str) : (∃ a b c e, ES s = some (a, b, c, e) ∧ splitN s [10] 4 = [a, b, c, e]) ∨ (ES s = none ∧ (splitN s [10] 4).length < 4) := by
 have short : ∀ (k : Nat) (s : Str), (splitK [10] 0 k s).length ≤ k + 1 := by
  intro k
  induction k with
  | zero => intro s; simp [splitK]
  | succ k ih =>
   intro s; rw [Ee]; cases B7 s 10 with
   | none => simp
   | some p => have := ih p.2; simp; omega
 unfold splitN ES; by_cases hl : s.length < 3
 ·right; have : min 4 (s.length + 1) - 1 ≤ 2 := by omega
  refine ⟨?_, by have := short (min 4 (s.length + 1) - 1) s; omega⟩; cases h1 : B7 s 10 with
  | none => rfl
  | some a =>
   have l1 := Cb h1; rw [Option.bind_some]; cases h2 : B7 a.2 10 with
   | none => rfl
   | some b =>
    have l2 := Cb h2; rw [Option.bind_some]; cases h3 : B7 b.2 10 with
    | none => rfl
    | some c =>
     have l3 := Cb h3; omega
 ·rw [show min 4 (s.length + 1) - 1 = 3 by omega, Ee]; cases h1 : B7 s 10 with
  | none => right; simp
  | some a =>
   simp only [Option.bind_some]; rw [Ee]; cases h2 : B7 a.2 10 with
   | none => right; simp
   | some b =>
    simp only [Option.bind_some]; rw [Ee]; cases h3 : B7 b.2 10 with
    | none => right; simp
    | some c => left; exact ⟨a.1, b.1, c.1, c.2, rfl, rfl⟩
noncomputable def Iz (s : Str) : Option (List (List Str)) := (GR s).bind fun c => if AM c = true then some c else none
theorem MJ (s : Str) : G6 s = match Iz s with | some c => (c, 0) | none => (BL, 260) := by
 unfold G6 Iz; cases GR s with
 | none => rfl
 | some c => simp only [Option.bind_some]; split <;> rfl
theorem GY {s : Str} {c : List (List Str)} (h : Iz s = some c) : AM c = true ∧ c.length = 8 ∧ E7 c := by
 unfold Iz at h; obtain ⟨d, h1, h2⟩ := Option.bind_eq_some_iff.1 h; have h8 := (Wj _ _ _ _ _ h1 (by intro l hl; simp [BL] at hl; simp [hl])).1; have h8 : d.length = 8 := by rw [h8]; rfl
 split at h2
 ·rename_i hc; cases h2; obtain ⟨v1, v2, _⟩ := Ec h8 hc; exact ⟨hc, h8, h8, fun l hl => ⟨by have := v1 l hl; omega, fun s hs => by have := v2 l hl s hs; omega⟩⟩
 ·cases h2
noncomputable def FG (v : Str) : Option S33 := (ES v).bind fun q => (ER q.2.2.1).bind fun d => (Iz q.2.2.2).bind fun c => if BO d = q.2.2.1 ∧ AX ⟨q.1, q.2.1, d, c⟩ = true then some ⟨q.1, q.2.1, d, c⟩ else none
theorem Kq {v a b c e : Str} (h : ES v = some (a, b, c, e)) : a.length + b.length + c.length + e.length + 3 = v.length := by
 unfold ES at h; obtain ⟨p, h1, h⟩ := Option.bind_eq_some_iff.1 h; obtain ⟨q, h2, h⟩ := Option.bind_eq_some_iff.1 h; obtain ⟨r, h3, h⟩ := Option.map_eq_some_iff.1 h; have l1 := Cb h1; have l2 := Cb h2; have l3 := Cb h3; cases h; omega
theorem bg {v : Str} {y : S33} (h : FG v = some y) (hv : v.length ≤ 1000000) : AX y = true ∧ okP y := by
 unfold FG at h; obtain ⟨⟨a, b, c, e⟩, h1, h⟩ := Option.bind_eq_some_iff.1 h; obtain ⟨d, h2, h⟩ := Option.bind_eq_some_iff.1 h; obtain ⟨s, h3, h⟩ := Option.bind_eq_some_iff.1 h; have hl := Kq h1; split at h
 ·rename_i hr; cases h; have hd := GW h2; simp only [Bz, Bool.and_eq_true, decide_eq_true_eq, List.all_eq_true] at hd; refine ⟨hr.2, by simp only; omega, by simp only; omega, ⟨by simp only; omega, fun x hx => ?_⟩, (GY h3).2.2⟩; have := hd.2 x hx; simp only [Ci, BY, Bool.and_eq_true, decide_eq_true_eq] at this; omega
 ·cases h
theorem Zy {m : Mp} {n : Np} {pr : Option S33} {d : S35} (I : Inv m n pr d) (v : Str) (hv : v.length ≤ 1000000) :
    (FG v = none → ∃ w, F63 m n pr v = some (false, w)) ∧ ∀ y, FG v = some y → ∃ pr', F63 m n pr v = some (true, pr') ∧ Inv m n pr' ⟨d.fL, y⟩ := by
 have e98 : F98 v [10] 4 = some (splitN v [10] 4) := by
  unfold F98; rw [Af (by omega), Af (by simp), Af (by omega)]; rfl
 generalize hX : FG v = X; unfold FG at hX; unfold F63; rw [e98, Option.bind_some]; rcases Ul v with ⟨a, b, c, e, h1, h2⟩ | ⟨h1, h2⟩
 ·have hl := Kq h1; rw [h1, Option.bind_some] at hX; simp only at hX; rw [h2]; rw [if_neg (by simp), Af (by simp)]; simp only [List.getD_cons_succ, List.getD_cons_zero]; rw [Zp c (by omega), Option.bind_some]; have e66 : F66 e = some (G6 e) := Af (by omega); have hr8 : (G6 e).1.length = 8 := by
   rw [MJ]; cases h : Iz e with
   | none => rfl
   | some c => exact (GY h).2.1
  cases h4 : ER c with
  | none =>
   rw [h4] at hX; subst hX; simp only [Ub]; rw [Ph [] (by simp [Bz]), Option.bind_some, Af (by simp), e66, Option.bind_some, Af hr8]; exact ⟨fun _ => ⟨pr, by first | rfl | simp⟩, fun y h => (by cases h)⟩
  | some dn =>
   have hd := GW h4; rw [h4, Option.bind_some] at hX; simp only [Ub, List.nil_append]; rw [Ph dn hd, Option.bind_some, Af (by simp), e66, Option.bind_some, Af hr8, if_pos trivial]; by_cases ht : BO dn = c
   ·rw [if_pos ht, MJ]; cases h5 : Iz e with
    | none =>
     rw [h5] at hX; subst hX; exact ⟨fun _ => ⟨pr, by first | rfl | simp⟩, fun y h => (by cases h)⟩
    | some s =>
     rw [h5, Option.bind_some] at hX; simp only []; rw [if_pos trivial, Af (by simp), Af (by simp)]; obtain ⟨hc, h8, hb⟩ := GY h5; have hdd := hd; simp only [Bz, Bool.and_eq_true, decide_eq_true_eq, List.all_eq_true] at hdd
     have hy : okP ⟨a, b, dn, s⟩ := ⟨by simp only; omega, by simp only; omega, ⟨by simp only; omega, fun x hx => by
       have := hdd.2 x hx
       simp only [Ci, BY, Bool.and_eq_true, decide_eq_true_eq] at this
       omega⟩, hb⟩
     obtain ⟨pr', h6, h7⟩ := MI I ⟨a, b, dn, s⟩ hy; rw [h6, Option.bind_some]; cases hr : AX ⟨a, b, dn, s⟩ with
     | false =>
      rw [if_neg (by simp [hr])] at hX; subst hX; exact ⟨fun _ => ⟨_, rfl⟩, fun y h => (by cases h)⟩
     | true =>
      rw [hr] at h7; rw [if_pos ⟨ht, hr⟩] at hX; subst hX; refine ⟨fun h => (by cases h), fun y h => ?_⟩; cases h; exact ⟨pr', rfl, h7⟩
   ·rw [if_neg ht]; refine ⟨fun _ => ⟨_, rfl⟩, fun y h => ?_⟩; rw [h] at hX; obtain ⟨s, _, hX⟩ := Option.bind_eq_some_iff.1 hX; rw [if_neg (fun h => ht h.1)] at hX; cases hX
 ·rw [h1] at hX; subst hX; rw [if_pos (by omega)]; exact ⟨fun _ => ⟨_, rfl⟩, fun y h => (by cases h)⟩
end Go.Idl
namespace Go.Idl
open Go Go.Proofs.Tryz Go.Lib
set_option pp.deepTerms false
noncomputable def ET (r : S78) (L : List S39) : Option (List S39) :=
  match r.CX with
  | 112 :: h => (B7 r.Ac 10).bind fun q => (Iz q.2).bind fun c => if (Fo L ⟨h, q.1, c⟩).2 = 0 then some (Fo L ⟨h, q.1, c⟩).1 else none
  | _ => none
noncomputable def ofS : List S78 → S35 → Option S35
  | [], d => some d
  | r :: l, d => if r.CX = [105] ∧ d.fP.A7 = [] then (FG r.Ac).bind fun y => ofS l ⟨d.fL, y⟩ else (ET r d.fL).bind fun L => ofS l ⟨L, d.fP⟩
def Um : Str → Str × Bool
  | 112 :: t => (t, true)
  | s => (s, false)
def Pq (s : Str) : Str × Str × Bool := match B7 s 10 with | some p => (p.1, p.2, true) | none => (s, [], false)
theorem fm (s : Str) : cut s [10] = Pq s := Q4 s 10
theorem Qi {x : UInt8} {t : Str} (h : ¬ x = 112) : Um (x :: t) = (x :: t, false) := by
 unfold Um; split
 ·rename_i h' e; exact absurd (by cases e; rfl) h
 ·rfl
theorem fo (s : Str) : F64 s [112] = some (Um s) := by
 unfold F64 T6 T5; cases s with
 | nil => rfl
 | cons x t =>
  rw [if_pos (by simp; omega), Af (by simp), Af (by simp; omega)]; simp only [Option.bind_some, List.length_cons, List.length_nil]; by_cases h : x = 112
  ·subst h; rw [decide_eq_true (by rfl), if_neg (by simp), Af (by omega), Af (by simp; omega)]; rfl
  ·have h3 : ¬ List.take (((0 + 1 : Nat) : Int)).toNat (x :: t) = [112] := by simpa using h
   rw [decide_eq_false h3, if_pos (by simp), Qi h]; rfl
theorem Zz : E7 BL := ⟨rfl, by intro l hl; simp [BL] at hl; simp [hl]⟩
theorem Un (s : Str) : E7 (G6 s).1 := by
 rw [MJ]; cases h : Iz s with
 | none => exact Zz
 | some c => exact (GY h).2.2
section
variable {m : Mp} {n : Np} {pr : Option S33} {d : S35} {l : List S78}
theorem Wl (I : Inv m n pr d) (i : Nat) (hi : i < l.length) (hl : l.length ≤ 1000000) (h : ∀ r ∈ l, r.CX.length ≤ 1000000 ∧ r.Ac.length ≤ 1000000) :
    (ET l[i] d.fL = none → Dv l (i : Int) pr m n = some (.inr (.inr (none, 301)))) ∧ ∀ L, ET l[i] d.fL = some L → ∃ m' n', Dv l (i : Int) pr m n = some (.inl (((i + 1 : Nat) : Int), pr, m', n')) ∧ Inv m' n' pr ⟨L, d.fP⟩ := by
 have hr := h _ (List.getElem_mem hi); have hg : l.getD i S78.zero = l[i] := getD_some hi _; generalize hX : ET l[i] d.fL = X; unfold ET at hX; unfold Dv; rw [Int.toNat_natCast, hg]; generalize l[i] = r at *; have e65 : F65 r.Ac [10] = some (cut r.Ac [10]) := Af (by omega); rw [fo, Option.bind_some, e65, Option.bind_some, fm]; have e66 : ∀ s : Str, s.length ≤ 1000000 → F66 s = some (G6 s) := fun s hs => Af (by omega); have hc2 : ∀ q, B7 r.Ac 10 = some q → q.1.length ≤ r.Ac.length ∧ q.2.length ≤ r.Ac.length := fun q hq => by have := Cb hq; omega
 have hlen : (Pq r.Ac).2.1.length ≤ 1000000 := by
  unfold Pq; cases hq : B7 r.Ac 10 with
  | none => simp
  | some q => have := hc2 q hq; simp only; omega
 rw [e66 _ hlen, Option.bind_some, Af (Un _).1]; cases hk : r.CX with
 | nil =>
  rw [hk] at hX; subst hX; rw [if_pos (by simp [Um])]; exact ⟨fun _ => rfl, fun L h => (by cases h)⟩
 | cons x t =>
  by_cases hx : x = 112
  ·subst hx; rw [hk] at hX; simp only at hX; rw [show Um (112 :: t) = (t, true) from rfl, if_neg (by simp)]; cases hq : B7 r.Ac 10 with
   | none =>
    rw [hq] at hX; subst hX; have e1 : Pq r.Ac = (r.Ac, [], false) := by rw [Pq, hq]
    rw [e1, if_pos (by simp)]; exact ⟨fun _ => rfl, fun L h => (by cases h)⟩
   | some q =>
    rw [hq, Option.bind_some] at hX; have hcl := hc2 q hq; have e1 : Pq r.Ac = (q.1, q.2, true) := by rw [Pq, hq]
    rw [e1, if_neg (by simp)]; simp only; rw [MJ]; cases hc : Iz q.2 with
    | none =>
     rw [hc] at hX; subst hX; rw [if_pos (by decide)]; exact ⟨fun _ => rfl, fun L h => (by cases h)⟩
    | some c =>
     rw [hc, Option.bind_some] at hX; rw [if_neg (by simp)]; have hkl : t.length ≤ 1000000 := by have := hr.1; rw [hk] at this; simp at this; omega
     obtain ⟨m', n', h1, h2⟩ := IY I ⟨t, q.1, c⟩ ⟨hkl, by simp only; omega, (GY hc).2.2⟩; simp only; rw [h1, Option.bind_some]; by_cases h0 : (Fo d.fL ⟨t, q.1, c⟩).2 = 0
     ·rw [if_pos h0] at hX; subst hX; rw [if_neg (by simpa using h0), B6 (by omega)]; refine ⟨fun h => (by cases h), fun L h => ?_⟩; cases h; exact ⟨m', n', rfl, h2⟩
     ·rw [if_neg h0] at hX; subst hX; rw [if_pos (by simpa using h0)]; exact ⟨fun _ => rfl, fun L h => (by cases h)⟩
  ·have : X = none := by
    rw [← hX, hk]; split
    ·rename_i h' e; exact absurd (by cases e; rfl) hx
    ·rfl
   subst this; rw [Qi hx, if_pos (by simp)]; exact ⟨fun _ => rfl, fun L h => (by cases h)⟩
noncomputable abbrev stO (l : List S78) := fun (s : Int × (Option S33) × Mp × Np) => G7 l s.1 s.2.1 s.2.2.1 s.2.2.2
noncomputable def ZA (y : ((Option S33) × Mp × Np) ⊕ ((Option (Mp × Np × (Option S33))) × Int)) : Option ((Option (Mp × Np × (Option S33))) × Int) := Sum.elim (fun e => MD e.1 e.2.1 e.2.2) (fun q => some q) y
theorem Kr (hl : l.length ≤ 1000000) (h : ∀ r ∈ l, r.CX.length ≤ 1000000 ∧ r.Ac.length ≤ 1000000) : ∀ (k i : Nat) (m : Mp) (n : Np) (pr : Option S33) (d : S35), i + k = l.length → Inv m n pr d →
    (ofS (l.drop i) d = none → (AN (stO l) ((i : Int), pr, m, n)).bind ZA = some (none, 301)) ∧ ∀ d', ofS (l.drop i) d = some d' → ∃ m' n' pr', (AN (stO l) ((i : Int), pr, m, n)).bind ZA = some (some (m', n', pr'), 0) ∧ Inv m' n' pr' d'
  | 0, i, m, n, pr, d, hk, I => by
    rw [List.drop_of_length_le (by omega)]
    have e : stO l ((i : Int), pr, m, n) = some (.inr (.inl (pr, m, n))) := by
      simp only [stO, G7]
      rw [if_neg (by omega)]
    rw [AR e]
    refine ⟨fun h => (by cases h), fun d' h => ?_⟩
    cases h
    exact ⟨m, n, pr, rfl, I⟩
  | k + 1, i, m, n, pr, d, hk, I => by
    have hi : i < l.length := by omega
    have hg : l.getD i S78.zero = l[i] := getD_some hi _
    have hr := h _ (List.getElem_mem hi)
    rw [List.drop_eq_getElem_cons hi, ofS]
    have hpr := I.prs
    have row : ¬ (l[i].CX = [105] ∧ d.fP.A7 = []) → stO l ((i : Int), pr, m, n) = Dv l (i : Int) pr m n := by
      intro hc
      simp only [stO, G7]
      rw [if_pos (by omega), Af (by omega), Int.toNat_natCast, hg]
      by_cases h1 : l[i].CX = [105]
      · rw [if_pos h1]
        have h2 : pr.isSome = true := by rw [hpr]; simpa using fun e => hc ⟨h1, e⟩
        rw [if_neg (by cases pr <;> simp at h2 ⊢)]
      · rw [if_neg h1]
    by_cases hc : l[i].CX = [105] ∧ d.fP.A7 = []
    · rw [if_pos hc]
      have h2 : pr.isNone = true := by
        cases pr with
        | none => rfl
        | some y => rw [hc.2] at hpr; simp at hpr
      have e0 : stO l ((i : Int), pr, m, n) = (F63 m n pr l[i].Ac).bind fun (x43 : Bool × (Option S33)) => if ¬ (x43.1 = true) then (some (.inr (.inr (none, 301)))) else (some (.inl ((IntKind.i64.wrap ((i : Int) + 1), x43.2, m, n)))) := by
        simp only [stO, G7]
        rw [if_pos (by omega), Af (by omega), Int.toNat_natCast, hg, if_pos hc.1, if_pos h2]
      obtain ⟨f1, f2⟩ := Zy I l[i].Ac hr.2
      cases hp : FG l[i].Ac with
      | none =>
        obtain ⟨w, hw⟩ := f1 hp
        rw [hw, Option.bind_some, if_pos (by simp)] at e0
        rw [AR e0]
        exact ⟨fun _ => rfl, fun d' h => (by cases h)⟩
      | some y =>
        obtain ⟨pr', hw, I'⟩ := f2 y hp
        rw [hw, Option.bind_some, if_neg (by simp), B6 (by omega)] at e0
        rw [Bu e0, Option.bind_some]
        exact Kr hl h k (i + 1) m n pr' ⟨d.fL, y⟩ (by omega) I'
    · rw [if_neg hc]
      obtain ⟨f1, f2⟩ := Wl I i hi hl h
      cases hp : ET l[i] d.fL with
      | none =>
        rw [AR ((row hc).trans (f1 hp))]
        exact ⟨fun _ => rfl, fun d' h => (by cases h)⟩
      | some L =>
        obtain ⟨m', n', hw, I'⟩ := f2 L hp
        rw [Bu ((row hc).trans hw), Option.bind_some]
        exact Kr hl h k (i + 1) m' n' pr ⟨L, d.fP⟩ (by omega) I'
theorem ZB (hl : l.length ≤ 1000000) (h : ∀ r ∈ l, r.CX.length ≤ 1000000 ∧ r.Ac.length ≤ 1000000) :
    (ofS l ⟨[], S33.zero⟩ = none → F35 l = some (none, 301)) ∧ ∀ d', ofS l ⟨[], S33.zero⟩ = some d' → ∃ m' n' pr', F35 l = some (some (m', n', pr'), 0) ∧ Inv m' n' pr' d' := by
 have := Kr hl h l.length 0 [] [] none ⟨[], S33.zero⟩ (by omega) Inv.nil; rw [List.drop_zero] at this; have e : F35 l = (AN (stO l) (((0 : Nat) : Int), none, [], [])).bind ZA := rfl; rw [e]; exact this
end
end Go.Idl
namespace Go.Idl
open Go Go.Proofs.Tryz Go.Lib
set_option pp.deepTerms false
section
variable {l : List S78}
abbrev z33 : S33 := ⟨[], [], [], [[], [], [], [], [], [], [], []]⟩
end
end Go.Idl
namespace Go.Idl
open Go Go.RowKit Go.ChangeShapes Go.WideShapes
def g0 : Gs := { oth := fun _ => False, mu := fun _ => undef, sh := fun _ => none, nx := 0 }
def H0 : A2 := { next := 0, obj := fun _ => none, sn := [] }
theorem ow0 (b : Nat) : ¬ g0.ow b := by
 rintro (h | ⟨k, h, _⟩)
 ·exact h
 ·cases h
theorem KK {w w' : World} {g' : Gs} (m : AB w g0 w' g') : Below w.heap.size w w' :=
  ⟨m.os, m.tape, m.output, m.size, fun k hk => m.keep k hk fun ⟨i, h, _⟩ => by cases h⟩
variable {P : Program} {w : World} {Hh : Type} {enc : TypeId × Value → Hh}
def Rd (P : Program) (w : World) {Hh : Type} (enc : TypeId × Value → Hh) (t : TypeId) (S : List IV → Prop) : Prop :=
  ∀ (base : Nat) (spare : Nat → Bool) (held : Bool) (fuel : Nat) (cs : List Value) (x : DataW Hh × List MemPlace), DataW.trod enc P w base spare held fuel t cs = some x →
    ∃ is, S is ∧ is.length = cs.length ∧ ∀ (j : Nat) (c : Value) (i : IV), cs[j]? = some c → is[j]? = some i → c.oneCell' = true ∧ R w g0 c i
theorem G8 {c : Value} {i : IV} (ho : c.oneCell' = true) (hr : R w g0 c i) : ∀ (j : Nat) (c' : Value) (i' : IV), [c][j]? = some c' → [i][j]? = some i' → c'.oneCell' = true ∧ R w g0 c' i' := by
 intro j c' i' h1 h2; cases j with
 | zero => simp at h1 h2; subst h1; subst h2; exact ⟨ho, hr⟩
 | succ j => simp at h1
theorem ZC {t : TypeId} {k : IntKind} (hu : P.underlying t = some (.int k)) : Rd P w enc t fun is => ∃ n : Int, is = [.v (.int k n)] := by
 intro base spare held fuel cs x h; obtain ⟨n, rfl, _, _⟩ := DataW.trod_int hu h; exact ⟨_, ⟨n, rfl⟩, rfl, G8 rfl (.v _)⟩
theorem RG {t : TypeId} (hu : P.underlying t = some .string) : Rd P w enc t fun is => ∃ s : List UInt8, is = [.v (str s)] := by
 intro base spare held fuel cs x h; obtain ⟨s, rfl, _, _⟩ := DataW.trod_string hu h; refine ⟨_, ⟨bytes s, rfl⟩, rfl, G8 rfl ?_⟩; rw [show str (bytes s) = .string s by rw [str, Gc]]; exact .v _
theorem Dx {E : Type} (Pr : Nat → E → Prop) : ∀ n : Nat, (∀ i, i < n → ∃ x, Pr i x) → ∃ l : List E, l.length = n ∧ ∀ (i : Nat) (x : E), l[i]? = some x → Pr i x
  | 0, _ => ⟨[], rfl, by simp⟩
  | n + 1, h => by
    obtain ⟨l, h1, h2⟩ := Dx Pr n fun i hi => h i (by omega)
    obtain ⟨x, hx⟩ := h n (by omega)
    refine ⟨l ++ [x], by simp [h1], fun i y hy => ?_⟩
    rcases Nat.lt_or_ge i n with hi | hi
    · rw [List.getElem?_append_left (by omega)] at hy
      exact h2 i y hy
    · rw [List.getElem?_append_right (by omega)] at hy
      have e : i = n := by
        have := (List.getElem?_eq_some_iff.1 hy).1
        simp at this; omega
      subst e
      simp [h1] at hy
      subst hy
      exact hx
theorem Ls {base : Nat} {a : Addr} : ∀ {n : Nat} {cs : List Value}, w.cells? base a n = some cs → cs.length = n ∧ ∀ j, j < n → w.cell? (a.add j) = cs[j]? := by
 intro n cs h; unfold World.cells? at h; split at h
 ·refine ⟨?_, fun j hj => ?_⟩
  ·have := mapM_some_length h; simpa using this
  ·exact mapM_some_get h j j (by simp [hj])
 ·cases h
theorem Uo {t e : TypeId} {E : Type} (cells : E → List IV) (hu : P.underlying t = some (.slice e)) (h0 : 0 < P.cellsOf e) (he : Rd P w enc e fun is => ∃ x : E, is = cells x) :
    Rd P w enc t fun is => ∃ l : List E, is = [.sl (P.cellsOf e) (l.map cells)] := by
 intro base spare held fuel cs x h; rcases DataW.trod_slice hu h with ⟨rfl, _⟩ | ⟨a, len, cap, elems, rest, n, _, rfl, _, hb, hl, hm, hlen, hel, _, _⟩
 ·exact ⟨_, ⟨[], rfl⟩, rfl, G8 rfl (.sl0 _ _ _)⟩
 ·obtain ⟨l, l1, l2⟩ := Dx (fun i (y : E) => (cells y).length = P.cellsOf e ∧ ∀ (j : Nat) (i' : IV), (cells y)[j]? = some i' → ∃ c, w.cell? ((a.add (i * P.cellsOf e)).add j) = some c ∧ c.oneCell' = true ∧ R w g0 c i') len (fun i hi => by
    have hei := hel i hi
    have hne : elems[i]? = some elems[i] := List.getElem?_eq_getElem (by omega)
    rw [hne, Option.bind_eq_some_iff] at hei
    obtain ⟨ci, hc, ht⟩ := hei
    obtain ⟨q1, q2⟩ := Ls hc
    obtain ⟨is, ⟨y, rfl⟩, q3, q4⟩ := he _ _ _ _ _ _ ht
    refine ⟨y, by rw [q3, q1], fun j i' hj => ?_⟩
    have hjl : j < ci.length := by rw [← q3]; exact (List.getElem?_eq_some_iff.1 hj).1
    have := q4 j ci[j] i' (List.getElem?_eq_getElem hjl) hj
    exact ⟨ci[j], by rw [q2 j (by omega)]; exact List.getElem?_eq_getElem hjl, this⟩)
  refine ⟨_, ⟨l, rfl⟩, rfl, G8 rfl ?_⟩; by_cases hz : len = 0
  ·subst hz; have : l = [] := List.eq_nil_of_length_eq_zero l1; subst this; exact .sl0 _ _ _
  ·have hlm : (l.map cells).length = len := by simp [l1]
   have h0l : 0 < l.length := by omega
   obtain ⟨q1, q2⟩ := l2 0 l[0] (List.getElem?_eq_getElem h0l); have hpos : 0 < (cells l[0]).length := by omega
   obtain ⟨c0, q3, _⟩ := q2 0 _ (List.getElem?_eq_getElem hpos); obtain ⟨b, off, spot⟩ := a; have hsp : spot = none ∧ b < w.heap.size := by
    have e0 : ((⟨b, off, spot⟩ : Addr).add (0 * P.cellsOf e)).add 0 = ⟨b, off, spot⟩ := by simp [Addr.add]
    rw [e0] at q3; unfold World.cell? at q3; split at q3
    ·rename_i hh; refine ⟨?_, (Array.getElem?_eq_some_iff.1 hh).1⟩; split at q3
     ·cases q3
     ·rename_i hs; simpa using hs
    ·cases q3
   obtain ⟨rfl, hlt⟩ := hsp; rw [← hlm]; refine .sl b off cap _ _ (fun i j => (w.cell? ⟨b, off + i * P.cellsOf e + j, none⟩).getD undef) (ow0 b) hlt (by rw [hlm]; have hm' : cap ≤ 9223372036854775807 := hm; unfold Ch; omega) (by omega) ?_ ?_ ?_ ?_
   ·intro c hc; obtain ⟨y, hy, rfl⟩ := List.mem_map.1 hc; obtain ⟨i, hi⟩ := List.getElem?_of_mem hy; exact (l2 i y hi).1
   all_goals
    intro i ee j c h1 h2; simp only [List.getElem?_map, Option.map_eq_some_iff] at h1; obtain ⟨y, hy, rfl⟩ := h1; obtain ⟨c', r1, r2, r3⟩ := (l2 i y hy).2 j c h2; rw [addr_add, addr_add] at r1
    first | (rw [r1]; rfl) | (simp only [r1, Option.getD_some]; first | exact r2 | exact r3)
theorem Uq {t e : TypeId} {E : Type} {n : Nat} (cell : E → IV) (hu : P.underlying t = some (.array n e)) (hc : P.cellsOf e = 1) (hct : P.cellsOf t = n) (he : Rd P w enc e fun is => ∃ x : E, is = [cell x]) :
    Rd P w enc t fun is => ∃ l : List E, l.length = n ∧ is = l.map cell := by
 intro base spare held fuel cs x h; obtain ⟨xs, m, _, _, h1, h2, h3⟩ := DataW.trod_array hu h; rw [hct] at h1
 obtain ⟨l, l1, l2⟩ := Dx (fun i (y : E) => ∃ c, cs[i]? = some c ∧ c.oneCell' = true ∧ R w g0 c (cell y)) n (fun i hi => by
   have := h3 i hi
   rw [hc, Nat.mul_one] at this
   have hci : cs[i]? = some cs[i] := List.getElem?_eq_getElem (by omega)
   have hd : (cs.drop i).take 1 = [cs[i]] := by rw [List.drop_eq_getElem_cons (by omega)]; rfl
   rw [hd, List.getElem?_eq_getElem (by omega)] at this
   obtain ⟨is, ⟨y, rfl⟩, _, q4⟩ := he _ _ _ _ _ _ this
   exact ⟨y, cs[i], hci, q4 0 _ _ rfl rfl⟩)
 refine ⟨_, ⟨l, l1, rfl⟩, by simp [l1, h1], fun j c i h4 h5 => ?_⟩; simp only [List.getElem?_map, Option.map_eq_some_iff] at h5; obtain ⟨y, hy, rfl⟩ := h5; obtain ⟨c', r1, r2, r3⟩ := l2 j y hy; rw [h4] at r1; cases r1; exact ⟨r2, r3⟩
theorem Rd.one {t : TypeId} {v : Value} {d : DataW Hh} {ps : List MemPlace} {S : List IV → Prop} {base : Nat} {spare : Nat → Bool} {held : Bool} (h : Rd P w enc t S) (hv : v.cells = #[v]) (hd : DataW.Trod enc P w base spare held t v d ps) : ∃ i, S [i] ∧ R w g0 v i := by
 obtain ⟨fuel, hf⟩ := hd; obtain ⟨is, h1, h2, h3⟩ := h _ _ _ _ _ _ hf; rw [hv] at h2 h3
 match is, h2, h1, h3 with
 | [i], _, h1, h3 => exact ⟨i, h1, (h3 0 v i rfl rfl).2⟩
theorem Rd.agg {t : TypeId} {cs : Array Value} {d : DataW Hh} {ps : List MemPlace} {S : List IV → Prop} {base : Nat} {spare : Nat → Bool} {held : Bool} (h : Rd P w enc t S) (hd : DataW.Trod enc P w base spare held t (.agg cs) d ps) : ∃ is, S is ∧ R w g0 (.agg cs) (.ag is) := by
 obtain ⟨fuel, hf⟩ := hd; obtain ⟨is, h1, h2, h3⟩ := h _ _ _ _ _ _ hf; have hcs : (Value.agg cs).cells.toList = cs.toList := rfl; rw [hcs] at h2 h3; refine ⟨is, h1, .ag cs is (by simpa using h2.symm) (fun j x hx => ?_) fun j x c hx hc => (h3 j x c (by simpa using hx) hc).2⟩; have hlt : j < is.length := by
  have := (Array.getElem?_eq_some_iff.1 hx).1; rw [h2]; simpa using this
 exact (h3 j x is[j] (by simpa using hx) (List.getElem?_eq_getElem hlt)).1
end Go.Idl
namespace Go.Idl
open Go Go.RowKit Go.ChangeShapes Go.WideShapes
def HV (vs : List (Nat × Array Value)) : A2 := { next := 0, obj := fun _ => none, sn := [Gx vs] }
theorem jW (w : World) (vs : List (Nat × Array Value)) (h : ∀ p, p ∈ vs → ∃ el f, w.heap[p.1]? = some (.cells p.2 el f)) : Sim w g0 (HV vs) where
  nx := rfl
  sh := fun _ => rfl
  lt := fun k h => by cases h
  bk := fun k b h => by cases h
  inj := fun k k' b h => by cases h
  obj := fun k o h => by cases h
  old := fun b h => h.elim
  snap := fun p hp i hi => by
    obtain rfl : p = Gx vs := by simpa [HV] using hp
    have hl : i < vs.length := by simpa [Gx] using hi
    obtain ⟨el, f, h1⟩ := h _ (List.getElem_mem hl)
    simp only [Gx, List.getElem?_eq_getElem hl]
    exact .blk _ _ el f _ (ow0 _) h1
theorem Pt {P : Program} {w : World} {name : String} {b : Nat} {xs : Array Value} (hg : P.globalNamed name = some b) (h : w.var? P name = some xs) : ∃ el f, w.heap[b]? = some (.cells xs el f) := by
 unfold World.var? at h; rw [hg] at h; simp only [Option.bind_some] at h; split at h
 ·rename_i cs el f hc; cases h; exact ⟨el, f, hc⟩
 ·cases h
theorem Wm {w : World} {b i : Nat} {x : Value} (h : w.cell? ⟨b, i, none⟩ = some x) : ∃ xs el f, w.heap[b]? = some (.cells xs el f) ∧ xs[i]? = some x := by
 simp only [World.cell?] at h; cases hb : w.heap[b]? with
 | none => rw [hb] at h; simp at h
 | some o =>
  rw [hb] at h; cases o with
  | cells xs el f => exact ⟨xs, el, f, rfl, by simpa using h⟩
  | _ => simp at h
end Go.Idl
namespace Go.Idl
open Go Go.RowKit Go.ChangeShapes Go.WideShapes
variable {P : Program} {w : World} {Hh : Type} {enc : TypeId × Value → Hh}
def RdZ (P : Program) (w : World) {Hh : Type} (enc : TypeId × Value → Hh) (t : TypeId) (S : List IV → Prop) : Prop :=
  ∀ (base : Nat) (spare : Nat → Bool) (held : Bool) (fuel : Nat) (cs : List Value) (x : DataW Hh × List MemPlace), DataW.trod enc P w base spare held fuel t cs = some x → (∀ n ∈ x.1.weights P t, n ≤ reachBytes) →
    ∃ is, S is ∧ is.length = cs.length ∧ ∀ (j : Nat) (c : Value) (i : IV), cs[j]? = some c → is[j]? = some i → c.oneCell' = true ∧ R w g0 c i
theorem Rd.z {t : TypeId} {S : List IV → Prop} (h : Rd P w enc t S) : RdZ P w enc t S := fun base spare held fuel cs x hx _ => h base spare held fuel cs x hx
theorem RdZ.mono {t : TypeId} {S S' : List IV → Prop} (h : RdZ P w enc t S) (hs : ∀ is, S is → S' is) : RdZ P w enc t S' := fun base spare held fuel cs x hx hz => let ⟨is, h1, h2⟩ := h base spare held fuel cs x hx hz; ⟨is, hs _ h1, h2⟩
theorem EU {e : TypeId} : ∀ {ds : List (DataW Hh)} {d : DataW Hh}, d ∈ ds → ∀ {n : Nat}, n ∈ d.weights P e → n ∈ DataW.weightsAll P e ds
  | d0 :: ds, d, hd, n, hn => by
    simp only [DataW.weightsAll, List.mem_append]
    rcases List.mem_cons.1 hd with e | e
    · subst e; exact .inl hn
    · exact .inr (EU e hn)
theorem Pv {t : TypeId} (hu : P.underlying t = some .string) : RdZ P w enc t fun is => ∃ s : List UInt8, s.length ≤ reachBytes ∧ is = [.v (str s)] := by
 intro base spare held fuel cs x h hz; obtain ⟨s, rfl, rfl, _⟩ := DataW.trod_string hu h; refine ⟨_, ⟨bytes s, ?_, rfl⟩, rfl, G8 rfl ?_⟩
 ·have := hz s.data.toList.length (by simp [DataW.weights]); simpa [bytes] using this
 ·rw [show str (bytes s) = .string s by rw [str, Gc]]; exact .v _
theorem Lt {t e : TypeId} {E : Type} (cells : E → List IV) (hu : P.underlying t = some (.slice e)) (h0 : 0 < P.cellsOf e) (he : RdZ P w enc e fun is => ∃ x : E, is = cells x) :
    RdZ P w enc t fun is => ∃ l : List E, is = [.sl (P.cellsOf e) (l.map cells)] := by
 intro base spare held fuel cs x h hz; rcases DataW.trod_slice hu h with ⟨rfl, _⟩ | ⟨a, len, cap, elems, rest, n, _, rfl, rfl, hb, hl, hm, hlen, hel, _, _⟩
 ·exact ⟨_, ⟨[], rfl⟩, rfl, G8 rfl (.sl0 _ _ _)⟩
 ·obtain ⟨l, l1, l2⟩ := Dx (fun i (y : E) => (cells y).length = P.cellsOf e ∧ ∀ (j : Nat) (i' : IV), (cells y)[j]? = some i' → ∃ c, w.cell? ((a.add (i * P.cellsOf e)).add j) = some c ∧ c.oneCell' = true ∧ R w g0 c i') len (fun i hi => by
    have hei := hel i hi
    have hne : elems[i]? = some elems[i] := List.getElem?_eq_getElem (by omega)
    rw [hne, Option.bind_eq_some_iff] at hei
    obtain ⟨ci, hc, ht⟩ := hei
    obtain ⟨q1, q2⟩ := Ls hc
    obtain ⟨is, ⟨y, rfl⟩, q3, q4⟩ := he _ _ _ _ _ _ ht fun n hn => hz n (by
      simp only [DataW.weights, hu, List.mem_cons, List.mem_append]
      exact .inr (.inl (EU (List.mem_map_of_mem (List.getElem_mem (by omega : i < elems.length))) hn)))
    refine ⟨y, by rw [q3, q1], fun j i' hj => ?_⟩
    have hjl : j < ci.length := by rw [← q3]; exact (List.getElem?_eq_some_iff.1 hj).1
    have := q4 j ci[j] i' (List.getElem?_eq_getElem hjl) hj
    exact ⟨ci[j], by rw [q2 j (by omega)]; exact List.getElem?_eq_getElem hjl, this⟩)
  refine ⟨_, ⟨l, rfl⟩, rfl, G8 rfl ?_⟩; by_cases hz : len = 0
  ·subst hz; have : l = [] := List.eq_nil_of_length_eq_zero l1; subst this; exact .sl0 _ _ _
  ·have hlm : (l.map cells).length = len := by simp [l1]
   have h0l : 0 < l.length := by omega
   obtain ⟨q1, q2⟩ := l2 0 l[0] (List.getElem?_eq_getElem h0l); have hpos : 0 < (cells l[0]).length := by omega
   obtain ⟨c0, q3, _⟩ := q2 0 _ (List.getElem?_eq_getElem hpos); obtain ⟨b, off, spot⟩ := a; have hsp : spot = none ∧ b < w.heap.size := by
    have e0 : ((⟨b, off, spot⟩ : Addr).add (0 * P.cellsOf e)).add 0 = ⟨b, off, spot⟩ := by simp [Addr.add]
    rw [e0] at q3; unfold World.cell? at q3; split at q3
    ·rename_i hh; refine ⟨?_, (Array.getElem?_eq_some_iff.1 hh).1⟩; split at q3
     ·cases q3
     ·rename_i hs; simpa using hs
    ·cases q3
   obtain ⟨rfl, hlt⟩ := hsp; rw [← hlm]; refine .sl b off cap _ _ (fun i j => (w.cell? ⟨b, off + i * P.cellsOf e + j, none⟩).getD undef) (ow0 b) hlt (by rw [hlm]; have hm' : cap ≤ 9223372036854775807 := hm; unfold Ch; omega) (by omega) ?_ ?_ ?_ ?_
   ·intro c hc; obtain ⟨y, hy, rfl⟩ := List.mem_map.1 hc; obtain ⟨i, hi⟩ := List.getElem?_of_mem hy; exact (l2 i y hi).1
   all_goals
    intro i ee j c h1 h2; simp only [List.getElem?_map, Option.map_eq_some_iff] at h1; obtain ⟨y, hy, rfl⟩ := h1; obtain ⟨c', r1, r2, r3⟩ := (l2 i y hy).2 j c h2; rw [addr_add, addr_add] at r1
    first | (rw [r1]; rfl) | (simp only [r1, Option.getD_some]; first | exact r2 | exact r3)
theorem Iq {t : TypeId} {f0 f1 f2 : Field} {S0 S1 S2 : List IV → Prop} (ht : P.underlying t = some (.struct #[f0, f1, f2])) (hc : P.cellsOf t = P.cellsOf f0.type + P.cellsOf f1.type + P.cellsOf f2.type) (o0 : f0.offset = 0) (o1 : f1.offset = P.cellsOf f0.type) (o2 : f2.offset = P.cellsOf f0.type + P.cellsOf f1.type)
    (h0 : RdZ P w enc f0.type S0) (h1 : RdZ P w enc f1.type S1) (h2 : RdZ P w enc f2.type S2) : RdZ P w enc t fun is => ∃ i0 i1 i2, S0 i0 ∧ S1 i1 ∧ S2 i2 ∧ is = i0 ++ (i1 ++ i2) := by
 intro base spare held fuel cs x h hz; obtain ⟨xs, n, _, rfl, hl, hlen, hf⟩ := DataW.trod_struct ht h; rw [hc] at hl; have q0 := hf 0 f0 rfl; have q1 := hf 1 f1 rfl; have q2 := hf 2 f2 rfl; rw [o0] at q0; rw [o1] at q1; rw [o2] at q2
 match xs, hlen, q0, q1, q2, hz with
 | [x0, x1, x2], _, q0, q1, q2, hz =>
  have hz' : ∀ n, n ∈ x0.1.weights P f0.type ∨ n ∈ x1.1.weights P f1.type ∨ n ∈ x2.1.weights P f2.type → n ≤ reachBytes := fun n hn => hz n (by
    simp only [DataW.weights, ht, List.map_cons, List.map_nil, List.toList_toArray, DataW.weightsEach, List.mem_append, List.not_mem_nil, or_false]
    exact hn)
  obtain ⟨is0, p0, l0, r0⟩ := h0 _ _ _ _ _ _ (by simpa using q0) fun n hn => hz' n (.inl hn); obtain ⟨is1, p1, l1, r1⟩ := h1 _ _ _ _ _ _ (by simpa using q1) fun n hn => hz' n (.inr (.inl hn)); obtain ⟨is2, p2, l2, r2⟩ := h2 _ _ _ _ _ _ (by simpa using q2) fun n hn => hz' n (.inr (.inr hn)); simp only [List.length_take, List.length_drop, List.drop_zero] at l0 l1 l2; refine ⟨_, ⟨is0, is1, is2, p0, p1, p2, rfl⟩, by simp only [List.length_append]; omega, fun j c i e1 e2 => ?_⟩; have hj := (List.getElem?_eq_some_iff.1 e1).1; rcases Nat.lt_or_ge j is0.length with a | a
  ·rw [List.getElem?_append_left a] at e2; exact r0 j c i (by rw [List.getElem?_take, if_pos (by omega)]; simpa using e1) e2
  ·rw [List.getElem?_append_right a] at e2; rcases Nat.lt_or_ge (j - is0.length) is1.length with b | b
   ·rw [List.getElem?_append_left b] at e2; refine r1 (j - is0.length) c i ?_ e2; rw [List.getElem?_take, if_pos (by omega), List.getElem?_drop, show P.cellsOf f0.type + (j - is0.length) = j by omega]; exact e1
   ·rw [List.getElem?_append_right b] at e2; refine r2 (j - is0.length - is1.length) c i ?_ e2; rw [List.getElem?_take, if_pos (by omega), List.getElem?_drop, show P.cellsOf f0.type + P.cellsOf f1.type + (j - is0.length - is1.length) = j by omega]; exact e1
theorem O3 {t : TypeId} {f0 f1 : Field} {S0 S1 : List IV → Prop} (ht : P.underlying t = some (.struct #[f0, f1])) (hc : P.cellsOf t = P.cellsOf f0.type + P.cellsOf f1.type) (o0 : f0.offset = 0) (o1 : f1.offset = P.cellsOf f0.type)
    (h0 : RdZ P w enc f0.type S0) (h1 : RdZ P w enc f1.type S1) : RdZ P w enc t fun is => ∃ i0 i1, S0 i0 ∧ S1 i1 ∧ is = i0 ++ i1 := by
 intro base spare held fuel cs x h hz; obtain ⟨xs, n, _, rfl, hl, hlen, hf⟩ := DataW.trod_struct ht h; rw [hc] at hl; have q0 := hf 0 f0 rfl; have q1 := hf 1 f1 rfl; rw [o0] at q0; rw [o1] at q1
 match xs, hlen, q0, q1, hz with
 | [x0, x1], _, q0, q1, hz =>
  have hz' : ∀ n, n ∈ x0.1.weights P f0.type ∨ n ∈ x1.1.weights P f1.type → n ≤ reachBytes := fun n hn => hz n (by
    simp only [DataW.weights, ht, List.map_cons, List.map_nil, List.toList_toArray, DataW.weightsEach, List.mem_append, List.not_mem_nil, or_false]
    exact hn)
  obtain ⟨is0, p0, l0, r0⟩ := h0 _ _ _ _ _ _ (by simpa using q0) fun n hn => hz' n (.inl hn); obtain ⟨is1, p1, l1, r1⟩ := h1 _ _ _ _ _ _ (by simpa using q1) fun n hn => hz' n (.inr hn); simp only [List.length_take, List.length_drop, List.drop_zero] at l0 l1; refine ⟨_, ⟨is0, is1, p0, p1, rfl⟩, by simp only [List.length_append]; omega, fun j c i e1 e2 => ?_⟩; have hj := (List.getElem?_eq_some_iff.1 e1).1; rcases Nat.lt_or_ge j is0.length with a | a
  ·rw [List.getElem?_append_left a] at e2; exact r0 j c i (by rw [List.getElem?_take, if_pos (by omega)]; simpa using e1) e2
  ·rw [List.getElem?_append_right a] at e2; refine r1 (j - is0.length) c i ?_ e2; rw [List.getElem?_take, if_pos (by omega), List.getElem?_drop, show P.cellsOf f0.type + (j - is0.length) = j by omega]; exact e1
theorem RdZ.one {t : TypeId} {v : Value} {d : DataW Hh} {ps : List MemPlace} {S : List IV → Prop} {base : Nat} {spare : Nat → Bool} {held : Bool} (h : RdZ P w enc t S) (hv : v.cells = #[v]) (hd : DataW.Trod enc P w base spare held t v d ps)
    {ts : List TypeId} {ds : List (DataW Hh)} (hw : (DataW.weightsEach P ts ds).all (· ≤ reachBytes) = true) {k : Nat} (h1 : ts[k]? = some t) (h2 : ds[k]? = some d) : ∃ i, S [i] ∧ R w g0 v i := by
 obtain ⟨fuel, hf⟩ := hd; obtain ⟨is, h1, h2, h3⟩ := h _ _ _ _ _ _ hf fun n hn => by simpa using List.all_eq_true.1 hw _ (DataW.weights_mem_each h1 h2 n hn)
 rw [hv] at h2 h3
 match is, h2, h1, h3 with
 | [i], _, h1, h3 => exact ⟨i, h1, (h3 0 v i rfl rfl).2⟩
end Go.Idl
namespace Go.Proofs.YtbgebljjmpklkaaGreatDoor
open Go Go.ChangeShapes Go.WideShapes Go.ChangeAt Go.RowKit Go.Idl
theorem Wn : ownKnob Tryz.prog.godebug = none := by kernel_rfl
theorem G9 : laidOutB Tryz.prog = true := by kernel_rfl
theorem ZD : Tryz.prog.globalNamed "internal/strconv.uint64pow10" = some 1 := by kernel_rfl
section
variable {w : World} {Hh : Type} {enc : TypeId × Value → Hh}
theorem rd3 : RdZ Tryz.prog w enc 3 fun is => ∃ n : Int, is = [.v (.int .i64 n)] := (ZC Tryz.underlying3).z
theorem rd9 : RdZ Tryz.prog w enc 9 fun is => ∃ s : List UInt8, s.length ≤ reachBytes ∧ is = [.v (str s)] := Pv Tryz.underlying9
theorem jX : Rd Tryz.prog w enc 30 fun is => ∃ l : List (List UInt8), is = [.sl 1 (l.map fun x => [.v (str x)])] := by
 have h := Uo (w := w) (enc := enc) (fun s : List UInt8 => [IV.v (str s)]) Tryz.underlying30 (Nat.lt_of_lt_of_eq Nat.one_pos Ey.symm) (RG Tryz.underlying9); rw [Ey] at h; exact h
theorem jY : Rd Tryz.prog w enc 32 fun is => ∃ c : List (List (List UInt8)), c.length = 8 ∧ is = c.map fun x => .sl 1 (x.map fun x => [.v (str x)]) := Uq (fun x : List (List UInt8) => .sl 1 (x.map fun x => [.v (str x)])) Tryz.underlying32 V6 PL jX
abbrev cX (x : S39) : List IV := .v (str x.A7) :: .v (str x.A8) :: (x.A3.map fun x => .sl 1 (x.map fun x => [.v (str x)]))
def jZ (x : S39) : Prop := x.A3.length = 8 ∧ x.A7.length ≤ reachBytes ∧ x.A8.length ≤ reachBytes
theorem j_ : RdZ Tryz.prog w enc 40 fun is => ∃ x : S39, jZ x ∧ is = cX x := by
 refine (Iq (w := w) (enc := enc) Tryz.underlying40 (by rw [Ey, PL, LO]) rfl (by rw [Ey]) (by rw [Ey]) rd9 rd9 jY.z).mono ?_
 rintro is ⟨i0, i1, i2, ⟨s, hs, rfl⟩, ⟨u, hu, rfl⟩, ⟨c, hc, rfl⟩, rfl⟩
 exact ⟨⟨s, u, c⟩, ⟨hc, hs, hu⟩, rfl⟩
abbrev cD (x : S89) : List IV := [.v (str x.fType), .v (str x.Ac)]
def ZE (x : S89) : Prop := x.fType.length ≤ reachBytes ∧ x.Ac.length ≤ reachBytes
theorem k9 : RdZ Tryz.prog w enc 90 fun is => ∃ x : { x : S89 // ZE x }, is = cD x.1 := by
 refine (O3 (w := w) (enc := enc) Tryz.underlying90 (by rw [Ey, IC]) rfl (by rw [Ey]) rd9 rd9).mono ?_
 rintro is ⟨i0, i1, ⟨s, hs, rfl⟩, ⟨u, hu, rfl⟩, rfl⟩
 exact ⟨⟨⟨s, u⟩, hs, hu⟩, rfl⟩
theorem kf : RdZ Tryz.prog w enc 29 fun is => ∃ l : List S89, (∀ x ∈ l, ZE x) ∧ is = [.sl 2 (l.map cD)] := by
 have h := Lt (w := w) (enc := enc) (fun x : { x : S89 // ZE x } => cD x.1) Tryz.underlying29 (Nat.lt_of_lt_of_eq (by decide : 0 < 2) IC.symm) k9; rw [IC] at h; refine h.mono ?_
 rintro is ⟨l, rfl⟩
 refine ⟨l.map (·.1), fun x hx => ?_, by rw [List.map_map]; rfl⟩; obtain ⟨y, _, rfl⟩ := List.mem_map.1 hx; exact y.2
abbrev cA (a : S41) : List IV := .v (.int .i64 a.A_) :: .v (str a.A5.A7) :: .v (str a.A5.A8) :: ((a.A5.A3.map fun x => .sl 1 (x.map fun x => [.v (str x)])) ++ [.sl 2 (a.fDn.map fun x => [.v (str x.fType), .v (str x.Ac)])])
theorem fq : RdZ Tryz.prog w enc 42 fun is => ∃ a : { a : S41 // O0 a }, is = cA a.1 := by
 refine (Iq (w := w) (enc := enc) Tryz.underlying42 (by rw [OC, LO, V5, LP]) rfl (by rw [OC]) (by rw [OC, LO]) rd3 j_ kf).mono ?_
 rintro is ⟨i0, i1, i2, ⟨k, rfl⟩, ⟨x, hx, rfl⟩, ⟨d, hd, rfl⟩, rfl⟩
 have hr := reachBytes_lt; have e : (2 : Nat) ^ 47 = 140737488355328 := by decide
 rw [e] at hr; obtain ⟨h1, h2, h3⟩ := hx; refine ⟨⟨⟨k, x, d⟩, h1, ?_, ?_, fun y hy => ?_⟩, rfl⟩
 ·show x.A7.length ≤ 1000000000000000; omega
 ·show x.A8.length ≤ 1000000000000000; omega
 ·obtain ⟨q1, q2⟩ := hd y hy; exact ⟨by omega, by omega⟩
theorem fu : RdZ Tryz.prog w enc 22 fun is => ∃ l : List S41, (∀ a ∈ l, O0 a) ∧ is = [.sl 12 (l.map cA)] := by
 have h := Lt (w := w) (enc := enc) (fun x : { a : S41 // O0 a } => cA x.1) Tryz.underlying22 (Nat.lt_of_lt_of_eq (by decide : 0 < 12) LP.symm) fq; rw [LP] at h; refine h.mono ?_
 rintro is ⟨l, rfl⟩
 refine ⟨l.map (·.1), fun x hx => ?_, by rw [List.map_map]; rfl⟩; obtain ⟨y, _, rfl⟩ := List.mem_map.1 hx; exact y.2
end
end Go.Proofs.YtbgebljjmpklkaaGreatDoor
namespace Go.Proofs.YtbgebljjmpklkaaGreatDoor
open Go Go.ChangeShapes Go.WideShapes Go.ChangeAt Go.RowKit Go.Idl
def GZ : List (String × DataW Unit) := Rows.pairsReadsRow.laid
theorem RH (os : Os) (args : Array Value) : laidMetH Tryz.prog GZ ((World.laidAll Tryz.prog os GZ).forCall (fun _ _ => 0) ⟨#[], args, []⟩).memory := by
 rw [MakeChecks.laidMetH_plain _ _ _ (by kernel_rfl)]; exact laidMet_laidAll _ (by kernel_rfl) (by kernel_rfl)
theorem O4 (os : Os) : (World.laidAll Tryz.prog os GZ).Shaped Tryz.prog := World.shaped_of_ZipB (by kernel_rfl) (by kernel_rfl)
theorem Xh : "*" ++ "errors.errorString" = "*errors.errorString" := by decide
theorem Ur (u : TypeId) (h : Tryz.prog.typeName? 3 u = some "*errors.errorString") : u = 264 :=
  typeName_ptr_named (nm := "errors.errorString") (by rw [Xh]; kernel_rfl) (by kernel_rfl) (by decide) u (by rw [Xh]; exact h)
theorem Ju : Tryz.prog.cellsOf 266 = 1 := by kernel_rfl
theorem Qj : Tryz.prog.cellsOf 9 = 1 := by kernel_rfl
theorem kg : Tryz.prog.globalNamed "internal/bytealg.MaxLen" = some 0 := by kernel_rfl
theorem ZF : Tryz.prog.globalNamed "strconv.ErrSyntax" = some 2 := by kernel_rfl
theorem ZG : Tryz.prog.globalNamed "strconv.ErrRange" = some 3 := by kernel_rfl
theorem RI {W : World} (hL : laidMetH Tryz.prog GZ W) (hs : W.ShapedOpen Tryz.prog) : ∃ vs : List (Nat × Array Value), (∀ p, p ∈ vs → ∃ el f, W.heap[p.1]? = some (.cells p.2 el f)) ∧ VOK Tryz.prog (HV vs) := by
 have h0 : laidMet Tryz.prog GZ W := hL; have h2 := h0.tail.tail; have hT : Lib.TabIs Tryz.prog W "internal/strconv.uint64pow10" .u64 Lib.pow10Tab :=
  Lib.tabIs_of_head (t := 249) (e := 224) (n := 20) ZD (by kernel_rfl) Tryz.underlying249 Tryz.underlying224 (by kernel_rfl) (by kernel_rfl) h2
 obtain ⟨a3, s3, hv3, _, _, _⟩ := laid_sentinel h2.tail.tail ZG (by kernel_rfl) Tryz.underlying146 Ur Tryz.underlying264 Tryz.underlying266 rfl rfl Tryz.underlying9 Ju Qj; obtain ⟨a2, s2, hv2, _, _, _⟩ := laid_sentinel h2.tail.tail.tail ZF (by kernel_rfl) Tryz.underlying146 Ur Tryz.underlying264 Tryz.underlying266 rfl rfl Tryz.underlying9 Ju Qj; obtain ⟨m, hm⟩ := Tryz.SU.s1_3 W hs; obtain ⟨x4, el4, f4, hx4, hm4⟩ := Wm hm; refine ⟨[(1, (Lib.pow10Tab.map fun z => Value.int .u64 z).toArray), (2, #[.iface 264 (.pointer (some a2))]), (3, #[.iface 264 (.pointer (some a3))]), (0, x4)], ?_, ?_⟩
 ·intro p hp; simp only [List.mem_cons, List.not_mem_nil, or_false] at hp; rcases hp with rfl | rfl | rfl | rfl
  ·exact Pt ZD hT
  ·exact Pt ZF hv2
  ·exact Pt ZG hv3
  ·exact ⟨el4, f4, hx4⟩
 ·exact ⟨1, 2, 3, 0, 264, 264, .pointer (some a2), .pointer (some a3), x4, m, ZD, ZF, ZG, kg, hm4, List.mem_singleton.2 rfl⟩
section
variable {w : World} {Hh : Type} {enc : TypeId × Value → Hh}
end
end Go.Proofs.YtbgebljjmpklkaaGreatDoor
namespace Go.Idl
set_option maxHeartbeats 8000000
set_option pp.deepTerms false
set_option maxRecDepth 60000
open Go Go.Proofs.Tryz
noncomputable def Ks (a1 : S41) (v42 : Option S33) (v43 : List (List UInt8 × S39)) (v44 : List (List UInt8 × (List UInt8))) : Option Bool :=
 (F26 v43 v44 v42).bind fun (x46 : S33 × Bool) => gd (x46.1.A3.length = 8) ((F33 v43 v44 v42).bind fun (x49 : (List S78)) => (F35 x49).bind fun (x50 : (Option ((List (List UInt8 × S39)) × (List (List UInt8 × (List UInt8))) × (Option S33))) × Int) => opP x50.1 ((TB ).bind fun (x53 : S33 × Bool) => gd (x53.1.A3.length = 8) (if ¬ (x46.2 = true) then (some false) else ((F25 x46.1 (⟨a1.A5.A7, a1.A5.A8, a1.fDn, a1.A5.A3⟩ : S33)).bind fun (x58 : Bool) => if ¬ (x58 = true) then (some false) else (if ¬ x50.2 = 0 then (some false) else (if ¬ (x53.2 = true) then (some false) else ((F25 x53.1 (⟨a1.A5.A7, a1.A5.A8, a1.fDn, a1.A5.A3⟩ : S33)).bind fun (x62 : Bool) => if ¬ (x62 = true) then (some false) else ((F28 v43 v44 v42).bind fun (x64 : Int × (Option S33)) => if ¬ x64.1 = 0 then (some false) else ((F26 v43 v44 x64.2).bind fun (x68 : S33 × Bool) => if ¬ (x68.2 = true) then ((TD ).bind fun (x70 : Int) => (F34 v43 v44 x64.2).bind fun (x71 : Int) => if x70 = x71 then ((F11 ).bind fun (x72 : Bool) => some x72) else (some false)) else (some false))))))))) (fun (y51 : (List (List UInt8 × S39)) × (List (List UInt8 × (List UInt8))) × (Option S33)) => (F26 y51.1 y51.2.1 y51.2.2).bind fun (x81 : S33 × Bool) => gd (x81.1.A3.length = 8) (if ¬ (x46.2 = true) then (some false) else ((F25 x46.1 (⟨a1.A5.A7, a1.A5.A8, a1.fDn, a1.A5.A3⟩ : S33)).bind fun (x86 : Bool) => if ¬ (x86 = true) then (some false) else (if ¬ x50.2 = 0 then (some false) else (if ¬ (x81.2 = true) then (some false) else ((F25 x81.1 (⟨a1.A5.A7, a1.A5.A8, a1.fDn, a1.A5.A3⟩ : S33)).bind fun (x90 : Bool) => if ¬ (x90 = true) then (some false) else ((F28 v43 v44 v42).bind fun (x92 : Int × (Option S33)) => if ¬ x92.1 = 0 then (some false) else ((F26 v43 v44 x92.2).bind fun (x96 : S33 × Bool) => if ¬ (x96.2 = true) then ((F34 y51.1 y51.2.1 y51.2.2).bind fun (x98 : Int) => (F34 v43 v44 x92.2).bind fun (x99 : Int) => if x98 = x99 then ((F11 ).bind fun (x100 : Bool) => some x100) else (some false)) else (some false))))))))))
noncomputable def HT (a2 : List S41) (v38 : Int) (v39 : Option S33) (v40 : List (List UInt8 × S39)) (v41 : List (List UInt8 × (List UInt8))) : Option ((Int × (Option S33) × (List (List UInt8 × S39)) × (List (List UInt8 × (List UInt8)))) ⊕ ((Option S33) × (List (List UInt8 × S39)) × (List (List UInt8 × (List UInt8))))) :=
 if v38 < (a2.length : Int) then (gd (0 ≤ v38 ∧ v38 < a2.length) (if ((a2.getD v38.toNat S41.zero).A_) < 4 then (gd ((((a2.getD v38.toNat S41.zero).A5).A3).length = 8) ((F13 v40 v41 v39 ((⟨[], (⟨[], [], [], [[], [], [], [], [], [], [], []]⟩ : S33)⟩ : S35)) (a2.getD v38.toNat S41.zero)).bind fun (x116 : S35 × Bool × (Option S33) × (List (List UInt8 × S39)) × (List (List UInt8 × (List UInt8)))) => some (.inl ((IntKind.i64.wrap (v38 + 1), x116.2.2.1, x116.2.2.2.1, x116.2.2.2.2))))) else (some (.inl ((IntKind.i64.wrap (v38 + 1), v39, v40, v41)))))) else (some (.inr (v39, v40, v41)))
noncomputable def MK (a1 : S41) (a2 : List S41) (v21 : Option S33) (v22 : List (List UInt8 × S39)) (v23 : List (List UInt8 × (List UInt8))) : Option Bool :=
 (F34 v22 v23 v21).bind fun (x25 : Int) => (F27 v22 v23 v21 (⟨a1.A5.A7, a1.A5.A8, a1.fDn, a1.A5.A3⟩ : S33)).bind fun (x29 : Int × (Option S33)) => if ¬ x29.1 = 0 then ((F34 v22 v23 x29.2).bind fun (x32 : Int) => if x32 = x25 then ((F11 ).bind fun (x33 : Bool) => some x33) else (some false)) else ((AN (fun (s : Int × (Option S33) × (List (List UInt8 × S39)) × (List (List UInt8 × (List UInt8)))) => HT a2 s.1 s.2.1 s.2.2.1 s.2.2.2) (0, x29.2, v22, v23)).bind fun (e : (Option S33) × (List (List UInt8 × S39)) × (List (List UInt8 × (List UInt8)))) => Ks a1 e.1 e.2.1 e.2.2)
noncomputable def ML (a0 : List S41) (v17 : Int) (v18 : Option S33) (v19 : List (List UInt8 × S39)) (v20 : List (List UInt8 × (List UInt8))) : Option ((Int × (Option S33) × (List (List UInt8 × S39)) × (List (List UInt8 × (List UInt8)))) ⊕ ((Option S33) × (List (List UInt8 × S39)) × (List (List UInt8 × (List UInt8))))) :=
 if v17 < (a0.length : Int) then (gd (0 ≤ v17 ∧ v17 < a0.length) (gd ((((a0.getD v17.toNat S41.zero).A5).A3).length = 8) ((F13 v19 v20 v18 ((⟨[], (⟨[], [], [], [[], [], [], [], [], [], [], []]⟩ : S33)⟩ : S35)) (a0.getD v17.toNat S41.zero)).bind fun (x123 : S35 × Bool × (Option S33) × (List (List UInt8 × S39)) × (List (List UInt8 × (List UInt8)))) => some (.inl ((IntKind.i64.wrap (v17 + 1), x123.2.2.1, x123.2.2.2.1, x123.2.2.2.2)))))) else (some (.inr (v18, v19, v20)))
noncomputable def F8 (a0 : List S41) (a1 : S41) (a2 : List S41) : Option Bool :=
 gd (a1.A5.A3.length = 8) (gd (a0.length * 256 ≤ 140737488355328) (gd ((a0.length + ([a1]).length) * 256 ≤ 140737488355328) (gd (((a0 ++ ([a1])).length + a2.length) * 256 ≤ 140737488355328) ((F10 ((a0 ++ ([a1])) ++ a2) 41).bind fun (x8 : Bool) => if ¬ (x8 = true) then ((F11 ).bind fun (x11 : Bool) => some x11) else ((F12 ).bind fun (x13 : (List (List UInt8 × S39)) × (List (List UInt8 × (List UInt8))) × (Option S33)) => (AN (fun (s : Int × (Option S33) × (List (List UInt8 × S39)) × (List (List UInt8 × (List UInt8)))) => ML a0 s.1 s.2.1 s.2.2.1 s.2.2.2) (0, x13.2.2, x13.1, x13.2.1)).bind fun (e : (Option S33) × (List (List UInt8 × S39)) × (List (List UInt8 × (List UInt8)))) => MK a1 a2 e.1 e.2.1 e.2.2)))))
theorem fy {H : A2} {K : Aw → A2 → Prop} (a0 : List S41) (a1 : S41) (a2 : List S41) (hV : VOK prog H) {r : Bool} (h : F8 a0 a1 a2 = some r) (hK : K (.ret (.v (.bool r))) H) : Ae prog 8 [.sl 12 (a0.map fun x => .v (.int .i64 x.A_) :: .v (str x.A5.A7) :: .v (str x.A5.A8) :: ((x.A5.A3.map fun x => .sl 1 (x.map fun x => [.v (str x)])) ++ [.sl 2 (x.fDn.map fun x => [.v (str x.fType), .v (str x.Ac)])])), .ag (.v (.int .i64 a1.A_) :: .v (str a1.A5.A7) :: .v (str a1.A5.A8) :: ((a1.A5.A3.map fun x => .sl 1 (x.map fun x => [.v (str x)])) ++ [.sl 2 (a1.fDn.map fun x => [.v (str x.fType), .v (str x.Ac)])])), .sl 12 (a2.map fun x => .v (.int .i64 x.A_) :: .v (str x.A5.A7) :: .v (str x.A5.A8) :: ((x.A5.A3.map fun x => .sl 1 (x.map fun x => [.v (str x)])) ++ [.sl 2 (x.fDn.map fun x => [.v (str x.fType), .v (str x.Ac)])]))] H K := by
 refine Ah (N := 146) func8 (by kernel_rfl) rfl (by kernel_rfl) (by kernel_rfl) fun cb hcb hw hbd hnb => ?_; clear hbd hnb; subst hcb; unfold F8 at h; obtain ⟨g2, h⟩ := Aj.1 h; refine wG ?_; refine A4 fun cb hc3 => ?_; refine A4 fun cb hc4 => ?_; refine AQ [] [0, 2, 3, 5, 1, 4, 6, 7, 8] (by kernel_rfl) (by kernel_rfl) (fun _ _ _ _ h => h) ?_; obtain ⟨g5, h⟩ := Aj.1 h; obtain ⟨g6, h⟩ := gS h; obtain ⟨g7, h⟩ := gS h; refine sF g2 ?_; refine Ae.fz (k := H.next + 1) (args' := [.sl 12 (((a0 ++ ([a1])) ++ a2).map fun x => .v (.int .i64 x.A_) :: .v (str x.A5.A7) :: .v (str x.A5.A8) :: ((x.A5.A3.map fun x => .sl 1 (x.map fun x => [.v (str x)])) ++ [.sl 2 (x.fDn.map fun x => [.v (str x.fType), .v (str x.Ac)])])), .v (.int .i64 41)]) (by repeat (first | exact Eh.nil | refine Eh.cons ?_ ?_ | exact FzK.row _ _ _ eA (by first | (simp; done) | (simp; omega)) | exact FzK.same _)) ?_; obtain ⟨x8, hx8, h⟩ := A6 h; refine YI ((a0 ++ ([a1])) ++ a2) 41 hx8 ?_; refine sF g2 ?_; subst hc4; refine Ad h eA rfl ?_ ?_
 ·intro c9 h; simp (disch := omega) at c9; refine A4 fun cb hc10 => ?_; refine vG ?_; obtain ⟨x11, hx11, h⟩ := A6 h; refine Md  (by exact (VOK.of hV rfl).tok) hx11 ?_; refine sG ?_; subst hc10; refine vO ?_; obtain rfl := sI h; refine sG ?_; exact Av (.refl hw) hK
 intro c9 h; simp (disch := omega) at c9; refine vO ?_; subst hc3; refine A4 fun cb hc12 => ?_; refine vG ?_; obtain ⟨x13, hx13, h⟩ := A6 h; refine OP  hx13 ?_; refine sG ?_; subst hc12; refine A4 fun cb hc14 => ?_; refine wG ?_; obtain ⟨y16, hl16q, hk16⟩ := A6 h; refine AE (fun tm' H' => ∃ v21 : Option S33, ∃ v22 : List (List UInt8 × S39), ∃ v23 : List (List UInt8 × (List UInt8)), (v21, v22, v23) = y16 ∧ Ext H H' ∧ H.next + 5 ≤ H'.next ∧ tm' 2 = .sl 12 (a2.map fun x => .v (.int .i64 x.A_) :: .v (str x.A5.A7) :: .v (str x.A5.A8) :: ((x.A5.A3.map fun x => .sl 1 (x.map fun x => [.v (str x)])) ++ [.sl 2 (x.fDn.map fun x => [.v (str x.fType), .v (str x.Ac)])])) ∧ tm' 4 = .p H.next 0 ∧ tm' 7 = .p (H.next + 2) 0 ∧ H'.obj H.next = some (.cells (.v (.int .i64 a1.A_) :: .v (str a1.A5.A7) :: .v (str a1.A5.A8) :: ((a1.A5.A3.map fun x => .sl 1 (x.map fun x => [.v (str x)])) ++ [.sl 2 (a1.fDn.map fun x => [.v (str x.fType), .v (str x.Ac)])]))) ∧ H'.obj (H.next + 2) = some (.cells ([.mp (H.next + 3), .mp (H.next + 4), AY (fun (x : S33) => .v (str x.A7) :: .v (str x.A8) :: .sl 2 (x.fDn.map fun x => [.v (str x.fType), .v (str x.Ac)]) :: (x.A3.map fun x => .sl 1 (x.map fun x => [.v (str x)]))) v21])) ∧ H'.obj (H.next + 3) = some (.map (mE (fun (x : S39) => .ag (.v (str x.A7) :: .v (str x.A8) :: (x.A3.map fun x => .sl 1 (x.map fun x => [.v (str x)])))) v22)) ∧ H'.obj (H.next + 4) = some (.map (mE (fun (x : List UInt8) => .v (str x)) v23))) ?_ fun cb hc16 => ?_
 ·rintro tm16e H16e ⟨v21, v22, v23, rfl, he16e, hl16e, t2_16e, t4_16e, t7_16e, ob0_16e, ob1_16e, ob2_16e, ob3_16e⟩
  have h : MK a1 a2 v21 v22 v23 = some r := hk16; unfold MK at h; simp -implicitDefEqProofs only [go_sem]; subst hc14; refine A4 fun cb hc24 => ?_; refine vF t7_16e ?_; obtain ⟨x25, hx25, h⟩ := A6 h; refine JS v22 v23 v21 (H.next + 2) (H.next + 3) (H.next + 4) (by assumption) (by assumption) (by assumption) hx25 ?_; refine sG ?_; subst hc24; refine A4 fun cb hc26 => ?_; refine v0 ?_; simp -implicitDefEqProofs (disch := omega) [go_sem, bdP, t4_16e, g2, ob0_16e]; subst hc26; refine A4 fun cb hc27 => ?_; refine A4 fun cb hc28 => ?_; refine vF (nd t7_16e g2) ?_; obtain ⟨x29, hx29, h⟩ := A6 h; refine Ae.wkL (args' := [.p (H.next + 2) 0, .ag (.v (str ((⟨a1.A5.A7, a1.A5.A8, a1.fDn, a1.A5.A3⟩ : S33).A7)) :: .v (str ((⟨a1.A5.A7, a1.A5.A8, a1.fDn, a1.A5.A3⟩ : S33).A8)) :: .sl 2 (((⟨a1.A5.A7, a1.A5.A8, a1.fDn, a1.A5.A3⟩ : S33).fDn).map fun x => [.v (str x.fType), .v (str x.Ac)]) :: (((⟨a1.A5.A7, a1.A5.A8, a1.fDn, a1.A5.A3⟩ : S33).A3).map fun x => .sl 1 (x.map fun x => [.v (str x)])))]) (by repeat (first | exact WkL.nil | refine WkL.cons ?_ ?_ | exact Wk.refl _)) (OS v22 v23 v21 (⟨a1.A5.A7, a1.A5.A8, a1.fDn, a1.A5.A3⟩ : S33) (H.next + 2) (H.next + 3) (H.next + 4) (eF ob1_16e) (eF ob2_16e) (eF ob3_16e) hx29 ?_); refine sG ?_; subst hc28; refine Ad h eA rfl ?_ ?_
  ·intro c30 h; refine A4 fun cb hc31 => ?_; refine vF t7_16e ?_; obtain ⟨x32, hx32, h⟩ := A6 h; refine JS v22 v23 x29.2 (H.next + 2) (H.next + 3) (H.next + 4) eA (eF ob2_16e) (eF ob3_16e) hx32 ?_; refine sG ?_; refine A9 h rfl ?_ ?_
   ·intro c34 h; refine sG ?_; obtain ⟨x33, hx33, h⟩ := A6 h; refine Md  (by exact (VOK.of hV (he16e).sn).tok) hx33 ?_; refine sG ?_; subst hc31; refine vO ?_; obtain rfl := sI h; refine sG ?_; refine Ax (As he16e) rfl nbA hK
   intro c34 h; refine sG ?_; subst hc31; refine vO ?_; obtain rfl := sI h; refine sG ?_; refine Ax (As he16e) rfl nbA hK
  intro c30 h; simp (disch := omega) at c30; refine vO ?_; subst hc27; refine A4 fun cb hc35 => ?_; refine wG ?_; obtain ⟨y37, hl37q, hk37⟩ := A6 h; refine AE (fun tm' H' => ∃ v42 : Option S33, ∃ v43 : List (List UInt8 × S39), ∃ v44 : List (List UInt8 × (List UInt8)), (v42, v43, v44) = y37 ∧ Ext H H' ∧ H16e.next + 1 ≤ H'.next ∧ tm' 7 = .p (H.next + 2) 0 ∧ tm' 10 = .p H16e.next 0 ∧ H'.obj H.next = some (.cells (.v (.int .i64 a1.A_) :: .v (str a1.A5.A7) :: .v (str a1.A5.A8) :: ((a1.A5.A3.map fun x => .sl 1 (x.map fun x => [.v (str x)])) ++ [.sl 2 (a1.fDn.map fun x => [.v (str x.fType), .v (str x.Ac)])]))) ∧ H'.obj (H.next + 2) = some (.cells ([.mp (H.next + 3), .mp (H.next + 4), AY (fun (x : S33) => .v (str x.A7) :: .v (str x.A8) :: .sl 2 (x.fDn.map fun x => [.v (str x.fType), .v (str x.Ac)]) :: (x.A3.map fun x => .sl 1 (x.map fun x => [.v (str x)]))) v42])) ∧ H'.obj (H.next + 3) = some (.map (mE (fun (x : S39) => .ag (.v (str x.A7) :: .v (str x.A8) :: (x.A3.map fun x => .sl 1 (x.map fun x => [.v (str x)])))) v43)) ∧ H'.obj (H.next + 4) = some (.map (mE (fun (x : List UInt8) => .v (str x)) v44)) ∧ H'.obj H16e.next = some (.cells (.v (str a1.A5.A7) :: .v (str a1.A5.A8) :: .sl 2 (a1.fDn.map fun x => [.v (str x.fType), .v (str x.Ac)]) :: (a1.A5.A3.map fun x => .sl 1 (x.map fun x => [.v (str x)]))))) ?_ fun cb hc37 => ?_
  ·rintro tm37e H37e ⟨v42, v43, v44, rfl, he37e, hl37e, t7_37e, t10_37e, ob0_37e, ob1_37e, ob2_37e, ob3_37e, ob4_37e⟩
   have h : Ks a1 v42 v43 v44 = some r := hk37; unfold Ks at h; simp -implicitDefEqProofs only [go_sem]; subst hc35; refine A4 fun cb hc45 => ?_; refine vF t7_37e ?_; obtain ⟨x46, hx46, h⟩ := A6 h; refine JL v43 v44 v42 (H.next + 2) (H.next + 3) (H.next + 4) (by assumption) (by assumption) (by assumption) hx46 ?_; obtain ⟨g47, h⟩ := Aj.1 h; refine sF g47 ?_; subst hc45; refine A4 fun cb hc48 => ?_; refine vF t7_37e ?_; obtain ⟨x49, hx49, h⟩ := A6 h; refine Tq v43 v44 v42 (H.next + 2) (H.next + 3) (H.next + 4) (eF ob1_37e) (eF ob2_37e) (eF ob3_37e) (by exact (VOK.of hV (he37e).sn).tok) hx49 ?_; refine sG ?_; obtain ⟨x50, hx50, h⟩ := A6 h; refine Zh x49 (by exact hV.of (he37e).sn) hx50 ?_ ?_
   ·intro qx50; rw [qx50] at h; replace h := TF h; refine sG ?_; subst hc48; refine A4 fun cb hc52 => ?_; refine vG ?_; obtain ⟨x53, hx53, h⟩ := A6 h; refine TC  hx53 ?_; obtain ⟨g54, h⟩ := Aj.1 h; refine sF g54 ?_; subst hc52; refine A4 fun cb hc55 => ?_; refine A4 fun cb hc56 => ?_; refine vG ?_; refine A9 h eA ?_ ?_
    ·intro c79 h; simp (disch := omega) at c79; refine sG ?_; subst hc56; refine An eA rfl ?_; refine wG ?_; refine vO ?_; obtain rfl := sI h; refine sG ?_; refine Ax (As he37e) rfl nbA hK
    intro c79 h; simp (disch := omega) at c79; refine sF (nd t10_37e (nd g2 (nd ob4_37e g47))) ?_; obtain ⟨x58, hx58, h⟩ := A6 h; refine Ae.wkL (args' := [.ag (.v (str x46.1.A7) :: .v (str x46.1.A8) :: .sl 2 (x46.1.fDn.map fun x => [.v (str x.fType), .v (str x.Ac)]) :: (x46.1.A3.map fun x => .sl 1 (x.map fun x => [.v (str x)]))), .ag (.v (str ((⟨a1.A5.A7, a1.A5.A8, a1.fDn, a1.A5.A3⟩ : S33).A7)) :: .v (str ((⟨a1.A5.A7, a1.A5.A8, a1.fDn, a1.A5.A3⟩ : S33).A8)) :: .sl 2 (((⟨a1.A5.A7, a1.A5.A8, a1.fDn, a1.A5.A3⟩ : S33).fDn).map fun x => [.v (str x.fType), .v (str x.Ac)]) :: (((⟨a1.A5.A7, a1.A5.A8, a1.fDn, a1.A5.A3⟩ : S33).A3).map fun x => .sl 1 (x.map fun x => [.v (str x)])))]) (by repeat (first | exact WkL.nil | refine WkL.cons ?_ ?_ | exact Wk.refl _)) (Mo x46.1 (⟨a1.A5.A7, a1.A5.A8, a1.fDn, a1.A5.A3⟩ : S33) hx58 ?_); refine sG ?_; refine A9 h eA ?_ ?_
    ·intro c78 h; simp (disch := omega) at c78; refine sG ?_; subst hc56; refine An eA rfl ?_; refine wG ?_; refine vO ?_; obtain rfl := sI h; refine sG ?_; refine Ax (As he37e) rfl nbA hK
    intro c78 h; simp (disch := omega) at c78; refine sG ?_; refine A9 h eA ?_ ?_
    ·intro c77 h; refine sG ?_; subst hc56; refine An eA rfl ?_; refine wG ?_; refine vO ?_; obtain rfl := sI h; refine sG ?_; refine Ax (As he37e) rfl nbA hK
    intro c77 h; simp (disch := omega) at c77; refine sG ?_; refine A9 h eA ?_ ?_
    ·intro c76 h; simp (disch := omega) at c76; refine sG ?_; subst hc56; refine An eA rfl ?_; refine wG ?_; refine vO ?_; obtain rfl := sI h; refine sG ?_; refine Ax (As he37e) rfl nbA hK
    intro c76 h; simp (disch := omega) at c76; refine sF (nd t10_37e (nd g2 (nd ob4_37e g54))) ?_; obtain ⟨x62, hx62, h⟩ := A6 h; refine Ae.wkL (args' := [.ag (.v (str x53.1.A7) :: .v (str x53.1.A8) :: .sl 2 (x53.1.fDn.map fun x => [.v (str x.fType), .v (str x.Ac)]) :: (x53.1.A3.map fun x => .sl 1 (x.map fun x => [.v (str x)]))), .ag (.v (str ((⟨a1.A5.A7, a1.A5.A8, a1.fDn, a1.A5.A3⟩ : S33).A7)) :: .v (str ((⟨a1.A5.A7, a1.A5.A8, a1.fDn, a1.A5.A3⟩ : S33).A8)) :: .sl 2 (((⟨a1.A5.A7, a1.A5.A8, a1.fDn, a1.A5.A3⟩ : S33).fDn).map fun x => [.v (str x.fType), .v (str x.Ac)]) :: (((⟨a1.A5.A7, a1.A5.A8, a1.fDn, a1.A5.A3⟩ : S33).A3).map fun x => .sl 1 (x.map fun x => [.v (str x)])))]) (by repeat (first | exact WkL.nil | refine WkL.cons ?_ ?_ | exact Wk.refl _)) (Mo x53.1 (⟨a1.A5.A7, a1.A5.A8, a1.fDn, a1.A5.A3⟩ : S33) hx62 ?_); refine sG ?_; refine A9 h eA ?_ ?_
    ·intro c75 h; simp (disch := omega) at c75; refine sG ?_; subst hc56; refine An eA rfl ?_; refine wG ?_; refine vO ?_; obtain rfl := sI h; refine sG ?_; refine Ax (As he37e) rfl nbA hK
    intro c75 h; simp (disch := omega) at c75; refine sF t7_37e ?_; obtain ⟨x64, hx64, h⟩ := A6 h; refine OT v43 v44 v42 (H.next + 2) (H.next + 3) (H.next + 4) (eF ob1_37e) (eF ob2_37e) (eF ob3_37e) hx64 ?_; refine sG ?_; subst hc56; refine Ad h eA rfl ?_ ?_
    ·intro c65 h; refine wG ?_; refine vO ?_; obtain rfl := sI h; refine sG ?_; refine Ax (As he37e) rfl nbA hK
    intro c65 h; simp (disch := omega) at c65; refine vO ?_; subst hc55; refine A4 fun cb hc67 => ?_; refine vF t7_37e ?_; obtain ⟨x68, hx68, h⟩ := A6 h; refine JL v43 v44 x64.2 (H.next + 2) (H.next + 3) (H.next + 4) eA (eF ob2_37e) (eF ob3_37e) hx68 ?_; refine sG ?_; subst hc67; refine A4 fun cb hc69 => ?_; refine vG ?_; refine A9 h eA ?_ ?_
    ·intro c74 h; simp (disch := omega) at c74; refine sG ?_; obtain ⟨x70, hx70, h⟩ := A6 h; refine TE  hx70 ?_; refine sF t7_37e ?_; obtain ⟨x71, hx71, h⟩ := A6 h; refine JS v43 v44 x64.2 (H.next + 2) (H.next + 3) (H.next + 4) eA (eF ob2_37e) (eF ob3_37e) hx71 ?_; refine sG ?_; refine A9 h rfl ?_ ?_
     ·intro c73 h; refine sG ?_; obtain ⟨x72, hx72, h⟩ := A6 h; refine Md  (by exact (VOK.of hV (he37e).sn).tok) hx72 ?_; refine sG ?_; subst hc69; refine vO ?_; obtain rfl := sI h; refine sG ?_; refine Ax (As he37e) rfl nbA hK
     intro c73 h; refine sG ?_; subst hc69; refine vO ?_; obtain rfl := sI h; refine sG ?_; refine Ax (As he37e) rfl nbA hK
    intro c74 h; simp (disch := omega) at c74; refine sG ?_; subst hc69; refine vO ?_; obtain rfl := sI h; refine sG ?_; refine Ax (As he37e) rfl nbA hK
   intro y51 qx50; rw [qx50] at h; replace h := TG h; refine sG ?_; subst hc48; refine A4 fun cb hc80 => ?_; refine vG ?_; obtain ⟨x81, hx81, h⟩ := A6 h; refine JL y51.1 y51.2.1 y51.2.2 (H37e.next + 1) (H37e.next + 2) (H37e.next + 3) eA eA eA hx81 ?_; obtain ⟨g82, h⟩ := Aj.1 h; refine sF g82 ?_; subst hc80; refine A4 fun cb hc83 => ?_; refine A4 fun cb hc84 => ?_; refine vG ?_; refine A9 h eA ?_ ?_
   ·intro c107 h; simp (disch := omega) at c107; refine sG ?_; subst hc84; refine An eA rfl ?_; refine wG ?_; refine vO ?_; obtain rfl := sI h; refine sG ?_; refine Ax (As he37e) rfl nbA hK
   intro c107 h; simp (disch := omega) at c107; refine sF (nd t10_37e (nd g2 (nd ob4_37e g47))) ?_; obtain ⟨x86, hx86, h⟩ := A6 h; refine Ae.wkL (args' := [.ag (.v (str x46.1.A7) :: .v (str x46.1.A8) :: .sl 2 (x46.1.fDn.map fun x => [.v (str x.fType), .v (str x.Ac)]) :: (x46.1.A3.map fun x => .sl 1 (x.map fun x => [.v (str x)]))), .ag (.v (str ((⟨a1.A5.A7, a1.A5.A8, a1.fDn, a1.A5.A3⟩ : S33).A7)) :: .v (str ((⟨a1.A5.A7, a1.A5.A8, a1.fDn, a1.A5.A3⟩ : S33).A8)) :: .sl 2 (((⟨a1.A5.A7, a1.A5.A8, a1.fDn, a1.A5.A3⟩ : S33).fDn).map fun x => [.v (str x.fType), .v (str x.Ac)]) :: (((⟨a1.A5.A7, a1.A5.A8, a1.fDn, a1.A5.A3⟩ : S33).A3).map fun x => .sl 1 (x.map fun x => [.v (str x)])))]) (by repeat (first | exact WkL.nil | refine WkL.cons ?_ ?_ | exact Wk.refl _)) (Mo x46.1 (⟨a1.A5.A7, a1.A5.A8, a1.fDn, a1.A5.A3⟩ : S33) hx86 ?_); refine sG ?_; refine A9 h eA ?_ ?_
   ·intro c106 h; simp (disch := omega) at c106; refine sG ?_; subst hc84; refine An eA rfl ?_; refine wG ?_; refine vO ?_; obtain rfl := sI h; refine sG ?_; refine Ax (As he37e) rfl nbA hK
   intro c106 h; simp (disch := omega) at c106; refine sG ?_; refine A9 h eA ?_ ?_
   ·intro c105 h; refine sG ?_; subst hc84; refine An eA rfl ?_; refine wG ?_; refine vO ?_; obtain rfl := sI h; refine sG ?_; refine Ax (As he37e) rfl nbA hK
   intro c105 h; simp (disch := omega) at c105; refine sG ?_; refine A9 h eA ?_ ?_
   ·intro c104 h; simp (disch := omega) at c104; refine sG ?_; subst hc84; refine An eA rfl ?_; refine wG ?_; refine vO ?_; obtain rfl := sI h; refine sG ?_; refine Ax (As he37e) rfl nbA hK
   intro c104 h; simp (disch := omega) at c104; refine sF (nd t10_37e (nd g2 (nd ob4_37e g82))) ?_; obtain ⟨x90, hx90, h⟩ := A6 h; refine Ae.wkL (args' := [.ag (.v (str x81.1.A7) :: .v (str x81.1.A8) :: .sl 2 (x81.1.fDn.map fun x => [.v (str x.fType), .v (str x.Ac)]) :: (x81.1.A3.map fun x => .sl 1 (x.map fun x => [.v (str x)]))), .ag (.v (str ((⟨a1.A5.A7, a1.A5.A8, a1.fDn, a1.A5.A3⟩ : S33).A7)) :: .v (str ((⟨a1.A5.A7, a1.A5.A8, a1.fDn, a1.A5.A3⟩ : S33).A8)) :: .sl 2 (((⟨a1.A5.A7, a1.A5.A8, a1.fDn, a1.A5.A3⟩ : S33).fDn).map fun x => [.v (str x.fType), .v (str x.Ac)]) :: (((⟨a1.A5.A7, a1.A5.A8, a1.fDn, a1.A5.A3⟩ : S33).A3).map fun x => .sl 1 (x.map fun x => [.v (str x)])))]) (by repeat (first | exact WkL.nil | refine WkL.cons ?_ ?_ | exact Wk.refl _)) (Mo x81.1 (⟨a1.A5.A7, a1.A5.A8, a1.fDn, a1.A5.A3⟩ : S33) hx90 ?_); refine sG ?_; refine A9 h eA ?_ ?_
   ·intro c103 h; simp (disch := omega) at c103; refine sG ?_; subst hc84; refine An eA rfl ?_; refine wG ?_; refine vO ?_; obtain rfl := sI h; refine sG ?_; refine Ax (As he37e) rfl nbA hK
   intro c103 h; simp (disch := omega) at c103; refine sF t7_37e ?_; obtain ⟨x92, hx92, h⟩ := A6 h; refine OT v43 v44 v42 (H.next + 2) (H.next + 3) (H.next + 4) (eF ob1_37e) (eF ob2_37e) (eF ob3_37e) hx92 ?_; refine sG ?_; subst hc84; refine Ad h eA rfl ?_ ?_
   ·intro c93 h; refine wG ?_; refine vO ?_; obtain rfl := sI h; refine sG ?_; refine Ax (As he37e) rfl nbA hK
   intro c93 h; simp (disch := omega) at c93; refine vO ?_; subst hc83; refine A4 fun cb hc95 => ?_; refine vF t7_37e ?_; obtain ⟨x96, hx96, h⟩ := A6 h; refine JL v43 v44 x92.2 (H.next + 2) (H.next + 3) (H.next + 4) eA (eF ob2_37e) (eF ob3_37e) hx96 ?_; refine sG ?_; subst hc95; refine A4 fun cb hc97 => ?_; refine vG ?_; refine A9 h eA ?_ ?_
   ·intro c102 h; simp (disch := omega) at c102; refine sG ?_; obtain ⟨x98, hx98, h⟩ := A6 h; refine JS y51.1 y51.2.1 y51.2.2 (H37e.next + 1) (H37e.next + 2) (H37e.next + 3) eA eA eA hx98 ?_; refine sF t7_37e ?_; obtain ⟨x99, hx99, h⟩ := A6 h; refine JS v43 v44 x92.2 (H.next + 2) (H.next + 3) (H.next + 4) eA (eF ob2_37e) (eF ob3_37e) hx99 ?_; refine sG ?_; refine A9 h rfl ?_ ?_
    ·intro c101 h; refine sG ?_; obtain ⟨x100, hx100, h⟩ := A6 h; refine Md  (by exact (VOK.of hV (he37e).sn).tok) hx100 ?_; refine sG ?_; subst hc97; refine vO ?_; obtain rfl := sI h; refine sG ?_; refine Ax (As he37e) rfl nbA hK
    intro c101 h; refine sG ?_; subst hc97; refine vO ?_; obtain rfl := sI h; refine sG ?_; refine Ax (As he37e) rfl nbA hK
   intro c102 h; simp (disch := omega) at c102; refine sG ?_; subst hc97; refine vO ?_; obtain rfl := sI h; refine sG ?_; refine Ax (As he37e) rfl nbA hK
  refine Am ?_; refine AD (fun (s : Int × (Option S33) × (List (List UInt8 × S39)) × (List (List UInt8 × (List UInt8)))) tm' H' => Ext H H' ∧ H16e.next + 1 ≤ H'.next ∧ tm' 2 = .sl 12 (a2.map fun x => .v (.int .i64 x.A_) :: .v (str x.A5.A7) :: .v (str x.A5.A8) :: ((x.A5.A3.map fun x => .sl 1 (x.map fun x => [.v (str x)])) ++ [.sl 2 (x.fDn.map fun x => [.v (str x.fType), .v (str x.Ac)])])) ∧ tm' 7 = .p (H.next + 2) 0 ∧ tm' 10 = .p H16e.next 0 ∧ tm' 11 = .v (.int .i64 s.1) ∧ H'.obj H.next = some (.cells (.v (.int .i64 a1.A_) :: .v (str a1.A5.A7) :: .v (str a1.A5.A8) :: ((a1.A5.A3.map fun x => .sl 1 (x.map fun x => [.v (str x)])) ++ [.sl 2 (a1.fDn.map fun x => [.v (str x.fType), .v (str x.Ac)])]))) ∧ H'.obj (H.next + 2) = some (.cells ([.mp (H.next + 3), .mp (H.next + 4), AY (fun (x : S33) => .v (str x.A7) :: .v (str x.A8) :: .sl 2 (x.fDn.map fun x => [.v (str x.fType), .v (str x.Ac)]) :: (x.A3.map fun x => .sl 1 (x.map fun x => [.v (str x)]))) s.2.1])) ∧ H'.obj (H.next + 3) = some (.map (mE (fun (x : S39) => .ag (.v (str x.A7) :: .v (str x.A8) :: (x.A3.map fun x => .sl 1 (x.map fun x => [.v (str x)])))) s.2.2.1)) ∧ H'.obj (H.next + 4) = some (.map (mE (fun (x : List UInt8) => .v (str x)) s.2.2.2)) ∧ H'.obj H16e.next = some (.cells (.v (str a1.A5.A7) :: .v (str a1.A5.A8) :: .sl 2 (a1.fDn.map fun x => [.v (str x.fType), .v (str x.Ac)]) :: (a1.A5.A3.map fun x => .sl 1 (x.map fun x => [.v (str x)]))))) hl37q ?_ ?_
  ·refine .same ⟨by exact As he16e, by (simp -implicitDefEqProofs (disch := omega) [go_sem] <;> omega), ?_, ?_, ?_, ?_, ?_, ?_, ?_, ?_, ?_⟩ <;> (simp -implicitDefEqProofs (disch := omega) [go_sem, t2_16e, t7_16e, ob0_16e, ob2_16e, ob3_16e] <;> omega)
  rintro I37 hI37 ⟨v38, v39, v40, v41⟩ x37 tm37 H37 ⟨he37, hl37, O5, Qk, Pw, Kt, ZH, kj, kn, ko, ZI⟩ h hret37
  replace h : HT a2 v38 v39 v40 v41 = some x37 := h; unfold HT at h; refine A4 fun cb hc108 => ?_; refine wF (nd O5 Kt) ?_; refine Ad h eA rfl ?_ ?_
  ·intro c110 h; refine vO ?_; subst hc108; refine A4 fun cb hc111 => ?_; refine Am ?_; obtain ⟨g113, h⟩ := Aj.1 h; refine wF (nd O5 Kt) ?_; refine Ad h eA rfl ?_ ?_
   ·intro c114 h; simp (disch := omega) at c114; obtain ⟨g115, h⟩ := gS h; refine v0 ?_; simp -implicitDefEqProofs (disch := omega) [go_sem, bdP, O5, Qk, Kt, g115]; obtain ⟨x116, hx116, h⟩ := A6 h; refine Ae.eqA (args' := [.p (H.next + 2) 0, .ag ([.v (.slice none 0 0), .v (str []), .v (str []), .v (.slice none 0 0), .v (.slice none 0 0), .v (.slice none 0 0), .v (.slice none 0 0), .v (.slice none 0 0), .v (.slice none 0 0), .v (.slice none 0 0), .v (.slice none 0 0), .v (.slice none 0 0)]), .ag (.v (.int .i64 ((a2.getD v38.toNat S41.zero).A_)) :: .v (str (((a2.getD v38.toNat S41.zero).A5).A7)) :: .v (str (((a2.getD v38.toNat S41.zero).A5).A8)) :: (((((a2.getD v38.toNat S41.zero).A5).A3).map fun x => .sl 1 (x.map fun x => [.v (str x)])) ++ [.sl 2 (((a2.getD v38.toNat S41.zero).fDn).map fun x => [.v (str x.fType), .v (str x.Ac)])]))]) eA (Ae.wkL (args' := [.p (H.next + 2) 0, .ag (.sl 10 ((((⟨[], (⟨[], [], [], [[], [], [], [], [], [], [], []]⟩ : S33)⟩ : S35)).fL).map fun x => .v (str x.A7) :: .v (str x.A8) :: (x.A3.map fun x => .sl 1 (x.map fun x => [.v (str x)]))) :: .v (str ((((⟨[], (⟨[], [], [], [[], [], [], [], [], [], [], []]⟩ : S33)⟩ : S35)).fP).A7)) :: .v (str ((((⟨[], (⟨[], [], [], [[], [], [], [], [], [], [], []]⟩ : S33)⟩ : S35)).fP).A8)) :: .sl 2 (((((⟨[], (⟨[], [], [], [[], [], [], [], [], [], [], []]⟩ : S33)⟩ : S35)).fP).fDn).map fun x => [.v (str x.fType), .v (str x.Ac)]) :: (((((⟨[], (⟨[], [], [], [[], [], [], [], [], [], [], []]⟩ : S33)⟩ : S35)).fP).A3).map fun x => .sl 1 (x.map fun x => [.v (str x)]))), .ag (.v (.int .i64 ((a2.getD v38.toNat S41.zero).A_)) :: .v (str (((a2.getD v38.toNat S41.zero).A5).A7)) :: .v (str (((a2.getD v38.toNat S41.zero).A5).A8)) :: (((((a2.getD v38.toNat S41.zero).A5).A3).map fun x => .sl 1 (x.map fun x => [.v (str x)])) ++ [.sl 2 (((a2.getD v38.toNat S41.zero).fDn).map fun x => [.v (str x.fType), .v (str x.Ac)])]))]) (by repeat (first | exact WkL.nil | refine WkL.cons ?_ ?_ | exact Wk.refl _ | exact Wk.nil _ | refine Wk.agL ?_)) (TA v40 v41 v39 ((⟨[], (⟨[], [], [], [[], [], [], [], [], [], [], []]⟩ : S33)⟩ : S35)) (a2.getD v38.toNat S41.zero) (H.next + 2) (H.next + 3) (H.next + 4) (by assumption) (by assumption) (by assumption) (by omega) hx116 ?_)); refine sG ?_; subst hc111; refine vF Kt ?_; obtain rfl := sI h; refine Ao hI37 ((IntKind.i64.wrap (v38 + 1), x116.2.2.1, x116.2.2.2.1, x116.2.2.2.2)) ?_; refine .same ⟨by exact As he37, by (simp -implicitDefEqProofs (disch := omega) [go_sem] <;> omega), ?_, ?_, ?_, ?_, ?_, ?_, ?_, ?_, ?_⟩ <;> (simp -implicitDefEqProofs (disch := omega) [go_sem, O5, Qk, Pw, ZH, ZI] <;> omega)
   intro c114 h; simp (disch := omega) at c114; refine vO ?_; subst hc111; refine vF Kt ?_; obtain rfl := sI h; refine Ao hI37 ((IntKind.i64.wrap (v38 + 1), v39, v40, v41)) ?_; refine .same ⟨by exact As he37, by with_reducible assumption, ?_, ?_, ?_, ?_, ?_, ?_, ?_, ?_, ?_⟩ <;> first | with_reducible assumption | (simp -implicitDefEqProofs (disch := omega) [go_sem, O5, Qk, Pw] <;> omega)
  intro c110 h; simp (disch := omega) at c110; refine vO ?_; obtain rfl := sI h; have hy37 := hret37 _ rfl; refine hc37 _ _ ?_; refine .same ⟨v39, v40, v41, hy37, by exact As he37, by with_reducible assumption, ?_, ?_, ?_, ?_, ?_, ?_, ?_⟩ <;> first | with_reducible assumption | (simp -implicitDefEqProofs (disch := omega) [go_sem, Qk, Pw] <;> omega)
 refine Am ?_; refine AD (fun (s : Int × (Option S33) × (List (List UInt8 × S39)) × (List (List UInt8 × (List UInt8)))) tm' H' => Ext H H' ∧ H.next + 5 ≤ H'.next ∧ tm' 0 = .sl 12 (a0.map fun x => .v (.int .i64 x.A_) :: .v (str x.A5.A7) :: .v (str x.A5.A8) :: ((x.A5.A3.map fun x => .sl 1 (x.map fun x => [.v (str x)])) ++ [.sl 2 (x.fDn.map fun x => [.v (str x.fType), .v (str x.Ac)])])) ∧ tm' 2 = .sl 12 (a2.map fun x => .v (.int .i64 x.A_) :: .v (str x.A5.A7) :: .v (str x.A5.A8) :: ((x.A5.A3.map fun x => .sl 1 (x.map fun x => [.v (str x)])) ++ [.sl 2 (x.fDn.map fun x => [.v (str x.fType), .v (str x.Ac)])])) ∧ tm' 4 = .p H.next 0 ∧ tm' 7 = .p (H.next + 2) 0 ∧ tm' 8 = .v (.int .i64 s.1) ∧ H'.obj H.next = some (.cells (.v (.int .i64 a1.A_) :: .v (str a1.A5.A7) :: .v (str a1.A5.A8) :: ((a1.A5.A3.map fun x => .sl 1 (x.map fun x => [.v (str x)])) ++ [.sl 2 (a1.fDn.map fun x => [.v (str x.fType), .v (str x.Ac)])]))) ∧ H'.obj (H.next + 2) = some (.cells ([.mp (H.next + 3), .mp (H.next + 4), AY (fun (x : S33) => .v (str x.A7) :: .v (str x.A8) :: .sl 2 (x.fDn.map fun x => [.v (str x.fType), .v (str x.Ac)]) :: (x.A3.map fun x => .sl 1 (x.map fun x => [.v (str x)]))) s.2.1])) ∧ H'.obj (H.next + 3) = some (.map (mE (fun (x : S39) => .ag (.v (str x.A7) :: .v (str x.A8) :: (x.A3.map fun x => .sl 1 (x.map fun x => [.v (str x)])))) s.2.2.1)) ∧ H'.obj (H.next + 4) = some (.map (mE (fun (x : List UInt8) => .v (str x)) s.2.2.2))) hl16q ?_ ?_
 ·refine .same ⟨by exact As (Ext.refl hw), by (simp -implicitDefEqProofs (disch := omega) [go_sem] <;> omega), ?_, ?_, ?_, ?_, ?_, ?_, ?_, ?_, ?_⟩ <;> (simp -implicitDefEqProofs (disch := omega) [go_sem] <;> omega)
 rintro I16 hI16 ⟨v17, v18, v19, v20⟩ x16 tm16 H16 ⟨he16, hl16, Us, Xi, Xj, Ut, Uu, ZJ, kq, kr, ku⟩ h hret16
 replace h : ML a0 v17 v18 v19 v20 = some x16 := h; unfold ML at h; refine A4 fun cb hc117 => ?_; refine wF (nd Us Uu) ?_; refine Ad h eA rfl ?_ ?_
 ·intro c119 h; refine vO ?_; subst hc117; refine A4 fun cb hc120 => ?_; refine Am ?_; obtain ⟨g121, h⟩ := Aj.1 h; obtain ⟨g122, h⟩ := gS h; refine v0 ?_; simp -implicitDefEqProofs (disch := omega) [go_sem, bdP, Us, Ut, Uu, g122]; obtain ⟨x123, hx123, h⟩ := A6 h; refine Ae.eqA (args' := [.p (H.next + 2) 0, .ag ([.v (.slice none 0 0), .v (str []), .v (str []), .v (.slice none 0 0), .v (.slice none 0 0), .v (.slice none 0 0), .v (.slice none 0 0), .v (.slice none 0 0), .v (.slice none 0 0), .v (.slice none 0 0), .v (.slice none 0 0), .v (.slice none 0 0)]), .ag (.v (.int .i64 ((a0.getD v17.toNat S41.zero).A_)) :: .v (str (((a0.getD v17.toNat S41.zero).A5).A7)) :: .v (str (((a0.getD v17.toNat S41.zero).A5).A8)) :: (((((a0.getD v17.toNat S41.zero).A5).A3).map fun x => .sl 1 (x.map fun x => [.v (str x)])) ++ [.sl 2 (((a0.getD v17.toNat S41.zero).fDn).map fun x => [.v (str x.fType), .v (str x.Ac)])]))]) eA (Ae.wkL (args' := [.p (H.next + 2) 0, .ag (.sl 10 ((((⟨[], (⟨[], [], [], [[], [], [], [], [], [], [], []]⟩ : S33)⟩ : S35)).fL).map fun x => .v (str x.A7) :: .v (str x.A8) :: (x.A3.map fun x => .sl 1 (x.map fun x => [.v (str x)]))) :: .v (str ((((⟨[], (⟨[], [], [], [[], [], [], [], [], [], [], []]⟩ : S33)⟩ : S35)).fP).A7)) :: .v (str ((((⟨[], (⟨[], [], [], [[], [], [], [], [], [], [], []]⟩ : S33)⟩ : S35)).fP).A8)) :: .sl 2 (((((⟨[], (⟨[], [], [], [[], [], [], [], [], [], [], []]⟩ : S33)⟩ : S35)).fP).fDn).map fun x => [.v (str x.fType), .v (str x.Ac)]) :: (((((⟨[], (⟨[], [], [], [[], [], [], [], [], [], [], []]⟩ : S33)⟩ : S35)).fP).A3).map fun x => .sl 1 (x.map fun x => [.v (str x)]))), .ag (.v (.int .i64 ((a0.getD v17.toNat S41.zero).A_)) :: .v (str (((a0.getD v17.toNat S41.zero).A5).A7)) :: .v (str (((a0.getD v17.toNat S41.zero).A5).A8)) :: (((((a0.getD v17.toNat S41.zero).A5).A3).map fun x => .sl 1 (x.map fun x => [.v (str x)])) ++ [.sl 2 (((a0.getD v17.toNat S41.zero).fDn).map fun x => [.v (str x.fType), .v (str x.Ac)])]))]) (by repeat (first | exact WkL.nil | refine WkL.cons ?_ ?_ | exact Wk.refl _ | exact Wk.nil _ | refine Wk.agL ?_)) (TA v19 v20 v18 ((⟨[], (⟨[], [], [], [[], [], [], [], [], [], [], []]⟩ : S33)⟩ : S35)) (a0.getD v17.toNat S41.zero) (H.next + 2) (H.next + 3) (H.next + 4) (by assumption) (by assumption) (by assumption) (by omega) hx123 ?_)); refine sG ?_; subst hc120; refine vF Uu ?_; obtain rfl := sI h; refine Ao hI16 ((IntKind.i64.wrap (v17 + 1), x123.2.2.1, x123.2.2.2.1, x123.2.2.2.2)) ?_; refine .same ⟨by exact As he16, by (simp -implicitDefEqProofs (disch := omega) [go_sem] <;> omega), ?_, ?_, ?_, ?_, ?_, ?_, ?_, ?_, ?_⟩ <;> (simp -implicitDefEqProofs (disch := omega) [go_sem, Us, Xi, Xj, Ut, ZJ] <;> omega)
 intro c119 h; simp (disch := omega) at c119; refine vO ?_; obtain rfl := sI h; have hy16 := hret16 _ rfl; refine hc16 _ _ ?_; refine .same ⟨v18, v19, v20, hy16, by exact As he16, by with_reducible assumption, ?_, ?_, ?_, ?_, ?_, ?_, ?_⟩ <;> first | with_reducible assumption | (simp -implicitDefEqProofs (disch := omega) [go_sem, Xi, Xj, Ut] <;> omega)
end Go.Idl
namespace Go.Idl
open Go Go.Proofs.Tryz Go.Lib
set_option pp.deepTerms false
theorem RJ (c : List (List Str)) (hc : c.length = 8) (h : AM c = true) : GR (BW c) = some c := by
 obtain ⟨h1, h2, h3⟩ := Ec hc h; unfold GR; rw [Qd c hc]; refine G4 c hc h1 h2 8 0 _ 0 BL (by omega) ?_ (Nat.le_refl _) (by simp [BL]) (fun j hj => by omega) (fun j _ => ?_)
 ·have hg : ∃ v, c.getD 0 [] = [v] := by
   match hq : c.getD 0 [], h3 with
   | [v], _ => exact ⟨v, rfl⟩
  obtain ⟨v, hv⟩ := hg; have e : FF c 8 0 = CD 0 [v] ++ FF c 7 1 := by rw [FF, hv]
  have hd : 0 < (decDigits 1).length := List.length_pos_iff.2 (Mw 1); have hd2 : 0 < (decDigits v.length).length := List.length_pos_iff.2 (Mw _); rw [e]; simp [CD, Bq, My]; omega
 ·rw [BL, List.getD_eq_getElem?_getD, List.getElem?_replicate]; split <;> rfl
theorem Lu (c : List (List Str)) (hc : c.length = 8) (h : AM c = true) : Iz (BW c) = some c := by
 unfold Iz; rw [RJ c hc h, Option.bind_some, if_pos h]
theorem Uv : ∀ i : Fin 16, Kg (KI i.1) = some i.1 := by decide
theorem ZK : ∀ i : Fin 16, ME (KI i.1) = false := by decide
theorem ZL {x : UInt8} (h : Rr x = false) : 32 ≤ x.toNat ∧ x.toNat ≤ 126 := by
 unfold Rr at h; simp only [decide_eq_false_iff_not] at h; omega
theorem Wo {x : UInt8} (h : ¬ De x = true) : ¬ x = 44 ∧ ¬ x = 92 := by
 refine ⟨fun e => h (by subst e; decide), fun e => h (by subst e; decide)⟩
theorem O6 (s : Str) (hs : s = [] ∨ ∃ r, s = 44 :: r) : ∀ (v : Str) (n : Nat) (blank : Bool) (out : Str), (Ca (decide (out = [])) v ++ s).length < n → 1 ≤ out.length + v.length → out.length + v.length ≤ 200 → (v = [] → blank = false) →
    DS n blank out (Ca (decide (out = [])) v ++ s) = some (out ++ v, s)
  | [], 0, blank, out => fun hn => absurd hn (Nat.not_lt_zero _)
  | [], n + 1, blank, out => fun hn h1 h2 hb => by
    have hf : MF blank out s = some (out, s) := by
      unfold MF
      rw [if_pos ⟨hb rfl, by simpa using h1, by simpa using h2⟩]
    rcases hs with rfl | ⟨r, rfl⟩
    · simpa [Ca, DS] using hf
    · simpa [Ca, DS] using hf
  | x :: v, 0, blank, out => fun hn => absurd hn (Nat.not_lt_zero _)
  | x :: v, n + 1, blank, out => fun hn h1 h2 hb => by
    have ne : ¬ out ++ [x] = [] := by simp
    have ih := fun b hl hb => O6 s hs v n b (out ++ [x]) hl (by simp; omega) (by simp at h2 ⊢; omega) hb
    rw [decide_eq_false ne] at ih
    have fin : ∀ b, ((Ca false v ++ s).length < n) → (v = [] → b = false) → DS n b (out ++ [x]) (Ca false v ++ s) = some (out ++ x :: v, s) := fun b hl hb => by
      have := ih b hl hb
      simpa using this
    rw [Ca] at hn ⊢
    unfold KJ at hn ⊢
    by_cases a1 : Rr x = true
    · rw [if_pos a1] at hn ⊢
      have hd1 : x.toNat / 16 < 16 := by have := x.toNat_lt; omega
      have hd2 : x.toNat % 16 < 16 := by omega
      have e1 : Fm (KI (x.toNat / 16) :: KI (x.toNat % 16) :: (Ca false v ++ s)) = some (x, Ca false v ++ s) := by
        rw [Fm.eq_def]
        simp only [ZK ⟨_, hd1⟩]
        rw [if_neg (by simp), Uv ⟨_, hd1⟩, Option.bind_some, Uv ⟨_, hd2⟩, Option.bind_some]
        have : 16 * (x.toNat / 16) + x.toNat % 16 = x.toNat := by omega
        simp [this]
      simp only [List.cons_append, List.nil_append, List.length_cons] at hn ⊢
      rw [DS, if_neg (by decide), if_pos rfl, e1, Option.bind_some]
      exact fin false (by omega) (fun _ => rfl)
    · rw [if_neg a1] at hn ⊢
      have hodd := ZL (by simpa using a1)
      by_cases a2 : (De x || (decide (out = []) && decide (x = 32 ∨ x = 35)) || (v.isEmpty && decide (x = 32))) = true
      · rw [if_pos a2] at hn ⊢
        have hp : ME x = true := by
          simp only [Bool.or_eq_true, Bool.and_eq_true, decide_eq_true_eq] at a2
          simp only [ME, Bool.or_eq_true, decide_eq_true_eq]
          rcases a2 with (h | ⟨_, h | h⟩) | ⟨_, h⟩
          · exact .inl (.inl h)
          · exact .inl (.inr h)
          · exact .inr h
          · exact .inl (.inr h)
        have e1 : Fm (x :: (Ca false v ++ s)) = some (x, Ca false v ++ s) := by rw [Fm.eq_def]; simp only [hp, if_true]
        simp only [List.cons_append, List.nil_append, List.length_cons] at hn ⊢
        rw [DS, if_neg (by decide), if_pos rfl, e1, Option.bind_some]
        exact fin false (by omega) (fun _ => rfl)
      · rw [if_neg a2] at hn ⊢
        simp only [Bool.or_eq_true, Bool.and_eq_true, decide_eq_true_eq, not_or, not_and] at a2
        obtain ⟨⟨b1, b2⟩, b3⟩ := a2
        obtain ⟨c1, c2⟩ := Wo b1
        have hfine : Kh (decide (out = [])) x = true := by
          simp only [Kh, Bool.and_eq_true, Bool.or_eq_true, Bool.not_eq_true', decide_eq_true_eq, decide_eq_false_iff_not]
          refine ⟨⟨⟨by simpa using b1, hodd.1⟩, hodd.2⟩, ?_⟩
          by_cases h0 : out = []
          · right
            have := b2 h0
            exact this
          · left; exact h0
        simp only [List.cons_append, List.nil_append, List.length_cons] at hn ⊢
        rw [DS, if_neg c1, if_neg c2, if_pos hfine]
        refine fin _ (by omega) fun hv => ?_
        simp only [decide_eq_false_iff_not]
        exact b3 (by rw [hv]; rfl)
theorem Px (r : S89) (d : List S89) (h : Ci r = true) : EP (BO (r :: d)) = some (r, EO d) := by
 simp only [Ci, Bool.and_eq_true, decide_eq_true_eq] at h; obtain ⟨⟨hn, hl⟩, hv⟩ := h; rw [Ed]; have hc : B7 (r.fType ++ 61 :: (Ca true r.Ac ++ EO d)) 61 = some (r.fType, Ca true r.Ac ++ EO d) := Bc.2 ⟨rfl, Ru hn⟩; unfold EP; rw [hc]; simp only [hn, if_true]; have ht : EO d = [] ∨ ∃ r, EO d = 44 :: r := by
  cases d with
  | nil => exact .inl rfl
  | cons a d => exact .inr ⟨_, rfl⟩
 have := O6 (EO d) ht r.Ac ((Ca true r.Ac ++ EO d).length + 1) false [] (by simp) (by simp; omega) (by simp; omega) (fun _ => rfl); rw [decide_eq_true rfl, List.nil_append] at this; rw [this, Option.map_some, hl]
theorem Ir : ∀ (d : List S89) (n : Nat), ¬ d = [] → d.length ≤ n → (∀ x ∈ d, Ci x = true) → DE n (BO d) = some d
  | [], _, h, _, _ => absurd rfl h
  | r :: d, 0, _, h, _ => by simp at h
  | r :: d, n + 1, _, h, hr => by
    rw [DE, Px r d (hr r (by simp)), Option.bind_some]
    cases d with
    | nil => rfl
    | cons a d =>
      have ih := Ir (a :: d) n (by simp) (by simpa using h) (fun x hx => hr x (by simp [hx]))
      show (DE n (BO (a :: d))).map (r :: ·) = _
      rw [ih]
      rfl
theorem O7 (d : List S89) (h : Bz d = true) : ER (BO d) = some d := by
 simp only [Bz, Bool.and_eq_true, decide_eq_true_eq, List.all_eq_true] at h; unfold ER; cases d with
 | nil => rfl
 | cons r d =>
  rw [if_neg (by rw [Ed]; simp)]; exact Ir (r :: d) 16 (by simp) h.1 h.2
theorem Py {y : S33} (h : AX y = true) : ES (RC y).Ac = some (y.A7, y.A8, BO y.fDn, BW y.A3) := by
 obtain ⟨h1, h2, _⟩ := CL h; have h3 := Kf (HS (GX h)); unfold ES RC; simp only [Uj]; rw [Bc.2 ⟨rfl, h1⟩, Option.bind_some, Bc.2 ⟨rfl, h2⟩, Option.bind_some, Bc.2 ⟨rfl, h3⟩]; rfl
theorem RM {y : S33} (h : AX y = true) (h8 : y.A3.length = 8) : FG (RC y).Ac = some y := by
 unfold FG; rw [Py h, Option.bind_some]; simp only; rw [O7 _ (GX h), Option.bind_some, Lu _ h8 (CL h).2.2, Option.bind_some, if_pos ⟨rfl, h⟩]
section
variable {m : Mp} {n : Np} {pr : Option S33} {d : S35}
theorem Pz {x : S39} {L : List S39} (hx : DT x = true) (h8 : x.A3.length = 8) (h1 : ∀ y ∈ L, lt8 y.A7 x.A7) (h2 : ∀ y ∈ L, ¬ y.A8 = x.A8) (hl : L.length < 64) : ET (Ko x) L = some (L ++ [x]) := by
 have hg := hx; simp only [DT, Bool.and_eq_true] at hg; have e1 : B7 (Ko x).Ac 10 = some (x.A8, BW x.A3) := Bc.2 ⟨by simp [Ko], Lr hg.1.2⟩; have c1 : Bv L x.A7 = -1 := by
  unfold Bv; refine Ll fun y hy => ?_; simp only [decide_eq_false_iff_not]; intro q; have := h1 y hy; rw [q] at this; exact CE _ this
 have c2 : GP L x.A8 = -1 := by
  unfold GP; refine Ll fun y hy => ?_; simp only [decide_eq_false_iff_not]; exact h2 y hy
 have ha : Fo L x = (L ++ [x], 0) := by
  unfold Fo; rw [if_pos hx, if_neg (by rw [c1]; decide), if_neg (by rw [c2]; decide), if_neg (by omega), O2 x L h1]
 unfold ET; have hk : (Ko x).CX = 112 :: x.A7 := rfl; rw [hk]; simp only; rw [e1, Option.bind_some, Lu _ h8 hg.2, Option.bind_some, if_pos (by rw [ha])]; rw [ha]
theorem O8 (I : Inv m n pr d) : ∀ (k i : Nat), i + k = d.fL.length → ofS ((d.fL.drop i).map Ko) ⟨d.fL.take i, d.fP⟩ = some d
  | 0, i, h => by
    rw [List.drop_of_length_le (by omega), List.take_of_length_le (by omega)]
    rfl
  | k + 1, i, h => by
    have hi : i < d.fL.length := by omega
    have h64 := I.len
    rw [List.drop_eq_getElem_cons hi, List.map_cons, ofS]
    have q1 : ∀ y ∈ d.fL.take i, lt8 y.A7 d.fL[i].A7 := fun y hy => by
      obtain ⟨j, hj, rfl⟩ := List.getElem_of_mem hy
      rw [List.getElem_take]
      rw [List.length_take] at hj
      exact List.pairwise_iff_getElem.1 I.tabs.TS j i _ _ (by omega)
    have q2 : ∀ y ∈ d.fL.take i, ¬ y.A8 = d.fL[i].A8 := fun y hy => by
      obtain ⟨j, hj, rfl⟩ := List.getElem_of_mem hy
      rw [List.getElem_take]
      rw [List.length_take] at hj
      exact List.pairwise_iff_getElem.1 I.tabs.uu j i _ _ (by omega)
    rw [if_neg (fun e => by have := e.1; simp [Ko] at this)]
    simp only
    rw [Pz (I.good _ (List.getElem_mem hi)).1 (I.sh _ (List.getElem_mem hi)) q1 q2 (by rw [List.length_take]; omega), Option.bind_some, ← List.take_succ_eq_append_getElem hi]
    exact O8 I k (i + 1) (by omega)
theorem Wp (I : Inv m n pr d) : ofS (Kp d) ⟨[], S33.zero⟩ = some d := by
 have h0 := O8 I d.fL.length 0 (by omega); rw [List.drop_zero, List.take_zero] at h0; unfold Kp; rcases I.Uk with ⟨a1, _, a3⟩ | ⟨a1, _, a3⟩
 ·rw [if_pos a1, List.nil_append, ← a3]; exact h0
 ·rw [if_neg a1, List.singleton_append, ofS, if_pos ⟨rfl, rfl⟩, RM a3 I.psh, Option.bind_some]; exact h0
end
end Go.Idl
namespace Go.Idl
open Go Go.Proofs.Tryz Go.Lib
set_option pp.deepTerms false
section
variable {m : Mp} {n : Np} {pr : Option S33} {d : S35}
theorem RN (I : Inv m n pr d) : (Kp d).length ≤ 1000000 ∧ ∀ r ∈ Kp d, r.CX.length ≤ 1000000 ∧ r.Ac.length ≤ 1000000 := by
 have h64 := I.len; have hl : ∀ {s : Str}, BC s = true → s.length ≤ 70 := fun {s} h => by
  unfold BC at h; simp only [Bool.and_eq_true, decide_eq_true_eq, Ip, List.length_drop] at h; omega
 have ul : ∀ {s : Str}, BK s = true → s.length ≤ 64 := fun {s} h => by
  unfold BK at h; simp only [Bool.and_eq_true, decide_eq_true_eq] at h; omega
 have hrow : ∀ r ∈ d.fL.map Ko, r.CX.length ≤ 1000000 ∧ r.Ac.length ≤ 1000000 := fun r hr => by
  obtain ⟨x, hx, rfl⟩ := List.mem_map.1 hr; obtain ⟨hg, hk⟩ := I.good x hx; simp only [DT, Bool.and_eq_true] at hg; have h1 := hl hg.1.1; have h2 := ul hg.1.2; have h3 := Ff x.A3 hk.2.2.1 hg.2; simp only [Ko, List.length_append, List.length_cons, List.length_nil]; omega
 unfold Kp; rcases I.Uk with ⟨a1, _, _⟩ | ⟨a1, _, a3⟩
 ·rw [if_pos a1, List.nil_append]; exact ⟨by simp; omega, hrow⟩
 ·rw [if_neg a1]; refine ⟨by simp; omega, fun r hr => ?_⟩; rcases List.mem_append.1 hr with hr | hr
  ·rw [List.mem_singleton.1 hr]; obtain ⟨_, _, hc⟩ := CL a3; have h3 := Ff d.fP.A3 I.psh hc; have hd := GX a3; have h4 := HP (HS hd); simp only [Bz, Bool.and_eq_true, decide_eq_true_eq] at hd; have hh : d.fP.A7.length ≤ 70 ∧ d.fP.A8.length ≤ 64 := by
    unfold AX at a3; simp only [Bool.and_eq_true, Bool.or_eq_true, decide_eq_true_eq] at a3; refine ⟨hl a3.2.1, ?_⟩; rcases a3.1 with h | h
    ·exact ul h.1
    ·rw [h.1]; simp
   simp only [RC, Uj, List.length_append, List.length_cons, List.length_nil]; omega
  ·exact hrow r hr
theorem PA (d : S35) (a : S41) (h : a.A_ < 4) : (C5 d a).1.fP = d.fP := by
 unfold C5; by_cases h1 : a.A_ = 1
 ·simp [h1]
 ·by_cases h2 : a.A_ = 2
  ·simp [h2]
  ·by_cases h3 : a.A_ = 3
   ·simp [h3]
   ·rw [if_neg h1, if_neg h2, if_neg h3, if_neg (by omega), if_neg (by omega)]
theorem fA (l : List S41) (hl : l.length ≤ 1000) (h : ∀ a ∈ l, okA a) (I : Inv m n pr d) : ∃ m' n' pr' d', AN (fun (s : Int × (Option S33) × Mp × Np) => HT l s.1 s.2.1 s.2.2.1 s.2.2.2) (0, pr, m, n) = some (pr', m', n') ∧ Inv m' n' pr' d' ∧ d'.fP = d.fP := by
 obtain ⟨r, h1, d', h2, h3⟩ := DN (step := fun (s : Int × (Option S33) × Mp × Np) => HT l s.1 s.2.1 s.2.2.1 s.2.2.2) (Post := fun y => ∃ d', Inv y.2.1 y.2.2 y.1 d' ∧ d'.fP = d.fP)
  (fun s => ∃ i : Nat, i ≤ l.length ∧ s.1 = (i : Int) ∧ ∃ d', Inv s.2.2.1 s.2.2.2 s.2.1 d' ∧ d'.fP = d.fP) (fun s => l.length - s.1.toNat)
  (by
    rintro ⟨k, pr, m, n⟩ ⟨i, hi, hk, d', I, hd⟩
    simp only at hk I
    subst hk
    simp only [HT]
    by_cases hlt : i < l.length
    · have hw := B6 (i := i) (by omega)
      obtain ⟨m', n', pr', I', hf⟩ := Qh I l[i] (h _ (List.getElem_mem _))
      left
      rw [if_pos (by omega), Af (by omega), Int.toNat_natCast, getD_some hlt, hw]
      by_cases hq : l[i].A_ < 4
      · rw [if_pos hq, Af (h _ (List.getElem_mem hlt)).1.2.2.1, Kl, hf ⟨[], S33.zero⟩ (by simp) (by simp) rfl]
        exact ⟨_, rfl, ⟨i + 1, by omega, rfl, _, I', by rw [PA _ _ hq]; exact hd⟩, by simp; omega⟩
      · rw [if_neg hq]
        exact ⟨_, rfl, ⟨i + 1, by omega, rfl, _, I, hd⟩, by simp; omega⟩
    · right
      rw [if_neg (by omega)]
      exact ⟨_, rfl, d', I, hd⟩)
  (s := (0, pr, m, n)) ⟨0, by omega, rfl, d, I, rfl⟩
 exact ⟨r.2.1, r.2.2, r.1, d', h1, h2, h3⟩
theorem ZM (x : S41) (I : Inv m n pr d) (hp : d.fP = Ej x) (hr : AX (Ej x) = true) : Ks x pr m n = some true := by
 have hpr : pr.isSome = true := by
  rw [I.prs, hp]; have := hr; unfold AX at this; simp only [Bool.and_eq_true, Bool.or_eq_true, decide_eq_true_eq] at this; simpa using MG this.2.1
 obtain ⟨b1, b2⟩ := RN I; obtain ⟨m', n', pr', e1, I'⟩ := (ZB b1 b2).2 d (Wp I); have hpr' : pr'.isSome = true := by rw [I'.prs, ← I.prs]; exact hpr
 have I0 : Inv m n none ⟨d.fL, S33.zero⟩ := ⟨I.tabs, I.good, I.len, .inl ⟨rfl, rfl⟩⟩; have e28 : F28 m n pr = some (0, none) := by simp [F28, F42]
 have e25 : F25 d.fP (⟨x.A5.A7, x.A5.A8, x.fDn, x.A5.A3⟩ : S33) = some true := by
  have : (⟨x.A5.A7, x.A5.A8, x.fDn, x.A5.A3⟩ : S33) = d.fP := hp.symm; rw [this, Za _ _ I.psh I.psh I.Uf.2.2.1.1]; simp
 unfold Ks; rw [Kk I, Option.bind_some, Af I.psh, Zx I, Option.bind_some, e1, Option.bind_some]; simp only [opP]; rw [Kk I', Option.bind_some, Af I.psh]; simp only [hpr, hpr', not_true_eq_false, if_false]; rw [e25, Option.bind_some]; simp only [not_true_eq_false, if_false, Option.bind_some]; rw [e28, Option.bind_some]; simp only [not_true_eq_false, if_false]; rw [Kk I0, Option.bind_some]; simp only [Option.isSome_none, Bool.false_eq_true, not_false_eq_true, if_true]; rw [MH I', Option.bind_some, MH I0, Option.bind_some, if_pos rfl, Po]; rfl
end
theorem fB (l1 : List S41) (x : S41) (l2 : List S41) (h1 : ∀ a ∈ l1, O0 a) (hx : O0 x) (h2 : ∀ a ∈ l2, O0 a) (hl1 : l1.length ≤ 2000000) (hl2 : l2.length ≤ 2000000) : F8 l1 x l2 = some true := by
 have hm : ∀ a ∈ l1 ++ [x] ++ l2, O0 a := fun a ha => by
  simp only [List.mem_append, List.mem_cons, List.not_mem_nil, or_false] at ha; rcases ha with (ha | rfl) | ha
  ·exact h1 a ha
  ·exact hx
  ·exact h2 a ha
 unfold F8; rw [Af hx.1, Af (by omega), Af (by simp; omega), Af (by simp; omega), Zw _ 41 (by omega) hm, Option.bind_some]; by_cases h0 : (decide (((l1 ++ [x] ++ l2).length : Int) ≤ 41) && (l1 ++ [x] ++ l2).all Pm) = true
 ·rw [if_neg (by simpa using h0), show F12 = some ([], [], none) from rfl]; simp only [Bool.and_eq_true, decide_eq_true_eq, List.all_eq_true, List.length_append, List.length_cons, List.length_nil] at h0; have hok : ∀ a ∈ l1 ++ [x] ++ l2, okA a := fun a ha => Wi (h0.2 a ha) (hm a ha).1; obtain ⟨m, n, pr, e1, I⟩ := fc l1 (by omega) (fun a ha => hok a (by simp [ha])); have e1' : AN (fun (s : Int × (Option S33) × Mp × Np) => ML l1 s.1 s.2.1 s.2.2.1 s.2.2.2) (0, none, [], []) = some (pr, m, n) := e1; simp only [Option.bind_some]; rw [e1', Option.bind_some]; have ox := hok x (by simp); have hp : okP (Ej x) := ⟨ox.1.1, ox.1.2.1, ox.2, ox.1.2.2⟩; obtain ⟨pr', e2, I2⟩ := MI I (Ej x) hp; have e2' : F27 m n pr (⟨x.A5.A7, x.A5.A8, x.fDn, x.A5.A3⟩ : S33) = some (if AX (Ej x) = true then 0 else 2, pr') := e2; unfold MK; rw [MH I, Option.bind_some, e2', Option.bind_some]; by_cases hr : AX (Ej x) = true
  ·rw [hr] at I2 ⊢; simp only [if_true, not_true_eq_false, if_false] at I2 ⊢; obtain ⟨m3, n3, p3, d3, e3, I3, hd3⟩ := fA l2 (by omega) (fun a ha => hok a (by simp [ha])) I2; rw [e3, Option.bind_some]; exact ZM x I3 hd3 hr
  ·simp only [hr, Bool.false_eq_true, if_false] at I2 ⊢; rw [if_pos (by decide), MH I2, Option.bind_some, if_pos rfl, Po]; rfl
 ·rw [if_pos (by simpa using h0), Po]; rfl
end Go.Idl
namespace Go.Idl
open Go Go.RowKit Go.ChangeShapes Go.WideShapes
variable {P : Program} {w : World} {Hh : Type} {enc : TypeId × Value → Hh}
theorem RdZ.agg {t : TypeId} {cs : Array Value} {d : DataW Hh} {ps : List MemPlace} {S : List IV → Prop} {base : Nat} {spare : Nat → Bool} {held : Bool} (h : RdZ P w enc t S) (hd : DataW.Trod enc P w base spare held t (.agg cs) d ps)
    {ts : List TypeId} {ds : List (DataW Hh)} (hw : (DataW.weightsEach P ts ds).all (· ≤ reachBytes) = true) {k : Nat} (h1 : ts[k]? = some t) (h2 : ds[k]? = some d) : ∃ is, S is ∧ R w g0 (.agg cs) (.ag is) := by
 obtain ⟨fuel, hf⟩ := hd; obtain ⟨is, h1, h2, h3⟩ := h _ _ _ _ _ _ hf fun n hn => by simpa using List.all_eq_true.1 hw _ (DataW.weights_mem_each h1 h2 n hn)
 have hcs : (Value.agg cs).cells.toList = cs.toList := rfl; rw [hcs] at h2 h3; refine ⟨is, h1, .ag cs is (by simpa using h2.symm) (fun j x hx => ?_) fun j x c hx hc => (h3 j x c (by simpa using hx) hc).2⟩; have hlt : j < is.length := by
  have := (Array.getElem?_eq_some_iff.1 hx).1; rw [h2]; simpa using this
 exact (h3 j x is[j] (by simpa using hx) (List.getElem?_eq_getElem hlt)).1
end Go.Idl
namespace Go.Idl
open Go Go.RowKit Go.ChangeShapes Go.WideShapes
theorem Ku {H : Type} {enc : TypeId × Value → H} {a : Assume} {C : Checked} {os : Os} {f : FuncId} {fn : Func} {s : OpenSpec} {k : (H : Type) → List (DataW H) → Bool} (hk : s.cond = some k) {F : Stop.Interp} {apart fresh handsOn again : Bool} {X : World → Array Value → Prop}
    (hX : ∀ (w w' : World) (args : Array Value), w.heap = w'.heap → X w args → X w' args)
    (own : ownKnob C.prog.godebug = none) (started : os.Started) (noInit : C.prog.inits.idxOf? f = none) (hfn : C.prog.funcs[f]? = some fn)
    (witness : ∃ (w : World) (tape : Tape) (i : Input), w.os = os ∧ (w.forCall tape i).Shaped C.prog ∧ i.vars = [] ∧ Input.okWide C.prog (w.forCall tape i) .any w.heap.size f i ∧
      ((s.pre enc C.prog fn [] apart (w.forCall tape i).memory i.args ∧ X (w.forCall tape i).memory i.args) ∧ sizedMet enc C.prog fn s apart (w.forCall tape i).memory i.args) ∧ a.holds C.prog (lone (Frame.enter C.prog f i.args .normal) [] (w.forCall tape i)))
    (contract : ∀ (W : World) (base : Nat) (args : Array Value) (ds gs : List (DataW H)) (before : List MemPlace),
      (∀ (j : Nat) t v, fn.params[j]? = some t → args[j]? = some v → Value.okWide C.prog W .any base t v) →
      DataW.Whole enc C.prog fn.params.toList s.vars apart W args.toList ds gs before → k H (ds ++ gs) = true →
      (DataW.weightsEach C.prog (fn.params.toList ++ s.bare.plain.varTypes C.prog) (ds ++ gs)).all (· ≤ reachBytes) = true → X W args → W.ShapedOpen C.prog →
      Calls C.prog f args W fun e W' => ∃ v, e = .returned v ∧ (s.at F).post enc C.prog fn apart fresh handsOn again W args v W') :
    ReturnsInHanded a C os f .any (fun w args => (s.pre enc C.prog fn [] apart w args ∧ X w args) ∧ sizedMet enc C.prog fn s apart w args) ((s.at F).post enc C.prog fn apart fresh handsOn again) := by
 refine returnsInHanded_of_calls own started noInit witness ?_; intro w tape i _ shape _ ok pre _; obtain ⟨_, _, _, fn2, hfn2, _, _, _, _, val⟩ := ok; have e := Option.some.inj (hfn2.symm.trans hfn); subst e; obtain ⟨⟨hp, laid⟩, sized⟩ := pre; obtain ⟨ds, gs, before, whole, _, hkk⟩ := (OpenSpec.pre_some hk [] apart _ _).1 hp; refine Calls.mono (contract (w.forCall tape i) w.heap.size i.args ds gs before val (DataW.Whole.of_heap (by rfl) whole) hkk (sized.weights whole) (hX _ _ _ (by rfl) laid) shape) ?_
 rintro _ W' ⟨v, rfl, post⟩
 exact ChangeSpec.post_blind post
theorem MM {H : Type} {enc : TypeId × Value → H} {C : Checked} {os : Os} {f : FuncId} {fn : Func} {s : OpenSpec} {k : (H : Type) → List (DataW H) → Bool} (hk : s.cond = some k) {apart : Bool} {X : World → Array Value → Prop} (modest : Bool) (w0 : World) (args : Array Value) (fuel : Nat) (hos : w0.os = os)
    (hsh : (w0.forCall (fun _ _ => 0) ⟨#[], args, []⟩).Shaped C.prog)
    (hok : Input.okWideB C.prog (w0.forCall (fun _ _ => 0) ⟨#[], args, []⟩) f ⟨#[], args, []⟩ = true)
    {x : List (DataW H) × List (DataW H) × List MemPlace} (hx : DataW.whole enc C.prog (w0.forCall (fun _ _ => 0) ⟨#[], args, []⟩).memory fn.params.toList s.vars apart args.toList fuel = some x)
    (hkk : k H (x.1 ++ x.2.1) = true)
    (hsz : s.bare.sizedB enc C.prog fn apart (w0.forCall (fun _ _ => 0) ⟨#[], args, []⟩).memory args fuel = true)
    (hX : X (w0.forCall (fun _ _ => 0) ⟨#[], args, []⟩).memory args) :
    ∃ (w : World) (tape : Tape) (i : Input), w.os = os ∧ (w.forCall tape i).Shaped C.prog ∧ i.vars = [] ∧ Input.okWide C.prog (w.forCall tape i) .any w.heap.size f i ∧
      ((s.pre enc C.prog fn [] apart (w.forCall tape i).memory i.args ∧ X (w.forCall tape i).memory i.args) ∧ sizedMet enc C.prog fn s apart (w.forCall tape i).memory i.args) ∧ ({ modest := modest } : Assume).holds C.prog (lone (Frame.enter C.prog f i.args .normal) [] (w.forCall tape i)) :=
  ⟨w0, fun _ _ => 0, ⟨#[], args, []⟩, hos, hsh, (Input.okWide_of_okWideB (base := 0) hok).1, (Input.okWide_of_okWideB hok).2,
    ⟨⟨(OpenSpec.pre_some hk [] apart _ _).2 ⟨x.1, x.2.1, x.2.2, DataW.Whole_of_whole hx, rfl, hkk⟩, hX⟩, sizedMet_of_sizedB hsz⟩, by
    simp only [Assume.holds]
    exact ⟨by simp, by simp, fun _ => Modest.zero, by simp, by simp⟩⟩
theorem Uw {w : World} {g : Gs} {a : Option Addr} {len cap sz : Nat} {es : List (List IV)} (h : R w g (.slice a len cap) (.sl sz es)) : es.length = len := by
 cases h <;> rfl
theorem Kv {P : Program} {w : World} {H : Type} {enc : TypeId × Value → H} {t e : TypeId} {base : Nat} {spare : Nat → Bool} {held : Bool} {fuel : Nat} {a : Option Addr} {len cap : Nat} {x : DataW H × List MemPlace}
    (hu : P.underlying t = some (.slice e)) (h : DataW.trod enc P w base spare held fuel t [.slice a len cap] = some x) : len = 0 ∨ ∃ es rs, x.1 = .slice es rs ∧ es.length = len := by
 rcases DataW.trod_slice hu h with ⟨q, _⟩ | ⟨a', len', cap', elems, rest, n, _, q, rfl, hb, hl, hm, hlen, _⟩
 ·simp only [List.cons.injEq, Value.slice.injEq, and_true] at q; exact .inl q.2.1
 ·simp only [List.cons.injEq, Value.slice.injEq, and_true] at q; exact .inr ⟨_, _, rfl, by rw [List.length_map, hlen, q.2.1]⟩
end Go.Idl
namespace Go.Proofs.YtbgebljjmpklkaaGreatDoor
open Go Go.ChangeShapes Go.WideShapes Go.ChangeAt Go.RowKit Go.Idl
theorem Ux {H : Type} (d : DataW H) : 1 ≤ Rows.uptoBulk d := by
 cases d with
 | lit l => cases l <;> simp [Rows.uptoBulk]
 | _ => simp [Rows.uptoBulk]
theorem O9 {H : Type} : ∀ (l : List (DataW H)), l.length ≤ Rows.uptoBulkAll l
  | [] => by simp
  | d :: r => by
    have := Ux d
    have := O9 r
    simp only [List.length_cons, Rows.uptoBulkAll]
    omega
theorem Ql {H : Type} {enc : TypeId × Value → H} {W : World} {fuel : Nat} {x : DataW H × List MemPlace} {a : Option Addr} {len cap sz : Nat} {es : List (List IV)} {g : Gs}
    (h : DataW.trod enc Tryz.prog W 0 (fun _ => true) true fuel 22 [.slice a len cap] = some x) (r : R W g (.slice a len cap) (.sl sz es)) : es.length ≤ Rows.uptoBulk x.1 := by
 have e := Uw r; rcases Kv Tryz.underlying22 h with q | ⟨el, rs, q1, q2⟩
 ·omega
 ·have := O9 el; rw [q1, Rows.uptoBulk]; omega
set_option maxRecDepth 100000 in
theorem Fq (os : Os) (started : os.Started) (H : Type) (enc : TypeId × Value → H) (F : Stop.Interp) :
    ReturnsInHanded {} Tryz.checked os 8 .any (fun w args => ((Rows.OpenSpec.upto Rows.pairsPromiseSpec).pre enc Tryz.prog Tryz.f8 [] false w args ∧ laidMetH Tryz.prog GZ w) ∧ sizedMet enc Tryz.prog Tryz.f8 (Rows.OpenSpec.upto Rows.pairsPromiseSpec) false w args)
      (((Rows.OpenSpec.upto Rows.pairsPromiseSpec).at F).post enc Tryz.prog Tryz.f8 false true false false) := by
 refine Ku (C := Tryz.checked) (k := Rows.uptoSmall) rfl (X := fun w _ => laidMetH Tryz.prog GZ w) (fun _ _ _ hh h => h.of_heap hh) Wn started (by kernel_rfl) Tryz.func8
  (MM (k := Rows.uptoSmall) rfl (enc := enc) (C := Tryz.checked) (os := os) (X := fun w _ => laidMetH Tryz.prog GZ w) false (World.laidAll Tryz.prog os GZ) #[.slice none 0 0, .agg #[.int .i64 0, .string ⟨#[]⟩, .string ⟨#[]⟩, .slice none 0 0, .slice none 0 0, .slice none 0 0, .slice none 0 0, .slice none 0 0, .slice none 0 0, .slice none 0 0, .slice none 0 0, .slice none 0 0], .slice none 0 0] 8 (World.laidAll_os _ _ _) (O4 os) (by kernel_rfl) (x := ([.nil, .agg [.lit (.int .i64 0), .agg [.lit (.string []), .lit (.string []), .agg [.nil, .nil, .nil, .nil, .nil, .nil, .nil, .nil]], .nil], .nil], [], [])) (by kernel_rfl) (by kernel_rfl) (by kernel_rfl) (RH os _)) ?_
 intro W base args ds gs before hval0 hW hsmall hwt hL hshape; have hval : ∀ (j : Nat) t v, Tryz.f8.params[j]? = some t → args[j]? = some v → Value.okWide Tryz.prog W .any base t v := hval0; have hW' := hW; obtain ⟨p, q, hA0, hV, rfl, hfz, hnd⟩ := hW; have hA : DataW.TrodAll enc Tryz.prog W 0 (fun _ => true) true Tryz.f8.params.toList args.toList ds p := hA0; rw [Tryz.params8] at hA hval; obtain ⟨v0, v1, v2, d0, d1, d2, p0, p1, p2, rfl, rfl, rfl, h0, h1, h2⟩ := trodAll_three hA; obtain ⟨rfl, rfl⟩ := trodVars_none hV; simp only [List.append_nil] at hW'; have hlt := hW'.lt; have hwt' : (DataW.weightsEach Tryz.prog [22, 42, 22] [d0, d1, d2]).all (· ≤ reachBytes) = true := hwt; obtain ⟨a0, len0, cap0, rfl⟩ := okWide_slice Tryz.underlying22 (hval 0 22 v0 rfl rfl); obtain ⟨cs1, rfl, _⟩ := okWide_struct Tryz.underlying42 (hval 1 42 v1 rfl rfl); obtain ⟨a2, len2, cap2, rfl⟩ := okWide_slice Tryz.underlying22 (hval 2 22 v2 rfl rfl); obtain ⟨i0, ⟨x0, b0, e0⟩, r0⟩ := fu.one rfl h0 hwt' (k := 0) rfl rfl; simp only [List.cons.injEq, and_true] at e0; subst e0; obtain ⟨is1, ⟨x1, rfl⟩, r1⟩ := fq.agg h1 hwt' (k := 1) rfl rfl; obtain ⟨i2, ⟨x2, b2, e2⟩, r2⟩ := fu.one rfl h2 hwt' (k := 2) rfl rfl; simp only [List.cons.injEq, and_true] at e2; subst e2; have hb2 : Rows.uptoBulkAll ([d0, d1, d2] ++ []) ≤ 1048576 := of_decide_eq_true hsmall; simp only [List.append_nil, Rows.uptoBulkAll] at hb2; have n0 : x0.length ≤ 2000000 := by
  obtain ⟨f0, q0⟩ := h0; have := Ql q0 r0; simp only [List.length_map] at this; omega
 have n2 : x2.length ≤ 2000000 := by
  obtain ⟨f2, q2⟩ := h2; have := Ql q2 r2; simp only [List.length_map] at this; omega
 obtain ⟨vs, hvs, hvok⟩ := RI hL hshape
 have hcall := (fy (H := HV vs) (K := fun e _ => e = .ret (.v (.bool true))) x0 x1.1 x2 hvok (fB x0 x1.1 x2 b0 x1.2 b2 n0 n2) rfl).run W g0 #[.slice a0 len0 cap0, .agg cs1, .slice a2 len2 cap2] (jW W vs hvs) ⟨rfl, fun j x i hx hi => by
   match j, hx, hi with
   | 0, hx, hi => simp at hx hi; subst hx; subst hi; exact r0
   | 1, hx, hi => simp at hx hi; subst hx; subst hi; exact r1
   | 2, hx, hi => simp at hx hi; subst hx; subst hi; exact r2
   | j + 3, hx, hi => simp at hx⟩
 refine hcall.mono ?_
 rintro e W' ⟨ie, g', H', hm, _, hre, rfl⟩
 have hb := KK hm; obtain ⟨rfl⟩ : e = .returned (.bool true) := by
  cases hre with
  | ret x i h => rw [h.v_eq]
 refine ⟨_, rfl, ?_⟩; refine ⟨_, _, _, [], p0 ++ p1 ++ p2, [], hW', trodAll_mk1 (shut_bool Tryz.underlying4 _), ?_, ?_, hb.frame _, fun h => by cases h⟩
 ·have hl0 : ∀ x ∈ p0, x.block < W.heap.size := fun x hx => hlt x (by simp [hx]); have hl1 : ∀ x ∈ p1, x.block < W.heap.size := fun x hx => hlt x (by simp [hx]); have hl2 : ∀ x ∈ p2, x.block < W.heap.size := fun x hx => hlt x (by simp [hx]); have k0 := Below.trod G9 (by kernel_rfl) (of_decide_eq_true (by kernel_rfl)) h0 hb hl0; have k1 := Below.trod G9 (by kernel_rfl) (of_decide_eq_true (by kernel_rfl)) h1 hb hl1; have k2 := Below.trod G9 (by kernel_rfl) (of_decide_eq_true (by kernel_rfl)) h2 hb hl2; exact ⟨p0, p1 ++ p2, k0, ⟨p1, p2, k1, ⟨p2, [], k2, rfl, by simp⟩, rfl⟩, by simp⟩
 ·rfl
theorem HU : Rows.PairsPromiseUptoSaid :=
  OpenClaim.holds_of_cond 8 Tryz.f8 rfl rfl rfl rfl rfl rfl rfl ⟨rfl, rfl, rfl, rfl, rfl⟩ rfl rfl rfl rfl rfl (by kernel_rfl) Tryz.func8 (by kernel_rfl)
    (of_decide_eq_true (by kernel_rfl)) (by unfold Func.isWrapper; first | (rw [if_pos (by decide +kernel)]; kernel_rfl) | (rw [if_neg (by decide +kernel)]; exact ⟨rfl, rfl⟩))
    (fun os started H enc _ F => Fq os started H enc F)
theorem pairsPromise_holds : Rows.PairsPromiseUptoCardSaid :=
  Claim7.holds_tied_plain_at .later [] [.data, .data, .data, .data, .sentinel, .sentinel, .pinned] true (true, "5dbde0cbb162a84d239fd1634710af79b7da20f43e8be4b7c72be86c8a99f6d5") true
    HU (fun _ h => by cases h) (by kernel_rfl) (fun _ h => by cases h) pairsPromiseUpto_row_tie rfl ⟨rfl, rfl⟩ (by kernel_rfl) rfl
    (fun f fn hf hfn => by
      obtain rfl : f = 8 := Option.some.inj ((show Tryz.prog.funcNamed "cardcase/cardcaselaw20.PairsPromise" = some 8 by kernel_rfl).symm.trans hf) |>.symm
      obtain rfl : fn = Tryz.f8 := (Option.some.inj (Tryz.func8.symm.trans hfn)).symm
      exact ⟨by kernel_rfl, fun j t ht => by
        rw [Tryz.params8] at ht
        have hm : t ∈ [22, 42, 22] := by simpa using Array.mem_of_getElem? ht
        have hall : ([22, 42, 22].all fun u => !Tryz.prog.wantsStandIn u) = true := by kernel_rfl
        exact (show Tryz.prog.wantsStandIn t = false by simpa using List.all_eq_true.1 hall t hm)⟩)
    (by kernel_rfl)
end Go.Proofs.YtbgebljjmpklkaaGreatDoor
