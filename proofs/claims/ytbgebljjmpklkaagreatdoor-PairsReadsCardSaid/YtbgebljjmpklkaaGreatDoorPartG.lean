/- Reads what was parsed: the saying of the case law 20 Part 7. Conditions: none. -/
import Derived.Test.YtbgebljjmpklkaaGreatDoorPartF
import Derived.ProofKit
import Derived.OpenShut
import Derived.SizedLaws
import Derived.Handed
import Derived.ChangeSame
import Derived.Test.YtbgebljjmpklkaaGreatDoorRows
import Derived.Test.YtbgebljjmpklkaaGreatDoorTie
import Derived.Test.YtbgebljjmpklkaaGreatDoorCards
import Derived.LaidMore
import Derived.Carry
import Derived.Stop.Joined
import Derived.SevenTiedAt
import Derived.Stop.LaidErr
import Derived.Lib.LaidTab
import Derived.Lay
import Derived.MakeChecks
set_option linter.unusedSimpArgs false
set_option linter.unusedVariables false
namespace Go.Idl
set_option maxHeartbeats 8000000
set_option pp.deepTerms false
set_option maxRecDepth 60000
open Go Go.Proofs.Tryz
noncomputable def Jh (v8 : List UInt8) : Option (List UInt8) :=
 some v8
noncomputable def Ht (v7 : Int) (v25 : List UInt8) : Option (((List UInt8) × Int) ⊕ (List UInt8)) :=
 some (.inl ((v25, IntKind.i64.wrap (v7 + 1))))
noncomputable def De (a0 : List S89) (v7 : Int) (v23 : List UInt8) (v24 : Int) : Option (((List UInt8) × Int) ⊕ (List UInt8)) :=
 if v24 < ((((a0.getD v7.toNat S89.zero).A7).length : Int)) then (gd (0 ≤ v24) (gd (v24 ≤ IntKind.i64.wrap (v24 + 1)) (gd (IntKind.i64.wrap (v24 + 1) ≤ ((a0.getD v7.toNat S89.zero).A7).length) (gd (0 ≤ v24 ∧ v24 < ((a0.getD v7.toNat S89.zero).A7).length) (if (((((a0.getD v7.toNat S89.zero).A7).getD v24.toNat 0).toNat : Int)) < 32 then (gd ((v23.length : Int) + (([92]) : List UInt8).length ≤ 9223372036854775807) ((Rx (((((a0.getD v7.toNat S89.zero).A7).getD v24.toNat 0).toNat : Int))).bind fun (x37 : (List UInt8)) => gd (((v23 ++ ([92])).length : Int) + x37.length ≤ 9223372036854775807) (some (.inl (((v23 ++ ([92])) ++ x37, IntKind.i64.wrap (v24 + 1))))))) else (if 126 < (((((a0.getD v7.toNat S89.zero).A7).getD v24.toNat 0).toNat : Int)) then (gd ((v23.length : Int) + (([92]) : List UInt8).length ≤ 9223372036854775807) ((Rx (((((a0.getD v7.toNat S89.zero).A7).getD v24.toNat 0).toNat : Int))).bind fun (x41 : (List UInt8)) => gd (((v23 ++ ([92])).length : Int) + x41.length ≤ 9223372036854775807) (some (.inl (((v23 ++ ([92])) ++ x41, IntKind.i64.wrap (v24 + 1))))))) else ((Po (((((a0.getD v7.toNat S89.zero).A7).getD v24.toNat 0).toNat : Int))).bind fun (x44 : Bool) => if x44 = true then (gd ((v23.length : Int) + (([92]) : List UInt8).length ≤ 9223372036854775807) (gd (((v23 ++ ([92])).length : Int) + ((((a0.getD v7.toNat S89.zero).A7).take (IntKind.i64.wrap (v24 + 1)).toNat).drop v24.toNat).length ≤ 9223372036854775807) (some (.inl (((v23 ++ ([92])) ++ ((((a0.getD v7.toNat S89.zero).A7).take (IntKind.i64.wrap (v24 + 1)).toNat).drop v24.toNat), IntKind.i64.wrap (v24 + 1))))))) else (if v24 = 0 then (if ((((a0.getD v7.toNat S89.zero).A7).take (IntKind.i64.wrap (v24 + 1)).toNat).drop v24.toNat) = ([32]) then (gd ((v23.length : Int) + (([92]) : List UInt8).length ≤ 9223372036854775807) (gd (((v23 ++ ([92])).length : Int) + ((((a0.getD v7.toNat S89.zero).A7).take (IntKind.i64.wrap (v24 + 1)).toNat).drop v24.toNat).length ≤ 9223372036854775807) (some (.inl (((v23 ++ ([92])) ++ ((((a0.getD v7.toNat S89.zero).A7).take (IntKind.i64.wrap (v24 + 1)).toNat).drop v24.toNat), IntKind.i64.wrap (v24 + 1))))))) else (if ((((a0.getD v7.toNat S89.zero).A7).take (IntKind.i64.wrap (v24 + 1)).toNat).drop v24.toNat) = ([35]) then (gd ((v23.length : Int) + (([92]) : List UInt8).length ≤ 9223372036854775807) (gd (((v23 ++ ([92])).length : Int) + ((((a0.getD v7.toNat S89.zero).A7).take (IntKind.i64.wrap (v24 + 1)).toNat).drop v24.toNat).length ≤ 9223372036854775807) (some (.inl (((v23 ++ ([92])) ++ ((((a0.getD v7.toNat S89.zero).A7).take (IntKind.i64.wrap (v24 + 1)).toNat).drop v24.toNat), IntKind.i64.wrap (v24 + 1))))))) else (if v24 = (IntKind.i64.wrap (((((a0.getD v7.toNat S89.zero).A7).length : Int)) - 1)) then (if ((((a0.getD v7.toNat S89.zero).A7).take (IntKind.i64.wrap (v24 + 1)).toNat).drop v24.toNat) = ([32]) then (gd ((v23.length : Int) + (([92]) : List UInt8).length ≤ 9223372036854775807) (gd (((v23 ++ ([92])).length : Int) + ((((a0.getD v7.toNat S89.zero).A7).take (IntKind.i64.wrap (v24 + 1)).toNat).drop v24.toNat).length ≤ 9223372036854775807) (some (.inl (((v23 ++ ([92])) ++ ((((a0.getD v7.toNat S89.zero).A7).take (IntKind.i64.wrap (v24 + 1)).toNat).drop v24.toNat), IntKind.i64.wrap (v24 + 1))))))) else (gd ((v23.length : Int) + ((((a0.getD v7.toNat S89.zero).A7).take (IntKind.i64.wrap (v24 + 1)).toNat).drop v24.toNat).length ≤ 9223372036854775807) (some (.inl ((v23 ++ ((((a0.getD v7.toNat S89.zero).A7).take (IntKind.i64.wrap (v24 + 1)).toNat).drop v24.toNat), IntKind.i64.wrap (v24 + 1))))))) else (gd ((v23.length : Int) + ((((a0.getD v7.toNat S89.zero).A7).take (IntKind.i64.wrap (v24 + 1)).toNat).drop v24.toNat).length ≤ 9223372036854775807) (some (.inl ((v23 ++ ((((a0.getD v7.toNat S89.zero).A7).take (IntKind.i64.wrap (v24 + 1)).toNat).drop v24.toNat), IntKind.i64.wrap (v24 + 1))))))))) else (if v24 = (IntKind.i64.wrap (((((a0.getD v7.toNat S89.zero).A7).length : Int)) - 1)) then (if ((((a0.getD v7.toNat S89.zero).A7).take (IntKind.i64.wrap (v24 + 1)).toNat).drop v24.toNat) = ([32]) then (gd ((v23.length : Int) + (([92]) : List UInt8).length ≤ 9223372036854775807) (gd (((v23 ++ ([92])).length : Int) + ((((a0.getD v7.toNat S89.zero).A7).take (IntKind.i64.wrap (v24 + 1)).toNat).drop v24.toNat).length ≤ 9223372036854775807) (some (.inl (((v23 ++ ([92])) ++ ((((a0.getD v7.toNat S89.zero).A7).take (IntKind.i64.wrap (v24 + 1)).toNat).drop v24.toNat), IntKind.i64.wrap (v24 + 1))))))) else (gd ((v23.length : Int) + ((((a0.getD v7.toNat S89.zero).A7).take (IntKind.i64.wrap (v24 + 1)).toNat).drop v24.toNat).length ≤ 9223372036854775807) (some (.inl ((v23 ++ ((((a0.getD v7.toNat S89.zero).A7).take (IntKind.i64.wrap (v24 + 1)).toNat).drop v24.toNat), IntKind.i64.wrap (v24 + 1))))))) else (gd ((v23.length : Int) + ((((a0.getD v7.toNat S89.zero).A7).take (IntKind.i64.wrap (v24 + 1)).toNat).drop v24.toNat).length ≤ 9223372036854775807) (some (.inl ((v23 ++ ((((a0.getD v7.toNat S89.zero).A7).take (IntKind.i64.wrap (v24 + 1)).toNat).drop v24.toNat), IntKind.i64.wrap (v24 + 1))))))))))))))) else (some (.inr v23))
noncomputable def E3 (a0 : List S89) (v7 : Int) (v15 : List UInt8) : Option (((List UInt8) × Int) ⊕ (List UInt8)) :=
 gd (0 ≤ v7 ∧ v7 < a0.length) (gd ((v15.length : Int) + ((a0.getD v7.toNat S89.zero).fType).length ≤ 9223372036854775807) (gd (((v15 ++ ((a0.getD v7.toNat S89.zero).fType)).length : Int) + (([61]) : List UInt8).length ≤ 9223372036854775807) ((AD (fun (s : (List UInt8) × Int) => De a0 v7 s.1 s.2) (((v15 ++ ((a0.getD v7.toNat S89.zero).fType)) ++ ([61])), 0)).bind fun (e : (List UInt8)) => Ht v7 e)))
noncomputable def Ew (a0 : List S89) (v6 : List UInt8) (v7 : Int) : Option (((List UInt8) × Int) ⊕ (List UInt8)) :=
 if v7 < (a0.length : Int) then (if 0 < v7 then (gd ((v6.length : Int) + (([44]) : List UInt8).length ≤ 9223372036854775807) (E3 a0 v7 (v6 ++ ([44])))) else (E3 a0 v7 v6)) else (some (.inr v6))
noncomputable def Uk (a0 : List S89) : Option (List UInt8) :=
 (AD (fun (s : (List UInt8) × Int) => Ew a0 s.1 s.2) ([], 0)).bind fun (e : (List UInt8)) => Jh e
theorem Ws {H : A2} {K : Au → A2 → Prop} (a0 : List S89) {r : (List UInt8)} (h : Uk a0 = some r) (hK : K (.ret (.v (str r))) H) : Aa prog 108 [.sl 2 (a0.map fun x => [.v (str x.fType), .v (str x.A7)])] H K := by
 refine Ag (N := 96) func108 (by kernel_rfl) rfl (by kernel_rfl) (by kernel_rfl) fun cb hcb hw hbd hnb => ?_; clear hbd hnb; subst hcb; unfold Uk at h; refine wG ?_; refine wG ?_; refine A3 fun cb hc3 => ?_; refine wG ?_; obtain ⟨y5, hl5q, hk5⟩ := A4 h; refine AF (fun tm' H' => ∃ v8 : List UInt8, v8 = y5 ∧ H = H' ∧ tm' 3 = .v (str v8)) ?_ fun cb hc5 => ?_
 ·rintro tm5e H5e ⟨v8, rfl, rfl, t3_5e⟩
  have h : Jh v8 = some r := hk5; unfold Jh at h; simp -implicitDefEqProofs only [go_sem]; subst hc3; refine wF t3_5e ?_; refine vO ?_; obtain rfl := sI h; refine sG ?_; exact Ap (.refl hw) hK
 refine Ah ?_; refine Az (fun (s : (List UInt8) × Int) tm' H' => H = H' ∧ tm' 0 = .sl 2 (a0.map fun x => [.v (str x.fType), .v (str x.A7)]) ∧ tm' 3 = .v (str s.1) ∧ tm' 4 = .v (.int .i64 s.2)) hl5q ?_ ?_
 ·exact sm
 rintro I5 hI5 ⟨v6, v7⟩ x5 tm5 H5 ⟨rfl, D1, EJ, He⟩ h hret5
 replace h : Ew a0 v6 v7 = some x5 := h; unfold Ew at h; refine A3 fun cb hc10 => ?_; refine wF (nd D1 He) ?_; refine A8 h eA rfl ?_ ?_
 ·intro c12 h; refine vO ?_; subst hc10; refine A3 fun cb hc13 => ?_; refine Ah ?_; refine Bg (fun tm' H' => ∃ v15 : List UInt8, H = H' ∧ tm' 0 = .sl 2 (a0.map fun x => [.v (str x.fType), .v (str x.A7)]) ∧ tm' 3 = .v (str v15) ∧ tm' 4 = .v (.int .i64 v7) ∧ E3 a0 v7 v15 = some x5) ?_ fun cb hc14 => ?_
  ·rintro tm14 H14 ⟨v15, rfl, IL, fN, Ul, h⟩
   unfold E3 at h; obtain ⟨g17, h⟩ := Ad.1 h; obtain ⟨g18, h⟩ := gS h; obtain ⟨g19, h⟩ := gS h; refine wF (nd IL (nd fN Ul)) ?_; refine wF (nd IL Ul) ?_; refine wG ?_; obtain ⟨y22, hl22q, hk22⟩ := A4 h; refine AF (fun tm' H' => ∃ v25 : List UInt8, v25 = y22 ∧ H = H' ∧ tm' 0 = .sl 2 (a0.map fun x => [.v (str x.fType), .v (str x.A7)]) ∧ tm' 3 = .v (str v25) ∧ tm' 4 = .v (.int .i64 v7)) ?_ fun cb hc22 => ?_
   ·rintro tm22e H22e ⟨v25, rfl, rfl, t0_22e, t3_22e, t4_22e⟩
    have h : Ht v7 v25 = some x5 := hk22; unfold Ht at h; simp -implicitDefEqProofs only [go_sem]; subst hc13; refine vF t4_22e ?_; obtain rfl := sI h; refine Aj hI5 ((v25, IntKind.i64.wrap (v7 + 1))) ?_; exact smF (nd t0_22e t3_22e)
   refine Ah ?_; refine Az (fun (s : (List UInt8) × Int) tm' H' => H = H' ∧ tm' 0 = .sl 2 (a0.map fun x => [.v (str x.fType), .v (str x.A7)]) ∧ tm' 3 = .v (str s.1) ∧ tm' 4 = .v (.int .i64 v7) ∧ tm' 5 = .v (str ((a0.getD v7.toNat S89.zero).A7)) ∧ tm' 6 = .v (.int .i64 s.2)) hl22q ?_ ?_
   ·exact smF (nd IL Ul)
   rintro I22 hI22 ⟨v23, v24⟩ x22 tm22 H22 ⟨rfl, EF, EG, EH, Cd, C5⟩ h hret22
   replace h : De a0 v7 v23 v24 = some x22 := h; unfold De at h; refine A3 fun cb hc26 => ?_; refine wF (nd Cd C5) ?_; refine A8 h eA rfl ?_ ?_
   ·intro c28 h; simp (disch := omega) at c28; refine vO ?_; subst hc26; refine A3 fun cb hc29 => ?_; refine Ah ?_; obtain ⟨g31, h⟩ := Ad.1 h; obtain ⟨g32, h⟩ := Ad.1 h; obtain ⟨g33, h⟩ := gS h; refine wF (nd Cd C5) ?_; refine Ah ?_; refine A3 fun cb hc34 => ?_; obtain ⟨g35, h⟩ := gS h; refine vF (nd Cd C5) ?_; refine A6 h eA ?_ ?_
    ·intro c67 h; simp (disch := omega) at c67; refine sG ?_; subst hc34; refine Ai eA rfl ?_; obtain ⟨g36, h⟩ := gS h; refine vF (nd EG (nd Cd C5)) ?_; obtain ⟨x37, hx37, h⟩ := A4 h; refine Aa.eqA eA (Qf (((((a0.getD v7.toNat S89.zero).A7).getD v24.toNat 0).toNat : Int)) hx37 ?_); obtain ⟨g38, h⟩ := gS h; refine sG ?_; subst hc29; refine vF C5 ?_; obtain rfl := sI h; refine Aj hI22 (((v23 ++ ([92])) ++ x37, IntKind.i64.wrap (v24 + 1))) ?_; exact smF (nd EF (nd EH Cd))
    intro c67 h; simp (disch := omega) at c67; refine sF (nd Cd C5) ?_; subst hc34; refine A8 h eA rfl ?_ ?_
    ·intro c39 h; simp (disch := omega) at c39; obtain ⟨g40, h⟩ := gS h; refine vF (nd EG (nd Cd C5)) ?_; obtain ⟨x41, hx41, h⟩ := A4 h; refine Aa.eqA eA (Qf (((((a0.getD v7.toNat S89.zero).A7).getD v24.toNat 0).toNat : Int)) hx41 ?_); obtain ⟨g42, h⟩ := gS h; refine sG ?_; subst hc29; refine vF C5 ?_; obtain rfl := sI h; refine Aj hI22 (((v23 ++ ([92])) ++ x41, IntKind.i64.wrap (v24 + 1))) ?_; exact smF (nd EF (nd EH Cd))
    intro c39 h; simp (disch := omega) at c39; refine A3 fun cb hc43 => ?_; refine vF (nd Cd C5) ?_; obtain ⟨x44, hx44, h⟩ := A4 h; refine Aa.eqA eA (MR (((((a0.getD v7.toNat S89.zero).A7).getD v24.toNat 0).toNat : Int)) hx44 ?_); refine sG ?_; refine A6 h eA ?_ ?_
    ·intro c66 h; refine sG ?_; subst hc43; refine Ai eA rfl ?_; obtain ⟨g45, h⟩ := gS h; obtain ⟨g46, h⟩ := gS h; refine vF EG ?_; subst hc29; refine vF C5 ?_; obtain rfl := sI h; refine Aj hI22 (((v23 ++ ([92])) ++ ((((a0.getD v7.toNat S89.zero).A7).take (IntKind.i64.wrap (v24 + 1)).toNat).drop v24.toNat), IntKind.i64.wrap (v24 + 1))) ?_; exact smF (nd EF (nd EH Cd))
    intro c66 h; simp (disch := omega) at c66; refine sF C5 ?_; refine A6 h rfl ?_ ?_
    ·intro c65 h; refine sG ?_; refine A6 h eA ?_ ?_
     ·intro c58 h; simp (disch := omega) at c58; refine sG ?_; subst hc43; refine Ai eA rfl ?_; obtain ⟨g47, h⟩ := gS h; obtain ⟨g48, h⟩ := gS h; refine v0 ?_; simp -implicitDefEqProofs (disch := omega) [go_sem] at g48; refine sF EG ?_; subst hc29; refine vF C5 ?_; obtain rfl := sI h; refine Aj hI22 (((v23 ++ ([92])) ++ ((((a0.getD v7.toNat S89.zero).A7).take (IntKind.i64.wrap (v24 + 1)).toNat).drop v24.toNat), IntKind.i64.wrap (v24 + 1))) ?_; exact smF (nd EF (nd EH Cd))
     intro c58 h; simp (disch := omega) at c58; refine sG ?_; refine A6 h eA ?_ ?_
     ·intro c57 h; simp (disch := omega) at c57; refine sG ?_; subst hc43; refine Ai eA rfl ?_; obtain ⟨g49, h⟩ := gS h; obtain ⟨g50, h⟩ := gS h; refine v0 ?_; simp -implicitDefEqProofs (disch := omega) [go_sem] at g50; refine sF EG ?_; subst hc29; refine vF C5 ?_; obtain rfl := sI h; refine Aj hI22 (((v23 ++ ([92])) ++ ((((a0.getD v7.toNat S89.zero).A7).take (IntKind.i64.wrap (v24 + 1)).toNat).drop v24.toNat), IntKind.i64.wrap (v24 + 1))) ?_; exact smF (nd EF (nd EH Cd))
     intro c57 h; simp (disch := omega) at c57; refine sF (nd Cd C5) ?_; refine A6 h eA ?_ ?_
     ·intro c56 h; simp (disch := omega) at c56; refine sG ?_; subst hc43; refine A8 h eA rfl ?_ ?_
      ·intro c51 h; simp (disch := omega) at c51; obtain ⟨g52, h⟩ := gS h; obtain ⟨g53, h⟩ := gS h; refine v0 ?_; simp -implicitDefEqProofs (disch := omega) [go_sem] at g53; refine sF EG ?_; subst hc29; refine vF C5 ?_; obtain rfl := sI h; refine Aj hI22 (((v23 ++ ([92])) ++ ((((a0.getD v7.toNat S89.zero).A7).take (IntKind.i64.wrap (v24 + 1)).toNat).drop v24.toNat), IntKind.i64.wrap (v24 + 1))) ?_; exact smF (nd EF (nd EH Cd))
      intro c51 h; simp (disch := omega) at c51; obtain ⟨g54, h⟩ := gS h; refine v0 ?_; simp -implicitDefEqProofs (disch := omega) [go_sem] at g54; refine sF EG ?_; subst hc29; refine vF C5 ?_; obtain rfl := sI h; refine Aj hI22 ((v23 ++ ((((a0.getD v7.toNat S89.zero).A7).take (IntKind.i64.wrap (v24 + 1)).toNat).drop v24.toNat), IntKind.i64.wrap (v24 + 1))) ?_; exact smF (nd EF (nd EH Cd))
     intro c56 h; simp (disch := omega) at c56; refine sG ?_; subst hc43; refine Al eA rfl ?_; obtain ⟨g55, h⟩ := gS h; refine v0 ?_; simp -implicitDefEqProofs (disch := omega) [go_sem] at g55; refine sF EG ?_; subst hc29; refine vF C5 ?_; obtain rfl := sI h; refine Aj hI22 ((v23 ++ ((((a0.getD v7.toNat S89.zero).A7).take (IntKind.i64.wrap (v24 + 1)).toNat).drop v24.toNat), IntKind.i64.wrap (v24 + 1))) ?_; exact smF (nd EF (nd EH Cd))
    intro c65 h; refine sF (nd Cd C5) ?_; refine A6 h eA ?_ ?_
    ·intro c64 h; simp (disch := omega) at c64; refine sG ?_; subst hc43; refine A8 h eA rfl ?_ ?_
     ·intro c59 h; simp (disch := omega) at c59; obtain ⟨g60, h⟩ := gS h; obtain ⟨g61, h⟩ := gS h; refine vF EG ?_; subst hc29; refine vF C5 ?_; obtain rfl := sI h; refine Aj hI22 (((v23 ++ ([92])) ++ ((((a0.getD v7.toNat S89.zero).A7).take (IntKind.i64.wrap (v24 + 1)).toNat).drop v24.toNat), IntKind.i64.wrap (v24 + 1))) ?_; exact smF (nd EF (nd EH Cd))
     intro c59 h; simp (disch := omega) at c59; obtain ⟨g62, h⟩ := gS h; refine vF EG ?_; subst hc29; refine vF C5 ?_; obtain rfl := sI h; refine Aj hI22 ((v23 ++ ((((a0.getD v7.toNat S89.zero).A7).take (IntKind.i64.wrap (v24 + 1)).toNat).drop v24.toNat), IntKind.i64.wrap (v24 + 1))) ?_; exact smF (nd EF (nd EH Cd))
    intro c64 h; simp (disch := omega) at c64; refine sG ?_; subst hc43; refine Al eA rfl ?_; obtain ⟨g63, h⟩ := gS h; refine vF EG ?_; subst hc29; refine vF C5 ?_; obtain rfl := sI h; refine Aj hI22 ((v23 ++ ((((a0.getD v7.toNat S89.zero).A7).take (IntKind.i64.wrap (v24 + 1)).toNat).drop v24.toNat), IntKind.i64.wrap (v24 + 1))) ?_; exact smF (nd EF (nd EH Cd))
   intro c28 h; simp (disch := omega) at c28; refine vO ?_; obtain rfl := sI h; have hy22 := hret22 _ rfl; refine hc22 _ _ ?_; refine .same ⟨v23, hy22, rfl, ?_, ?_, ?_⟩ <;> (simp -implicitDefEqProofs (disch := omega) [go_sem, EF, EG, EH] <;> omega)
  refine wF He ?_; refine A8 h eA rfl ?_ ?_
  ·intro c69 h; obtain ⟨g70, h⟩ := gS h; refine vF EJ ?_; refine hc14 _ _ ?_; refine .same ⟨(v6 ++ ([44])), rfl, ?_, ?_, ?_, h⟩ <;> (simp -implicitDefEqProofs (disch := omega) [go_sem, D1, He] <;> omega)
  intro c69 h; simp (disch := omega) at c69; refine vO ?_; refine hc14 _ _ ?_; refine .same ⟨v6, rfl, ?_, ?_, ?_, h⟩ <;> (simp -implicitDefEqProofs (disch := omega) [go_sem, D1, EJ, He] <;> omega)
 intro c12 h; simp (disch := omega) at c12; refine vO ?_; obtain rfl := sI h; have hy5 := hret5 _ rfl; refine hc5 _ _ ?_; refine .same ⟨v6, hy5, rfl, by (simp -implicitDefEqProofs (disch := omega) [go_sem, EJ] <;> omega)⟩
noncomputable def F67 (a0 : List UInt8) : Option (S33 × Bool) :=
 (Pn a0).bind fun (x4 : (List UInt8) × (List UInt8) × Bool) => (Pn x4.2.1).bind fun (x6 : (List UInt8) × (List UInt8) × Bool) => (Pn x6.2.1).bind fun (x8 : (List UInt8) × (List UInt8) × Bool) => (Uj x8.1).bind fun (x10 : (List S89) × Bool) => (F68 x8.2.1).bind fun (x12 : (List (List (List UInt8))) × Bool) => gd (x12.1.length = 8) (if ¬ (x4.2.2 = true) then (some (((⟨[], [], [], [[], [], [], [], [], [], [], []]⟩ : S33), false))) else (if ¬ (x6.2.2 = true) then (some (((⟨[], [], [], [[], [], [], [], [], [], [], []]⟩ : S33), false))) else (if ¬ (x8.2.2 = true) then (some (((⟨[], [], [], [[], [], [], [], [], [], [], []]⟩ : S33), false))) else (if ¬ (x10.2 = true) then (some (((⟨[], [], [], [[], [], [], [], [], [], [], []]⟩ : S33), false))) else (if ¬ (x12.2 = true) then (some (((⟨[], [], [], [[], [], [], [], [], [], [], []]⟩ : S33), false))) else ((Uk x10.1).bind fun (x21 : (List UInt8)) => if ¬ x21 = x8.1 then (some (((⟨[], [], [], [[], [], [], [], [], [], [], []]⟩ : S33), false))) else ((F41 (⟨x4.1, x6.1, x10.1, x12.1⟩ : S33)).bind fun (x26 : Bool) => some (((⟨x4.1, x6.1, x10.1, x12.1⟩ : S33), x26)))))))))
theorem ZM {H : A2} {K : Au → A2 → Prop} (a0 : List UInt8) {r : S33 × Bool} (h : F67 a0 = some r) (hK : K (.ret (.tu [.ag (.v (str r.1.A9) :: .v (str r.1.Ac) :: .sl 2 (r.1.fDn.map fun x => [.v (str x.fType), .v (str x.A7)]) :: (r.1.A5.map fun x => .sl 1 (x.map fun x => [.v (str x)]))), .v (.bool r.2)])) H) : Aa prog 67 [.v (str a0)] H K := by
 refine Ag (N := 77) func67 (by kernel_rfl) rfl (by kernel_rfl) (by kernel_rfl) fun cb hcb hw hbd hnb => ?_; clear hbd hnb; subst hcb; unfold F67 at h; refine wG ?_; refine A3 fun cb hc2 => ?_; refine v0 ?_; simp -implicitDefEqProofs (disch := omega) [go_sem, bdP]; subst hc2; refine A3 fun cb hc3 => ?_; refine vG ?_; obtain ⟨x4, hx4, h⟩ := A4 h; refine MQ a0 hx4 ?_; refine sG ?_; subst hc3; refine A3 fun cb hc5 => ?_; refine vG ?_; obtain ⟨x6, hx6, h⟩ := A4 h; refine MQ x4.2.1 hx6 ?_; refine sG ?_; subst hc5; refine A3 fun cb hc7 => ?_; refine vG ?_; obtain ⟨x8, hx8, h⟩ := A4 h; refine MQ x6.2.1 hx8 ?_; refine sG ?_; subst hc7; refine A3 fun cb hc9 => ?_; refine vG ?_; obtain ⟨x10, hx10, h⟩ := A4 h; refine Wr x8.1 hx10 ?_; refine sG ?_; subst hc9; refine A3 fun cb hc11 => ?_; refine vG ?_; obtain ⟨x12, hx12, h⟩ := A4 h; refine U7 x8.2.1 hx12 ?_; obtain ⟨g13, h⟩ := Ad.1 h; refine sF g13 ?_; subst hc11; refine A3 fun cb hc14 => ?_; refine A3 fun cb hc15 => ?_; refine vG ?_; refine A6 h eA ?_ ?_
 ·intro c31 h; simp (disch := omega) at c31; refine sG ?_; subst hc15; refine Ai eA rfl ?_; refine wG ?_; refine vO ?_; obtain rfl := sI h; refine sG ?_; refine Aq (J := H) (r' := _) (Ext.Bp (by exact As (Ext.refl hw))) eA (.wk _ (.tu [.ag ([.v (str []), .v (str []), .sl 2 (([] : List S89).map fun x => [.v (str x.fType), .v (str x.A7)]), .sl 1 ((([] : List (List UInt8))).map fun x => [.v (str x)]), .sl 1 ((([] : List (List UInt8))).map fun x => [.v (str x)]), .sl 1 ((([] : List (List UInt8))).map fun x => [.v (str x)]), .sl 1 ((([] : List (List UInt8))).map fun x => [.v (str x)]), .sl 1 ((([] : List (List UInt8))).map fun x => [.v (str x)]), .sl 1 ((([] : List (List UInt8))).map fun x => [.v (str x)]), .sl 1 ((([] : List (List UInt8))).map fun x => [.v (str x)]), .sl 1 ((([] : List (List UInt8))).map fun x => [.v (str x)])]), .v (.bool false)]) (by repeat (first | exact WkL.nil | refine WkL.cons ?_ ?_ | exact Wk.refl _ | exact Wk.nil _ | refine Wk.agL ?_ | refine Wk.tuL ?_)) (by exact nbA)) hK
 intro c31 h; simp (disch := omega) at c31; refine sG ?_; refine A6 h eA ?_ ?_
 ·intro c30 h; simp (disch := omega) at c30; refine sG ?_; subst hc15; refine Ai eA rfl ?_; refine wG ?_; refine vO ?_; obtain rfl := sI h; refine sG ?_; refine Aq (J := H) (r' := _) (Ext.Bp (by exact As (Ext.refl hw))) eA (.wk _ (.tu [.ag ([.v (str []), .v (str []), .sl 2 (([] : List S89).map fun x => [.v (str x.fType), .v (str x.A7)]), .sl 1 ((([] : List (List UInt8))).map fun x => [.v (str x)]), .sl 1 ((([] : List (List UInt8))).map fun x => [.v (str x)]), .sl 1 ((([] : List (List UInt8))).map fun x => [.v (str x)]), .sl 1 ((([] : List (List UInt8))).map fun x => [.v (str x)]), .sl 1 ((([] : List (List UInt8))).map fun x => [.v (str x)]), .sl 1 ((([] : List (List UInt8))).map fun x => [.v (str x)]), .sl 1 ((([] : List (List UInt8))).map fun x => [.v (str x)]), .sl 1 ((([] : List (List UInt8))).map fun x => [.v (str x)])]), .v (.bool false)]) (by repeat (first | exact WkL.nil | refine WkL.cons ?_ ?_ | exact Wk.refl _ | exact Wk.nil _ | refine Wk.agL ?_ | refine Wk.tuL ?_)) (by exact nbA)) hK
 intro c30 h; simp (disch := omega) at c30; refine sG ?_; refine A6 h eA ?_ ?_
 ·intro c29 h; simp (disch := omega) at c29; refine sG ?_; subst hc15; refine Ai eA rfl ?_; refine wG ?_; refine vO ?_; obtain rfl := sI h; refine sG ?_; refine Aq (J := H) (r' := _) (Ext.Bp (by exact As (Ext.refl hw))) eA (.wk _ (.tu [.ag ([.v (str []), .v (str []), .sl 2 (([] : List S89).map fun x => [.v (str x.fType), .v (str x.A7)]), .sl 1 ((([] : List (List UInt8))).map fun x => [.v (str x)]), .sl 1 ((([] : List (List UInt8))).map fun x => [.v (str x)]), .sl 1 ((([] : List (List UInt8))).map fun x => [.v (str x)]), .sl 1 ((([] : List (List UInt8))).map fun x => [.v (str x)]), .sl 1 ((([] : List (List UInt8))).map fun x => [.v (str x)]), .sl 1 ((([] : List (List UInt8))).map fun x => [.v (str x)]), .sl 1 ((([] : List (List UInt8))).map fun x => [.v (str x)]), .sl 1 ((([] : List (List UInt8))).map fun x => [.v (str x)])]), .v (.bool false)]) (by repeat (first | exact WkL.nil | refine WkL.cons ?_ ?_ | exact Wk.refl _ | exact Wk.nil _ | refine Wk.agL ?_ | refine Wk.tuL ?_)) (by exact nbA)) hK
 intro c29 h; simp (disch := omega) at c29; refine sG ?_; refine A6 h eA ?_ ?_
 ·intro c28 h; simp (disch := omega) at c28; refine sG ?_; subst hc15; refine Ai eA rfl ?_; refine wG ?_; refine vO ?_; obtain rfl := sI h; refine sG ?_; refine Aq (J := H) (r' := _) (Ext.Bp (by exact As (Ext.refl hw))) eA (.wk _ (.tu [.ag ([.v (str []), .v (str []), .sl 2 (([] : List S89).map fun x => [.v (str x.fType), .v (str x.A7)]), .sl 1 ((([] : List (List UInt8))).map fun x => [.v (str x)]), .sl 1 ((([] : List (List UInt8))).map fun x => [.v (str x)]), .sl 1 ((([] : List (List UInt8))).map fun x => [.v (str x)]), .sl 1 ((([] : List (List UInt8))).map fun x => [.v (str x)]), .sl 1 ((([] : List (List UInt8))).map fun x => [.v (str x)]), .sl 1 ((([] : List (List UInt8))).map fun x => [.v (str x)]), .sl 1 ((([] : List (List UInt8))).map fun x => [.v (str x)]), .sl 1 ((([] : List (List UInt8))).map fun x => [.v (str x)])]), .v (.bool false)]) (by repeat (first | exact WkL.nil | refine WkL.cons ?_ ?_ | exact Wk.refl _ | exact Wk.nil _ | refine Wk.agL ?_ | refine Wk.tuL ?_)) (by exact nbA)) hK
 intro c28 h; simp (disch := omega) at c28; refine sG ?_; refine A6 h eA ?_ ?_
 ·intro c27 h; simp (disch := omega) at c27; refine sG ?_; subst hc15; refine Ai eA rfl ?_; refine wG ?_; refine vO ?_; obtain rfl := sI h; refine sG ?_; refine Aq (J := H) (r' := _) (Ext.Bp (by exact As (Ext.refl hw))) eA (.wk _ (.tu [.ag ([.v (str []), .v (str []), .sl 2 (([] : List S89).map fun x => [.v (str x.fType), .v (str x.A7)]), .sl 1 ((([] : List (List UInt8))).map fun x => [.v (str x)]), .sl 1 ((([] : List (List UInt8))).map fun x => [.v (str x)]), .sl 1 ((([] : List (List UInt8))).map fun x => [.v (str x)]), .sl 1 ((([] : List (List UInt8))).map fun x => [.v (str x)]), .sl 1 ((([] : List (List UInt8))).map fun x => [.v (str x)]), .sl 1 ((([] : List (List UInt8))).map fun x => [.v (str x)]), .sl 1 ((([] : List (List UInt8))).map fun x => [.v (str x)]), .sl 1 ((([] : List (List UInt8))).map fun x => [.v (str x)])]), .v (.bool false)]) (by repeat (first | exact WkL.nil | refine WkL.cons ?_ ?_ | exact Wk.refl _ | exact Wk.nil _ | refine Wk.agL ?_ | refine Wk.tuL ?_)) (by exact nbA)) hK
 intro c27 h; simp (disch := omega) at c27; refine sG ?_; obtain ⟨x21, hx21, h⟩ := A4 h; refine Ws x10.1 hx21 ?_; refine sG ?_; subst hc15; refine A8 h eA rfl ?_ ?_
 ·intro c22 h; refine wG ?_; refine vO ?_; obtain rfl := sI h; refine sG ?_; refine Aq (J := H) (r' := _) (Ext.Bp (by exact As (Ext.refl hw))) eA (.wk _ (.tu [.ag ([.v (str []), .v (str []), .sl 2 (([] : List S89).map fun x => [.v (str x.fType), .v (str x.A7)]), .sl 1 ((([] : List (List UInt8))).map fun x => [.v (str x)]), .sl 1 ((([] : List (List UInt8))).map fun x => [.v (str x)]), .sl 1 ((([] : List (List UInt8))).map fun x => [.v (str x)]), .sl 1 ((([] : List (List UInt8))).map fun x => [.v (str x)]), .sl 1 ((([] : List (List UInt8))).map fun x => [.v (str x)]), .sl 1 ((([] : List (List UInt8))).map fun x => [.v (str x)]), .sl 1 ((([] : List (List UInt8))).map fun x => [.v (str x)]), .sl 1 ((([] : List (List UInt8))).map fun x => [.v (str x)])]), .v (.bool false)]) (by repeat (first | exact WkL.nil | refine WkL.cons ?_ ?_ | exact Wk.refl _ | exact Wk.nil _ | refine Wk.agL ?_ | refine Wk.tuL ?_)) (by exact nbA)) hK
 intro c22 h; simp (disch := omega) at c22; refine vO ?_; subst hc14; refine A3 fun cb hc24 => ?_; refine v0 ?_; simp -implicitDefEqProofs (disch := omega) [go_sem, bdP, g13]; subst hc24; refine A3 fun cb hc25 => ?_; refine AB [2] [0, 1, 2, 3, 4] (by kernel_rfl) (by kernel_rfl) (fun _ _ _ _ h => h) ?_; refine sF g13 ?_; obtain ⟨x26, hx26, h⟩ := A4 h; refine BS.mk _ (fun _ _ hK => Aa.wkL (args' := [.ag (.v (str ((⟨x4.1, x6.1, x10.1, x12.1⟩ : S33).A9)) :: .v (str ((⟨x4.1, x6.1, x10.1, x12.1⟩ : S33).Ac)) :: .sl 2 (((⟨x4.1, x6.1, x10.1, x12.1⟩ : S33).fDn).map fun x => [.v (str x.fType), .v (str x.A7)]) :: (((⟨x4.1, x6.1, x10.1, x12.1⟩ : S33).A5).map fun x => .sl 1 (x.map fun x => [.v (str x)])))]) (by repeat (first | exact WkL.nil | refine WkL.cons ?_ ?_ | exact Wk.refl _)) (Z8 (⟨x4.1, x6.1, x10.1, x12.1⟩ : S33) hx26 hK)) ?_; subst hc25; refine vO ?_; obtain rfl := sI h; refine sF g13 ?_; exact Ap (.refl hw) hK
end Go.Idl
namespace Go.Idl
set_option maxHeartbeats 8000000
set_option pp.deepTerms false
set_option maxRecDepth 60000
open Go Go.Proofs.Tryz
noncomputable def Kz (v11 : List S39) (v12 : S33) (v13 : S33) : Option ((List S39) × S33 × Bool) :=
 gd (v13.A5.length = 8) (gd (v12.A5.length = 8) (some (v11, v13, true)))
noncomputable def Ji (a0 : List S78) (v7 : List S39) (v8 : Int) (v9 : S33) (v10 : S33) (v27 : Int) : Option (((List S39) × Int × S33 × S33) ⊕ (((List S39) × S33 × S33) ⊕ ((List S39) × S33 × Bool))) :=
 if ((((a0.getD v8.toNat S78.zero).Ba).length : Int)) < 1 then (gd (v9.A5.length = 8) (some (.inr (.inr (([], (⟨[], [], [], [[], [], [], [], [], [], [], []]⟩ : S33), false)))))) else (gd (0 < ((a0.getD v8.toNat S78.zero).Ba).length) (if ¬ (((((a0.getD v8.toNat S78.zero).Ba).getD 0 0).toNat : Int)) = 112 then (gd (v9.A5.length = 8) (some (.inr (.inr (([], (⟨[], [], [], [[], [], [], [], [], [], [], []]⟩ : S33), false)))))) else (if ((((a0.getD v8.toNat S78.zero).A7).length : Int)) ≤ v27 then (gd (v9.A5.length = 8) (some (.inr (.inr (([], (⟨[], [], [], [[], [], [], [], [], [], [], []]⟩ : S33), false)))))) else (gd (0 ≤ (IntKind.i64.wrap (v27 + 1))) (gd (IntKind.i64.wrap (v27 + 1) ≤ ((a0.getD v8.toNat S78.zero).A7).length) ((F68 (((a0.getD v8.toNat S78.zero).A7).drop (IntKind.i64.wrap (v27 + 1)).toNat)).bind fun (x41 : (List (List (List UInt8))) × Bool) => gd (x41.1.length = 8) (gd (1 ≤ ((a0.getD v8.toNat S78.zero).Ba).length) (gd (0 ≤ v27) (gd (v27 ≤ ((a0.getD v8.toNat S78.zero).A7).length) ((F38 v7 ((⟨((a0.getD v8.toNat S78.zero).Ba).drop 1, (((a0.getD v8.toNat S78.zero).A7).take v27.toNat), x41.1⟩ : S39))).bind fun (x47 : (List S39) × Int) => if ¬ (x41.2 = true) then (gd (v9.A5.length = 8) (some (.inr (.inr (([], (⟨[], [], [], [[], [], [], [], [], [], [], []]⟩ : S33), false)))))) else (if ¬ x47.2 = 0 then (gd (v9.A5.length = 8) (some (.inr (.inr (([], (⟨[], [], [], [[], [], [], [], [], [], [], []]⟩ : S33), false)))))) else (some (.inl ((x47.1, IntKind.i64.wrap (v8 + 1), v9, v10)))))))))))))))
noncomputable def Ex (a0 : List S78) (v8 : Int) (v26 : Int) : Option (Int ⊕ Int) :=
 if v26 < ((((a0.getD v8.toNat S78.zero).A7).length : Int)) then (gd (0 ≤ v26 ∧ v26 < ((a0.getD v8.toNat S78.zero).A7).length) (if ¬ (((((a0.getD v8.toNat S78.zero).A7).getD v26.toNat 0).toNat : Int)) = 10 then (some (.inl (IntKind.i64.wrap (v26 + 1)))) else (some (.inr v26)))) else (some (.inr v26))
noncomputable def Dz (a0 : List S78) (v7 : List S39) (v8 : Int) (v9 : S33) (v10 : S33) : Option (((List S39) × Int × S33 × S33) ⊕ (((List S39) × S33 × S33) ⊕ ((List S39) × S33 × Bool))) :=
 (AD (fun (s : Int) => Ex a0 v8 s) 0).bind fun (e : Int) => Ji a0 v7 v8 v9 v10 e
noncomputable def Fj (a0 : List S78) (v7 : List S39) (v8 : Int) (v9 : S33) (v10 : S33) : Option (((List S39) × Int × S33 × S33) ⊕ (((List S39) × S33 × S33) ⊕ ((List S39) × S33 × Bool))) :=
 if v8 < (a0.length : Int) then (gd (0 ≤ v8 ∧ v8 < a0.length) (if ((a0.getD v8.toNat S78.zero).Ba) = ([105]) then (if v10.A9 = [] then ((F67 ((a0.getD v8.toNat S78.zero).A7)).bind fun (x66 : S33 × Bool) => gd (x66.1.A5.length = 8) (if ¬ (x66.2 = true) then (gd (v9.A5.length = 8) (some (.inr (.inr (([], (⟨[], [], [], [[], [], [], [], [], [], [], []]⟩ : S33), false)))))) else (gd (v10.A5.length = 8) (some (.inl ((v7, IntKind.i64.wrap (v8 + 1), v9, x66.1))))))) else (Dz a0 v7 v8 v9 v10)) else (Dz a0 v7 v8 v9 v10))) else (some (.inr (.inl (v7, v9, v10))))
noncomputable def F36 (a0 : List S78) : Option ((List S39) × S33 × Bool) :=
 (AD (fun (s : (List S39) × Int × S33 × S33) => Fj a0 s.1 s.2.1 s.2.2.1 s.2.2.2) ([], 0, (⟨[], [], [], [[], [], [], [], [], [], [], []]⟩ : S33), (⟨[], [], [], [[], [], [], [], [], [], [], []]⟩ : S33))).bind fun y => Sum.elim (fun (e : (List S39) × S33 × S33) => Kz e.1 e.2.1 e.2.2) (fun (q : (List S39) × S33 × Bool) => some q) y
theorem Um {H : A2} {K : Au → A2 → Prop} (a0 : List S78) {r : (List S39) × S33 × Bool} (h : F36 a0 = some r) (hK : K (.ret (.tu [.sl 10 (r.1.map fun x => .v (str x.A9) :: .v (str x.Ac) :: (x.A5.map fun x => .sl 1 (x.map fun x => [.v (str x)]))), .ag (.v (str r.2.1.A9) :: .v (str r.2.1.Ac) :: .sl 2 (r.2.1.fDn.map fun x => [.v (str x.fType), .v (str x.A7)]) :: (r.2.1.A5.map fun x => .sl 1 (x.map fun x => [.v (str x)]))), .v (.bool r.2.2)])) H) : Aa prog 36 [.sl 2 (a0.map fun x => [.v (str x.Ba), .v (str x.A7)])] H K := by
 refine Ag (N := 107) func36 (by kernel_rfl) rfl (by kernel_rfl) (by kernel_rfl) fun cb hcb hw hbd hnb => ?_; clear hbd hnb; subst hcb; unfold F36 at h; refine wG ?_; refine wG ?_; refine A3 fun cb hc3 => ?_; refine v0 ?_; simp -implicitDefEqProofs (disch := omega) [go_sem, bdP]; subst hc3; refine A3 fun cb hc4 => ?_; refine wG ?_; obtain ⟨y6, hl6q, hk6⟩ := A4 h; refine AF (fun tm' H' => ∃ v11 : List S39, ∃ v12 : S33, ∃ v13 : S33, .inl (v11, v12, v13) = y6 ∧ Ext H H' ∧ H.next + 2 ≤ H'.next ∧ tm' 3 = .p H.next 0 ∧ tm' 5 = .sl 10 (v11.map fun x => .v (str x.A9) :: .v (str x.Ac) :: (x.A5.map fun x => .sl 1 (x.map fun x => [.v (str x)]))) ∧ tm' 6 = .p (H.next + 1) 0 ∧ H'.obj H.next = some (.cells (.v (str v12.A9) :: .v (str v12.Ac) :: .sl 2 (v12.fDn.map fun x => [.v (str x.fType), .v (str x.A7)]) :: (v12.A5.map fun x => .sl 1 (x.map fun x => [.v (str x)])))) ∧ H'.obj (H.next + 1) = some (.cells (.v (str v13.A9) :: .v (str v13.Ac) :: .sl 2 (v13.fDn.map fun x => [.v (str x.fType), .v (str x.A7)]) :: (v13.A5.map fun x => .sl 1 (x.map fun x => [.v (str x)]))))) ?_ fun cb hc6 => ?_
 ·rintro tm6e H6e ⟨v11, v12, v13, rfl, he6e, hl6e, t3_6e, t5_6e, t6_6e, ob0_6e, ob1_6e⟩
  have h : Kz v11 v12 v13 = some r := hk6; unfold Kz at h; simp -implicitDefEqProofs only [go_sem]; subst hc4; refine A3 fun cb hc14 => ?_; refine AB [] [0, 1, 2, 3, 4] (by kernel_rfl) (by kernel_rfl) (fun _ _ _ _ h => h) ?_; obtain ⟨g15, h⟩ := Ad.1 h; obtain ⟨g16, h⟩ := Ad.1 h; refine sF (nd t3_6e (nd t5_6e (nd t6_6e (nd ob0_6e (nd ob1_6e (nd g15 g16)))))) ?_; subst hc14; refine vO ?_; obtain rfl := sI h; refine sF (nd t3_6e g15) ?_; refine Ay (As he6e) rfl nbA hK
 refine Ah ?_; refine Az (fun (s : (List S39) × Int × S33 × S33) tm' H' => Ext H H' ∧ H.next + 2 ≤ H'.next ∧ tm' 0 = .sl 2 (a0.map fun x => [.v (str x.Ba), .v (str x.A7)]) ∧ tm' 3 = .p H.next 0 ∧ tm' 5 = .sl 10 (s.1.map fun x => .v (str x.A9) :: .v (str x.Ac) :: (x.A5.map fun x => .sl 1 (x.map fun x => [.v (str x)]))) ∧ tm' 6 = .p (H.next + 1) 0 ∧ tm' 7 = .v (.int .i64 s.2.1) ∧ H'.obj H.next = some (.cells (.v (str s.2.2.1.A9) :: .v (str s.2.2.1.Ac) :: .sl 2 (s.2.2.1.fDn.map fun x => [.v (str x.fType), .v (str x.A7)]) :: (s.2.2.1.A5.map fun x => .sl 1 (x.map fun x => [.v (str x)])))) ∧ H'.obj (H.next + 1) = some (.cells (.v (str s.2.2.2.A9) :: .v (str s.2.2.2.Ac) :: .sl 2 (s.2.2.2.fDn.map fun x => [.v (str x.fType), .v (str x.A7)]) :: (s.2.2.2.A5.map fun x => .sl 1 (x.map fun x => [.v (str x)]))))) hl6q ?_ ?_
 ·refine UpI.gh (Gh.FX 5 10 eA) ?_; refine UpI.gh (Gh.Xg (kb := H.next) (cs := [.v (str []), .v (str []), .v (.slice none 0 0), .v (.slice none 0 0), .v (.slice none 0 0), .v (.slice none 0 0), .v (.slice none 0 0), .v (.slice none 0 0), .v (.slice none 0 0), .v (.slice none 0 0), .v (.slice none 0 0)]) (cs' := [.v (str []), .v (str []), .sl 2 (([] : List S89).map fun x => [.v (str x.fType), .v (str x.A7)]), .sl 1 ((([] : List (List UInt8))).map fun x => [.v (str x)]), .sl 1 ((([] : List (List UInt8))).map fun x => [.v (str x)]), .sl 1 ((([] : List (List UInt8))).map fun x => [.v (str x)]), .sl 1 ((([] : List (List UInt8))).map fun x => [.v (str x)]), .sl 1 ((([] : List (List UInt8))).map fun x => [.v (str x)]), .sl 1 ((([] : List (List UInt8))).map fun x => [.v (str x)]), .sl 1 ((([] : List (List UInt8))).map fun x => [.v (str x)]), .sl 1 ((([] : List (List UInt8))).map fun x => [.v (str x)])]) eA (by repeat (first | exact WkL.nil | refine WkL.cons ?_ ?_ | exact Wk.refl _ | exact Wk.nil _))) ?_; refine UpI.gh (Gh.Xg (kb := H.next + 1) (cs := [.v (str []), .v (str []), .v (.slice none 0 0), .v (.slice none 0 0), .v (.slice none 0 0), .v (.slice none 0 0), .v (.slice none 0 0), .v (.slice none 0 0), .v (.slice none 0 0), .v (.slice none 0 0), .v (.slice none 0 0)]) (cs' := [.v (str []), .v (str []), .sl 2 (([] : List S89).map fun x => [.v (str x.fType), .v (str x.A7)]), .sl 1 ((([] : List (List UInt8))).map fun x => [.v (str x)]), .sl 1 ((([] : List (List UInt8))).map fun x => [.v (str x)]), .sl 1 ((([] : List (List UInt8))).map fun x => [.v (str x)]), .sl 1 ((([] : List (List UInt8))).map fun x => [.v (str x)]), .sl 1 ((([] : List (List UInt8))).map fun x => [.v (str x)]), .sl 1 ((([] : List (List UInt8))).map fun x => [.v (str x)]), .sl 1 ((([] : List (List UInt8))).map fun x => [.v (str x)]), .sl 1 ((([] : List (List UInt8))).map fun x => [.v (str x)])]) eA (by repeat (first | exact WkL.nil | refine WkL.cons ?_ ?_ | exact Wk.refl _ | exact Wk.nil _))) ?_; refine .same ⟨by exact As (Ext.refl hw), by (simp -implicitDefEqProofs (disch := omega) [go_sem] <;> omega), ?_, ?_, ?_, ?_, ?_, ?_, ?_⟩ <;> (simp -implicitDefEqProofs (disch := omega) [go_sem] <;> omega)
 rintro I6 hI6 ⟨v7, v8, v9, v10⟩ x6 tm6 H6 ⟨he6, hl6, Ky, KX, Rs, Ry, Un, Dd, IP⟩ h hret6
 replace h : Fj a0 v7 v8 v9 v10 = some x6 := h; unfold Fj at h; refine A3 fun cb hc17 => ?_; refine wF (nd Ky Un) ?_; refine A8 h eA rfl ?_ ?_
 ·intro c19 h; refine vO ?_; subst hc17; refine A3 fun cb hc20 => ?_; refine Ah ?_; refine A3 fun cb hc21 => ?_; refine AB [] [0, 1, 2, 3, 4, 5, 6, 7, 8, 9, 10, 11] (by kernel_rfl) (by kernel_rfl) (fun _ _ _ _ h => h) ?_; obtain ⟨g22, h⟩ := Ad.1 h; refine sF (nd Ky Un) ?_; subst hc21; refine Bg (fun tm' H' => H6 = H' ∧ tm' 0 = .sl 2 (a0.map fun x => [.v (str x.Ba), .v (str x.A7)]) ∧ tm' 3 = .p H.next 0 ∧ tm' 5 = .sl 10 (v7.map fun x => .v (str x.A9) :: .v (str x.Ac) :: (x.A5.map fun x => .sl 1 (x.map fun x => [.v (str x)]))) ∧ tm' 6 = .p (H.next + 1) 0 ∧ tm' 7 = .v (.int .i64 v8) ∧ tm' 8 = .v (str ((a0.getD v8.toNat S78.zero).Ba)) ∧ tm' 9 = .v (str ((a0.getD v8.toNat S78.zero).A7)) ∧ Dz a0 v7 v8 v9 v10 = some x6) ?_ fun cb hc23 => ?_
  ·rintro tm23 H23 ⟨rfl, fO, fQ, fR, fS, fT, fU, fV, h⟩
   unfold Dz at h; refine wG ?_; obtain ⟨y25, hl25q, hk25⟩ := A4 h; refine Bg (fun tm' H' => ∃ v27 : Int, v27 = y25 ∧ H6 = H' ∧ tm' 0 = .sl 2 (a0.map fun x => [.v (str x.Ba), .v (str x.A7)]) ∧ tm' 3 = .p H.next 0 ∧ tm' 5 = .sl 10 (v7.map fun x => .v (str x.A9) :: .v (str x.Ac) :: (x.A5.map fun x => .sl 1 (x.map fun x => [.v (str x)]))) ∧ tm' 6 = .p (H.next + 1) 0 ∧ tm' 7 = .v (.int .i64 v8) ∧ tm' 8 = .v (str ((a0.getD v8.toNat S78.zero).Ba)) ∧ tm' 9 = .v (str ((a0.getD v8.toNat S78.zero).A7)) ∧ tm' 12 = .v (.int .i64 v27)) ?_ fun cb hc25 => ?_
   ·rintro tm25e H25e ⟨v27, rfl, rfl, t0_25e, t3_25e, t5_25e, t6_25e, t7_25e, t8_25e, t9_25e, t12_25e⟩
    have h : Ji a0 v7 v8 v9 v10 v27 = some x6 := hk25; unfold Ji at h; refine A3 fun cb hc28 => ?_; refine A3 fun cb hc29 => ?_; refine vF t8_25e ?_; refine A6 h eA ?_ ?_
    ·intro c57 h; simp (disch := omega) at c57; refine sG ?_; subst hc29; refine Ai eA rfl ?_; refine A3 fun cb hc30 => ?_; obtain ⟨g31, h⟩ := Ad.1 h; refine v0 ?_; simp -implicitDefEqProofs (disch := omega) [go_sem, bdP, t3_25e, Dd, g31]; subst hc30; refine IWp.gh (Gh.FX 2 10 eA) ?_; refine vO ?_; obtain rfl := sI h; obtain rfl := hret6 _ rfl; replace h : some (([], (⟨[], [], [], [[], [], [], [], [], [], [], []]⟩ : S33), false)) = some r := hk6; obtain rfl := sI h; refine sF t3_25e ?_; refine Aq (J := H) (r' := _) (Ext.Bp (As he6)) eA (.wk _ (.tu [.sl 10 (([] : List S39).map fun x => .v (str x.A9) :: .v (str x.Ac) :: (x.A5.map fun x => .sl 1 (x.map fun x => [.v (str x)]))), .ag ([.v (str []), .v (str []), .sl 2 (([] : List S89).map fun x => [.v (str x.fType), .v (str x.A7)]), .sl 1 ((([] : List (List UInt8))).map fun x => [.v (str x)]), .sl 1 ((([] : List (List UInt8))).map fun x => [.v (str x)]), .sl 1 ((([] : List (List UInt8))).map fun x => [.v (str x)]), .sl 1 ((([] : List (List UInt8))).map fun x => [.v (str x)]), .sl 1 ((([] : List (List UInt8))).map fun x => [.v (str x)]), .sl 1 ((([] : List (List UInt8))).map fun x => [.v (str x)]), .sl 1 ((([] : List (List UInt8))).map fun x => [.v (str x)]), .sl 1 ((([] : List (List UInt8))).map fun x => [.v (str x)])]), .v (.bool false)]) (by repeat (first | exact WkL.nil | refine WkL.cons ?_ ?_ | exact Wk.refl _ | exact Wk.nil _ | refine Wk.agL ?_ | refine Wk.tuL ?_)) (by exact nbA)) hK
    intro c57 h; simp (disch := omega) at c57; obtain ⟨g32, h⟩ := gS h; refine sF t8_25e ?_; refine A6 h eA ?_ ?_
    ·intro c56 h; simp (disch := omega) at c56; refine sG ?_; subst hc29; refine Ai eA rfl ?_; refine A3 fun cb hc33 => ?_; obtain ⟨g34, h⟩ := Ad.1 h; refine v0 ?_; simp -implicitDefEqProofs (disch := omega) [go_sem, bdP, t3_25e, Dd, g34]; subst hc33; refine IWp.gh (Gh.FX 2 10 eA) ?_; refine vO ?_; obtain rfl := sI h; obtain rfl := hret6 _ rfl; replace h : some (([], (⟨[], [], [], [[], [], [], [], [], [], [], []]⟩ : S33), false)) = some r := hk6; obtain rfl := sI h; refine sF t3_25e ?_; refine Aq (J := H) (r' := _) (Ext.Bp (As he6)) eA (.wk _ (.tu [.sl 10 (([] : List S39).map fun x => .v (str x.A9) :: .v (str x.Ac) :: (x.A5.map fun x => .sl 1 (x.map fun x => [.v (str x)]))), .ag ([.v (str []), .v (str []), .sl 2 (([] : List S89).map fun x => [.v (str x.fType), .v (str x.A7)]), .sl 1 ((([] : List (List UInt8))).map fun x => [.v (str x)]), .sl 1 ((([] : List (List UInt8))).map fun x => [.v (str x)]), .sl 1 ((([] : List (List UInt8))).map fun x => [.v (str x)]), .sl 1 ((([] : List (List UInt8))).map fun x => [.v (str x)]), .sl 1 ((([] : List (List UInt8))).map fun x => [.v (str x)]), .sl 1 ((([] : List (List UInt8))).map fun x => [.v (str x)]), .sl 1 ((([] : List (List UInt8))).map fun x => [.v (str x)]), .sl 1 ((([] : List (List UInt8))).map fun x => [.v (str x)])]), .v (.bool false)]) (by repeat (first | exact WkL.nil | refine WkL.cons ?_ ?_ | exact Wk.refl _ | exact Wk.nil _ | refine Wk.agL ?_ | refine Wk.tuL ?_)) (by exact nbA)) hK
    intro c56 h; simp (disch := omega) at c56; refine sF (nd t9_25e t12_25e) ?_; subst hc29; refine A8 h eA rfl ?_ ?_
    ·intro c35 h; simp (disch := omega) at c35; refine A3 fun cb hc36 => ?_; obtain ⟨g37, h⟩ := Ad.1 h; refine v0 ?_; simp -implicitDefEqProofs (disch := omega) [go_sem, bdP, t3_25e, Dd, g37]; subst hc36; refine IWp.gh (Gh.FX 2 10 eA) ?_; refine vO ?_; obtain rfl := sI h; obtain rfl := hret6 _ rfl; replace h : some (([], (⟨[], [], [], [[], [], [], [], [], [], [], []]⟩ : S33), false)) = some r := hk6; obtain rfl := sI h; refine sF t3_25e ?_; refine Aq (J := H) (r' := _) (Ext.Bp (As he6)) eA (.wk _ (.tu [.sl 10 (([] : List S39).map fun x => .v (str x.A9) :: .v (str x.Ac) :: (x.A5.map fun x => .sl 1 (x.map fun x => [.v (str x)]))), .ag ([.v (str []), .v (str []), .sl 2 (([] : List S89).map fun x => [.v (str x.fType), .v (str x.A7)]), .sl 1 ((([] : List (List UInt8))).map fun x => [.v (str x)]), .sl 1 ((([] : List (List UInt8))).map fun x => [.v (str x)]), .sl 1 ((([] : List (List UInt8))).map fun x => [.v (str x)]), .sl 1 ((([] : List (List UInt8))).map fun x => [.v (str x)]), .sl 1 ((([] : List (List UInt8))).map fun x => [.v (str x)]), .sl 1 ((([] : List (List UInt8))).map fun x => [.v (str x)]), .sl 1 ((([] : List (List UInt8))).map fun x => [.v (str x)]), .sl 1 ((([] : List (List UInt8))).map fun x => [.v (str x)])]), .v (.bool false)]) (by repeat (first | exact WkL.nil | refine WkL.cons ?_ ?_ | exact Wk.refl _ | exact Wk.nil _ | refine Wk.agL ?_ | refine Wk.tuL ?_)) (by exact nbA)) hK
    intro c35 h; simp (disch := omega) at c35; refine vO ?_; subst hc28; refine A3 fun cb hc38 => ?_; obtain ⟨g39, h⟩ := Ad.1 h; obtain ⟨g40, h⟩ := gS h; refine vF (nd t9_25e t12_25e) ?_; obtain ⟨x41, hx41, h⟩ := A4 h; refine Aa.eqA eA (U7 (((a0.getD v8.toNat S78.zero).A7).drop (IntKind.i64.wrap (v27 + 1)).toNat) hx41 ?_); obtain ⟨g42, h⟩ := Ad.1 h; refine sF g42 ?_; subst hc38; refine A3 fun cb hc43 => ?_; refine AB [8] [0, 1, 2, 3, 4, 5, 6, 7, 8, 9, 10, 11, 12, 13] (by kernel_rfl) (by kernel_rfl) (fun _ _ _ _ h => h) ?_; obtain ⟨g44, h⟩ := gS h; obtain ⟨g45, h⟩ := Ad.1 h; obtain ⟨g46, h⟩ := gS h; simp -implicitDefEqProofs (disch := omega) [go_sem, bdP, t5_25e, t8_25e, t9_25e, t12_25e, g42]; obtain ⟨x47, hx47, h⟩ := A4 h; refine BS.mk _ (fun _ _ hK => Aa.eqA (args' := [.sl 10 (v7.map fun x => .v (str x.A9) :: .v (str x.Ac) :: (x.A5.map fun x => .sl 1 (x.map fun x => [.v (str x)]))), .ag (.v (str (((a0.getD v8.toNat S78.zero).Ba).drop 1)) :: .v (str ((((a0.getD v8.toNat S78.zero).A7).take v27.toNat))) :: (x41.1.map fun x => .sl 1 (x.map fun x => [.v (str x)])))]) eA (Aa.wkL (args' := [.sl 10 (v7.map fun x => .v (str x.A9) :: .v (str x.Ac) :: (x.A5.map fun x => .sl 1 (x.map fun x => [.v (str x)]))), .ag (.v (str (((⟨((a0.getD v8.toNat S78.zero).Ba).drop 1, (((a0.getD v8.toNat S78.zero).A7).take v27.toNat), x41.1⟩ : S39)).A9)) :: .v (str (((⟨((a0.getD v8.toNat S78.zero).Ba).drop 1, (((a0.getD v8.toNat S78.zero).A7).take v27.toNat), x41.1⟩ : S39)).Ac)) :: ((((⟨((a0.getD v8.toNat S78.zero).Ba).drop 1, (((a0.getD v8.toNat S78.zero).A7).take v27.toNat), x41.1⟩ : S39)).A5).map fun x => .sl 1 (x.map fun x => [.v (str x)])))]) (by repeat (first | exact WkL.nil | refine WkL.cons ?_ ?_ | exact Wk.refl _)) (Z6 v7 ((⟨((a0.getD v8.toNat S78.zero).Ba).drop 1, (((a0.getD v8.toNat S78.zero).A7).take v27.toNat), x41.1⟩ : S39)) hx47 hK))) ?_; refine sG ?_; subst hc43; refine A3 fun cb hc48 => ?_; refine A3 fun cb hc49 => ?_; refine vG ?_; refine A6 h eA ?_ ?_
    ·intro c55 h; simp (disch := omega) at c55; refine sG ?_; subst hc49; refine Ai eA rfl ?_; refine A3 fun cb hc50 => ?_; obtain ⟨g51, h⟩ := Ad.1 h; refine v0 ?_; simp -implicitDefEqProofs (disch := omega) [go_sem, bdP, t3_25e, Dd, g51]; subst hc50; refine IWp.gh (Gh.FX 2 10 eA) ?_; refine vO ?_; obtain rfl := sI h; obtain rfl := hret6 _ rfl; replace h : some (([], (⟨[], [], [], [[], [], [], [], [], [], [], []]⟩ : S33), false)) = some r := hk6; obtain rfl := sI h; refine sF t3_25e ?_; refine Aq (J := H) (r' := _) (Ext.Bp (As he6)) eA (.wk _ (.tu [.sl 10 (([] : List S39).map fun x => .v (str x.A9) :: .v (str x.Ac) :: (x.A5.map fun x => .sl 1 (x.map fun x => [.v (str x)]))), .ag ([.v (str []), .v (str []), .sl 2 (([] : List S89).map fun x => [.v (str x.fType), .v (str x.A7)]), .sl 1 ((([] : List (List UInt8))).map fun x => [.v (str x)]), .sl 1 ((([] : List (List UInt8))).map fun x => [.v (str x)]), .sl 1 ((([] : List (List UInt8))).map fun x => [.v (str x)]), .sl 1 ((([] : List (List UInt8))).map fun x => [.v (str x)]), .sl 1 ((([] : List (List UInt8))).map fun x => [.v (str x)]), .sl 1 ((([] : List (List UInt8))).map fun x => [.v (str x)]), .sl 1 ((([] : List (List UInt8))).map fun x => [.v (str x)]), .sl 1 ((([] : List (List UInt8))).map fun x => [.v (str x)])]), .v (.bool false)]) (by repeat (first | exact WkL.nil | refine WkL.cons ?_ ?_ | exact Wk.refl _ | exact Wk.nil _ | refine Wk.agL ?_ | refine Wk.tuL ?_)) (by exact nbA)) hK
    intro c55 h; simp (disch := omega) at c55; refine sG ?_; subst hc49; refine A8 h eA rfl ?_ ?_
    ·intro c52 h; refine A3 fun cb hc53 => ?_; obtain ⟨g54, h⟩ := Ad.1 h; refine v0 ?_; simp -implicitDefEqProofs (disch := omega) [go_sem, bdP, t3_25e, Dd, g54]; subst hc53; refine IWp.gh (Gh.FX 2 10 eA) ?_; refine vO ?_; obtain rfl := sI h; obtain rfl := hret6 _ rfl; replace h : some (([], (⟨[], [], [], [[], [], [], [], [], [], [], []]⟩ : S33), false)) = some r := hk6; obtain rfl := sI h; refine sF t3_25e ?_; refine Aq (J := H) (r' := _) (Ext.Bp (As he6)) eA (.wk _ (.tu [.sl 10 (([] : List S39).map fun x => .v (str x.A9) :: .v (str x.Ac) :: (x.A5.map fun x => .sl 1 (x.map fun x => [.v (str x)]))), .ag ([.v (str []), .v (str []), .sl 2 (([] : List S89).map fun x => [.v (str x.fType), .v (str x.A7)]), .sl 1 ((([] : List (List UInt8))).map fun x => [.v (str x)]), .sl 1 ((([] : List (List UInt8))).map fun x => [.v (str x)]), .sl 1 ((([] : List (List UInt8))).map fun x => [.v (str x)]), .sl 1 ((([] : List (List UInt8))).map fun x => [.v (str x)]), .sl 1 ((([] : List (List UInt8))).map fun x => [.v (str x)]), .sl 1 ((([] : List (List UInt8))).map fun x => [.v (str x)]), .sl 1 ((([] : List (List UInt8))).map fun x => [.v (str x)]), .sl 1 ((([] : List (List UInt8))).map fun x => [.v (str x)])]), .v (.bool false)]) (by repeat (first | exact WkL.nil | refine WkL.cons ?_ ?_ | exact Wk.refl _ | exact Wk.nil _ | refine Wk.agL ?_ | refine Wk.tuL ?_)) (by exact nbA)) hK
    intro c52 h; simp (disch := omega) at c52; refine vO ?_; subst hc48; refine vG ?_; subst hc20; refine vF t7_25e ?_; obtain rfl := sI h; refine Aj hI6 ((x47.1, IntKind.i64.wrap (v8 + 1), v9, v10)) ?_; refine .same ⟨by exact As he6, by (simp -implicitDefEqProofs (disch := omega) [go_sem] <;> omega), ?_, ?_, ?_, ?_, ?_, ?_, ?_⟩ <;> (simp -implicitDefEqProofs (disch := omega) [go_sem, t0_25e, t3_25e, t6_25e, Dd, IP] <;> omega)
   refine Ah ?_; refine Az (fun (s : Int) tm' H' => H6 = H' ∧ tm' 0 = .sl 2 (a0.map fun x => [.v (str x.Ba), .v (str x.A7)]) ∧ tm' 3 = .p H.next 0 ∧ tm' 5 = .sl 10 (v7.map fun x => .v (str x.A9) :: .v (str x.Ac) :: (x.A5.map fun x => .sl 1 (x.map fun x => [.v (str x)]))) ∧ tm' 6 = .p (H.next + 1) 0 ∧ tm' 7 = .v (.int .i64 v8) ∧ tm' 8 = .v (str ((a0.getD v8.toNat S78.zero).Ba)) ∧ tm' 9 = .v (str ((a0.getD v8.toNat S78.zero).A7)) ∧ tm' 12 = .v (.int .i64 s)) hl25q ?_ ?_
   ·exact smF (nd fO (nd fQ (nd fR (nd fS (nd fT (nd fU fV))))))
   rintro I25 hI25 v26 x25 tm25 H25 ⟨rfl, Uo, Uq, Ur, Us, Ut, Uu, O6, KA⟩ h hret25
   replace h : Ex a0 v8 v26 = some x25 := h; unfold Ex at h; refine A3 fun cb hc58 => ?_; refine A3 fun cb hc59 => ?_; refine vF (nd O6 KA) ?_; refine A6 h eA ?_ ?_
   ·intro c62 h; simp (disch := omega) at c62; obtain ⟨g60, h⟩ := gS h; refine sF (nd O6 KA) ?_; subst hc59; refine A8 h eA rfl ?_ ?_
    ·intro c61 h; simp (disch := omega) at c61; refine vO ?_; subst hc58; refine Ah ?_; refine vF KA ?_; obtain rfl := sI h; refine Aj hI25 (IntKind.i64.wrap (v26 + 1)) ?_; exact smF (nd Uo (nd Uq (nd Ur (nd Us (nd Ut (nd Uu O6))))))
    intro c61 h; simp (disch := omega) at c61; refine vO ?_; obtain rfl := sI h; have hy25 := hret25 _ rfl; refine hc25 _ _ ?_; refine .same ⟨v26, hy25, rfl, ?_, ?_, ?_, ?_, ?_, ?_, ?_, ?_⟩ <;> (simp -implicitDefEqProofs (disch := omega) [go_sem, Uo, Uq, Ur, Us, Ut, Uu, O6, KA] <;> omega)
   intro c62 h; simp (disch := omega) at c62; refine sG ?_; subst hc59; refine Al eA rfl ?_; refine vO ?_; obtain rfl := sI h; have hy25 := hret25 _ rfl; refine hc25 _ _ ?_; refine .same ⟨v26, hy25, rfl, ?_, ?_, ?_, ?_, ?_, ?_, ?_, ?_⟩ <;> (simp -implicitDefEqProofs (disch := omega) [go_sem, Uo, Uq, Ur, Us, Ut, Uu, O6, KA] <;> omega)
  refine A3 fun cb hc63 => ?_; refine vG ?_; refine A6 h eA ?_ ?_
  ·intro c75 h; simp (disch := omega) at c75; refine sF (nd Ry IP) ?_; subst hc63; refine A8 h eA rfl ?_ ?_
   ·intro c64 h; refine A3 fun cb hc65 => ?_; refine vG ?_; obtain ⟨x66, hx66, h⟩ := A4 h; refine Aa.eqA eA (ZM ((a0.getD v8.toNat S78.zero).A7) hx66 ?_); obtain ⟨g67, h⟩ := Ad.1 h; refine sF g67 ?_; subst hc65; refine A3 fun cb hc68 => ?_; refine wG ?_; refine A8 h eA rfl ?_ ?_
    ·intro c70 h; simp (disch := omega) at c70; refine A3 fun cb hc71 => ?_; obtain ⟨g72, h⟩ := Ad.1 h; refine v0 ?_; simp -implicitDefEqProofs (disch := omega) [go_sem, bdP, KX, Dd, g72]; subst hc71; refine IWp.gh (Gh.FX 2 10 eA) ?_; refine vO ?_; obtain rfl := sI h; obtain rfl := hret6 _ rfl; replace h : some (([], (⟨[], [], [], [[], [], [], [], [], [], [], []]⟩ : S33), false)) = some r := hk6; obtain rfl := sI h; refine sF KX ?_; refine Aq (J := H) (r' := _) (Ext.Bp (As he6)) eA (.wk _ (.tu [.sl 10 (([] : List S39).map fun x => .v (str x.A9) :: .v (str x.Ac) :: (x.A5.map fun x => .sl 1 (x.map fun x => [.v (str x)]))), .ag ([.v (str []), .v (str []), .sl 2 (([] : List S89).map fun x => [.v (str x.fType), .v (str x.A7)]), .sl 1 ((([] : List (List UInt8))).map fun x => [.v (str x)]), .sl 1 ((([] : List (List UInt8))).map fun x => [.v (str x)]), .sl 1 ((([] : List (List UInt8))).map fun x => [.v (str x)]), .sl 1 ((([] : List (List UInt8))).map fun x => [.v (str x)]), .sl 1 ((([] : List (List UInt8))).map fun x => [.v (str x)]), .sl 1 ((([] : List (List UInt8))).map fun x => [.v (str x)]), .sl 1 ((([] : List (List UInt8))).map fun x => [.v (str x)]), .sl 1 ((([] : List (List UInt8))).map fun x => [.v (str x)])]), .v (.bool false)]) (by repeat (first | exact WkL.nil | refine WkL.cons ?_ ?_ | exact Wk.refl _ | exact Wk.nil _ | refine Wk.agL ?_ | refine Wk.tuL ?_)) (by exact nbA)) hK
    intro c70 h; simp (disch := omega) at c70; refine vO ?_; subst hc68; obtain ⟨g74, h⟩ := Ad.1 h; refine wF (nd Ry (nd IP (nd g67 g74))) ?_; refine vO ?_; subst hc20; refine vF Un ?_; obtain rfl := sI h; refine Aj hI6 ((v7, IntKind.i64.wrap (v8 + 1), v9, x66.1)) ?_; refine .same ⟨by exact As he6, by (simp -implicitDefEqProofs (disch := omega) [go_sem] <;> omega), ?_, ?_, ?_, ?_, ?_, ?_, ?_⟩ <;> (simp -implicitDefEqProofs (disch := omega) [go_sem, Ky, KX, Rs, Ry, Dd] <;> omega)
   intro c64 h; refine vO ?_; refine hc23 _ _ ?_; refine .same ⟨rfl, ?_, ?_, ?_, ?_, ?_, ?_, ?_, h⟩ <;> (simp -implicitDefEqProofs (disch := omega) [go_sem, Ky, KX, Rs, Ry, Un] <;> omega)
  intro c75 h; simp (disch := omega) at c75; refine sG ?_; subst hc63; refine Al eA rfl ?_; refine vO ?_; refine hc23 _ _ ?_; refine .same ⟨rfl, ?_, ?_, ?_, ?_, ?_, ?_, ?_, h⟩ <;> (simp -implicitDefEqProofs (disch := omega) [go_sem, Ky, KX, Rs, Ry, Un] <;> omega)
 intro c19 h; simp (disch := omega) at c19; refine vO ?_; obtain rfl := sI h; have hy6 := hret6 _ rfl; refine hc6 _ _ ?_; refine .same ⟨v7, v9, v10, hy6, by exact As he6, by with_reducible assumption, ?_, ?_, ?_, ?_, ?_⟩ <;> first | with_reducible assumption | (simp -implicitDefEqProofs (disch := omega) [go_sem, KX, Rs, Ry] <;> omega)
noncomputable def Im (a1 : S35) (v27 : Bool) (v28 : Int) : Option Bool :=
 some (decide (v28 = (a1.fL.length : Int)))
noncomputable def Io (a1 : S35) (el26 : Int × S39) (v24 : Bool) (v25 : Int) : Option ((Bool × Int) ⊕ ((Bool × Int) ⊕ Bool)) :=
 gd (el26.2.A5.length = 8) (if ¬ el26.1 = v25 then (some (.inr (.inr false))) else (if (a1.fL.length : Int) ≤ v25 then (some (.inr (.inr false))) else (gd (0 ≤ v25 ∧ v25 < a1.fL.length) (gd (((a1.fL.getD v25.toNat S39.zero).A5).length = 8) ((F19 el26.2 (a1.fL.getD v25.toNat S39.zero)).bind fun (x38 : Bool) => if ¬ (x38 = true) then (some (.inr (.inr false))) else (some (.inl ((v24, IntKind.i64.wrap (v25 + 1))))))))))
noncomputable def Uv (a1 : S35) : Option Bool :=
 gd (a1.fP.A5.length = 8) ((TE ).bind fun (x5 : (List S39)) => (TC ).bind fun (x7 : S33 × Bool) => gd (x7.1.A5.length = 8) (if ¬ x7.2 = (decide (¬ a1.fP.A9 = [])) then (some false) else ((F25 x7.1 a1.fP).bind fun (x12 : Bool) => if ¬ (x12 = true) then (some false) else ((TG ).bind fun (x17 : Int) => if ¬ x17 = (a1.fL.length : Int) then (some false) else (gd (∀ x, x ∈ x5 → DK x.A5) ((HU (ρ := (Bool × Int) ⊕ Bool) (fun (el26 : Int × S39) (s : Bool × Int) => Io a1 el26 s.1 s.2) (fun (s : Bool × Int) => .inl (s.1, s.2)) (EC x5) (false, 0)).bind fun y => Sum.elim (fun (e : Bool × Int) => Im a1 e.1 e.2) (fun (q : Bool) => some q) y))))))
theorem Uw {H : A2} {K : Au → A2 → Prop} (a1 : S35) {r : Bool} (h : Uv a1 = some r) (hK : K (.ret (.v (.bool r))) H) : Aa prog 20 [.v (.pointer none), .ag (.sl 10 (a1.fL.map fun x => .v (str x.A9) :: .v (str x.Ac) :: (x.A5.map fun x => .sl 1 (x.map fun x => [.v (str x)]))) :: .v (str a1.fP.A9) :: .v (str a1.fP.Ac) :: .sl 2 (a1.fP.fDn.map fun x => [.v (str x.fType), .v (str x.A7)]) :: (a1.fP.A5.map fun x => .sl 1 (x.map fun x => [.v (str x)])))] H K := by
 refine Ag (N := 70) func20 (by kernel_rfl) rfl (by kernel_rfl) (by kernel_rfl) fun cb hcb hw hbd hnb => ?_; clear hbd hnb; subst hcb; unfold Uv at h; obtain ⟨g2, h⟩ := Ad.1 h; refine wG ?_; refine wF g2 ?_; refine A3 fun cb hc4 => ?_; refine vG ?_; obtain ⟨x5, hx5, h⟩ := A4 h; refine TF  hx5 ?_; refine sG ?_; subst hc4; refine A3 fun cb hc6 => ?_; refine vG ?_; obtain ⟨x7, hx7, h⟩ := A4 h; refine TD  hx7 ?_; obtain ⟨g8, h⟩ := Ad.1 h; refine sF g8 ?_; subst hc6; refine A3 fun cb hc9 => ?_; refine A3 fun cb hc10 => ?_; refine vF g2 ?_; refine A6 h eA ?_ ?_
 ·intro c43 h; simp (disch := omega) at c43; refine sG ?_; subst hc10; refine Ai eA rfl ?_; refine wG ?_; refine vO ?_; obtain rfl := sI h; refine sG ?_; exact Ap (.refl hw) hK
 intro c43 h; simp (disch := omega) at c43; refine sF (nd g2 g8) ?_; obtain ⟨x12, hx12, h⟩ := A4 h; refine TA x7.1 a1.fP hx12 ?_; refine sG ?_; subst hc10; refine A8 h eA rfl ?_ ?_
 ·intro c13 h; simp (disch := omega) at c13; refine wG ?_; refine vO ?_; obtain rfl := sI h; refine sG ?_; exact Ap (.refl hw) hK
 intro c13 h; simp (disch := omega) at c13; refine vO ?_; subst hc9; refine A3 fun cb hc15 => ?_; refine A3 fun cb hc16 => ?_; refine AB [] [0, 1, 2, 3, 5, 6, 4, 7, 8] (by kernel_rfl) (by kernel_rfl) (fun _ _ _ _ h => h) ?_; refine sG ?_; obtain ⟨x17, hx17, h⟩ := A4 h; refine TH  hx17 ?_; refine sG ?_; subst hc16; refine A8 h eA rfl ?_ ?_
 ·intro c18 h; refine wG ?_; refine vO ?_; obtain rfl := sI h; refine sG ?_; exact Ap (.refl hw) hK
 intro c18 h; simp (disch := omega) at c18; refine vO ?_; subst hc15; refine wG ?_; refine A3 fun cb hc21 => ?_; refine wG ?_; obtain ⟨gi23, h⟩ := Ad.1 h; obtain ⟨y23, hl23q, hk23⟩ := A4 h; refine AF (fun tm' H' => ∃ v27 : Bool, ∃ v28 : Int, .inl (v27, v28) = y23 ∧ Ext H H' ∧ H.next + 5 ≤ H'.next ∧ tm' 4 = .p (H.next + 1) 0 ∧ tm' 5 = .p (H.next + 2) 0 ∧ tm' 9 = .p (H.next + 4) 0 ∧ H'.obj H.next = some (.cells (.sl 10 (a1.fL.map fun x => .v (str x.A9) :: .v (str x.Ac) :: (x.A5.map fun x => .sl 1 (x.map fun x => [.v (str x)]))) :: .v (str a1.fP.A9) :: .v (str a1.fP.Ac) :: .sl 2 (a1.fP.fDn.map fun x => [.v (str x.fType), .v (str x.A7)]) :: (a1.fP.A5.map fun x => .sl 1 (x.map fun x => [.v (str x)])))) ∧ H'.obj (H.next + 1) = some (.cells ([.v (.bool v27)])) ∧ H'.obj (H.next + 2) = some (.cells ([.sl 10 (a1.fL.map fun x => .v (str x.A9) :: .v (str x.Ac) :: (x.A5.map fun x => .sl 1 (x.map fun x => [.v (str x)])))])) ∧ H'.obj (H.next + 3) = some (.cells (.v (str x7.1.A9) :: .v (str x7.1.Ac) :: .sl 2 (x7.1.fDn.map fun x => [.v (str x.fType), .v (str x.A7)]) :: (x7.1.A5.map fun x => .sl 1 (x.map fun x => [.v (str x)])))) ∧ H'.obj (H.next + 4) = some (.cells ([.v (.int .i64 v28)]))) ?_ fun cb hc23 => ?_
 ·rintro tm23e H23e ⟨v27, v28, rfl, he23e, hl23e, t4_23e, t5_23e, t9_23e, ob0_23e, ob1_23e, ob2_23e, ob3_23e, ob4_23e⟩
  have h : Im a1 v27 v28 = some r := hk23; unfold Im at h; simp -implicitDefEqProofs only [go_sem]; subst hc21; refine wF (nd t4_23e (nd t5_23e (nd t9_23e (nd ob1_23e (nd ob2_23e ob4_23e))))) ?_; refine vO ?_; obtain rfl := sI h; refine sF t4_23e ?_; refine Ay (As he23e) rfl nbA hK
 refine Ah ?_; refine Gj (gf := 46) (cap := [.cp [.sl 10 (x5.map fun x => .v (str x.A9) :: .v (str x.Ac) :: (x.A5.map fun x => .sl 1 (x.map fun x => [.v (str x)])))]]) (C := []) (enc := fun (el26 : Int × S39) => [.v (.int .i64 el26.1), .ag (.v (str el26.2.A9) :: .v (str el26.2.Ac) :: (el26.2.A5.map fun x => .sl 1 (x.map fun x => [.v (str x)])))]) (fun (s : Bool × Int) _ H' => Ext H H' ∧ H.next + 5 ≤ H'.next ∧ H'.obj H.next = some (.cells (.sl 10 (a1.fL.map fun x => .v (str x.A9) :: .v (str x.Ac) :: (x.A5.map fun x => .sl 1 (x.map fun x => [.v (str x)]))) :: .v (str a1.fP.A9) :: .v (str a1.fP.Ac) :: .sl 2 (a1.fP.fDn.map fun x => [.v (str x.fType), .v (str x.A7)]) :: (a1.fP.A5.map fun x => .sl 1 (x.map fun x => [.v (str x)])))) ∧ H'.obj (H.next + 1) = some (.cells ([.v (.bool s.1)])) ∧ H'.obj (H.next + 2) = some (.cells ([.sl 10 (a1.fL.map fun x => .v (str x.A9) :: .v (str x.Ac) :: (x.A5.map fun x => .sl 1 (x.map fun x => [.v (str x)])))])) ∧ H'.obj (H.next + 3) = some (.cells (.v (str x7.1.A9) :: .v (str x7.1.Ac) :: .sl 2 (x7.1.fDn.map fun x => [.v (str x.fType), .v (str x.A7)]) :: (x7.1.A5.map fun x => .sl 1 (x.map fun x => [.v (str x)])))) ∧ H'.obj (H.next + 4) = some (.cells ([.v (.int .i64 s.2)]))) hl23q (by kernel_rfl) (by rfl) (Tn (x5) gi23) ?_ (fun _ _ _ _ hh => hh) (by intro _ _ _ _ p hp; cases hp) (fun _ => rfl) ?_ ?_
 ·exact ⟨by exact As (Ext.refl hw), by (simp -implicitDefEqProofs (disch := omega) [go_sem] <;> omega), by (simp -implicitDefEqProofs (disch := omega) [go_sem] <;> omega), by (simp -implicitDefEqProofs (disch := omega) [go_sem] <;> omega), by (simp -implicitDefEqProofs (disch := omega) [go_sem] <;> omega), by (simp -implicitDefEqProofs (disch := omega) [go_sem] <;> omega), by (simp -implicitDefEqProofs (disch := omega) [go_sem] <;> omega)⟩
 ·rintro I23 hI23 el26 ⟨v24, v25⟩ x23 H23 ⟨he23, hl23, Gm, DL, En, Gn, Cy⟩ h hret23
  replace h : Io a1 el26 v24 v25 = some x23 := h; unfold Io at h
  skip
  refine wG ?_; obtain ⟨g31, h⟩ := Ad.1 h; refine vF g31 ?_; refine Ah ?_; refine A3 fun cb hc32 => ?_; refine A3 fun cb hc33 => ?_; refine AB [15] [0, 1, 2, 3, 4, 5, 6, 7, 8, 9, 10, 11, 12, 13, 14, 15, 16, 17] (by kernel_rfl) (by kernel_rfl) (fun _ _ _ _ h => h) ?_; refine sF Cy ?_; refine A6 h eA ?_ ?_
  ·intro c42 h; refine sG ?_; subst hc33; refine Ai eA rfl ?_; refine wF DL ?_; refine vO ?_; obtain rfl := sI h; obtain rfl := hret23 _ rfl; replace h : some false = some r := hk23; obtain rfl := sI h; refine sG ?_; refine Ay (As he23) rfl nbA hK
  intro c42 h; simp (disch := omega) at c42; refine sF (nd En Cy) ?_; refine A6 h rfl ?_ ?_
  ·intro c41 h; refine sG ?_; subst hc33; refine Ai eA rfl ?_; refine wF DL ?_; refine vO ?_; obtain rfl := sI h; obtain rfl := hret23 _ rfl; replace h : some false = some r := hk23; obtain rfl := sI h; refine sG ?_; refine Ay (As he23) rfl nbA hK
  intro c41 h; simp (disch := omega) at c41; obtain ⟨g36, h⟩ := Ad.1 h; obtain ⟨g37, h⟩ := gS h; refine sF (nd En (nd Cy (nd g31 g37))) ?_; obtain ⟨x38, hx38, h⟩ := A4 h; refine BS.mk _ (fun _ _ hK => Aa.eqA eA (TB el26.2 (a1.fL.getD v25.toNat S39.zero) hx38 hK)) ?_; refine sG ?_; subst hc33; refine A8 h eA rfl ?_ ?_
  ·intro c39 h; simp (disch := omega) at c39; refine wF DL ?_; refine vO ?_; obtain rfl := sI h; obtain rfl := hret23 _ rfl; replace h : some false = some r := hk23; obtain rfl := sI h; refine sG ?_; refine Ay (As he23) rfl nbA hK
  intro c39 h; simp (disch := omega) at c39; refine vO ?_; subst hc32; refine vF Cy ?_; obtain rfl := sI h; refine Aj hI23 ((v24, IntKind.i64.wrap (v25 + 1))) ?_; refine .same ⟨by exact As he23, by (simp -implicitDefEqProofs (disch := omega) [go_sem] <;> omega), ?_, ?_, ?_, ?_, ?_⟩ <;> (simp -implicitDefEqProofs (disch := omega) [go_sem, Gm, DL, En, Gn] <;> omega)
 rintro ⟨v24, v25⟩ H23 ⟨he23, hl23, Gm, DL, En, Gn, Cy⟩ hy23
 simp -implicitDefEqProofs only [go_sem]; refine hc23 _ _ ?_; refine .same ⟨v24, v25, hy23, by exact As he23, by (simp -implicitDefEqProofs (disch := omega) [go_sem] <;> omega), ?_, ?_, ?_, ?_, ?_, ?_, ?_, ?_⟩ <;> (simp -implicitDefEqProofs (disch := omega) [go_sem, Gm, DL, En, Gn, Cy] <;> omega)
noncomputable def Qg (a0 : List S78) : Option Bool :=
 (F35 a0).bind fun (x12 : (Option ((List (List UInt8 × S39)) × (List (List UInt8 × (List UInt8))) × (Option S33))) × Int) => opP x12.1 ((F36 a0).bind fun (x15 : (List S39) × S33 × Bool) => gd (x15.2.1.A5.length = 8) (if ¬ (x15.2.2 = true) then (if x12.2 = 301 then ((F11 ).bind fun (x21 : Bool) => some x21) else (some false)) else (if x12.2 = 0 then ((Uv (⟨x15.1, x15.2.1⟩ : S35)).bind fun (x24 : Bool) => if x24 = true then ((F11 ).bind fun (x25 : Bool) => some x25) else (some false)) else (some false)))) (fun (y13 : (List (List UInt8 × S39)) × (List (List UInt8 × (List UInt8))) × (Option S33)) => (F36 a0).bind fun (x29 : (List S39) × S33 × Bool) => gd (x29.2.1.A5.length = 8) (if ¬ (x29.2.2 = true) then (some false) else (if x12.2 = 0 then ((F20 y13.1 y13.2.1 y13.2.2 (⟨x29.1, x29.2.1⟩ : S35)).bind fun (x36 : Bool) => if x36 = true then ((F11 ).bind fun (x37 : Bool) => some x37) else (some false)) else (some false))))
noncomputable def KB (a0 : List S78) (v10 : Int) : Option (Int ⊕ (Unit ⊕ Bool)) :=
 if v10 < (a0.length : Int) then (gd (0 ≤ v10 ∧ v10 < a0.length) (if 1000 < (IntKind.i64.wrap (((((a0.getD v10.toNat S78.zero).Ba).length : Int)) + ((((a0.getD v10.toNat S78.zero).A7).length : Int)))) then ((F11 ).bind fun (x48 : Bool) => some (.inr (.inr x48))) else (some (.inl (IntKind.i64.wrap (v10 + 1)))))) else (some (.inr (.inl ())))
noncomputable def F7 (a0 : List S78) : Option Bool :=
 if 70 < (a0.length : Int) then ((F11 ).bind fun (x6 : Bool) => some x6) else ((AD (fun (s : Int) => KB a0 s) 0).bind fun y => Sum.elim (fun (e : Unit) => Qg a0) (fun (q : Bool) => some q) y)
theorem fW {H : A2} {K : Au → A2 → Prop} (a0 : List S78) (hV : VOK prog H) {r : Bool} (h : F7 a0 = some r) (hK : K (.ret (.v (.bool r))) H) : Aa prog 7 [.sl 2 (a0.map fun x => [.v (str x.Ba), .v (str x.A7)])] H K := by
 refine Ag (N := 68) func7 (by kernel_rfl) rfl (by kernel_rfl) (by kernel_rfl) fun cb hcb hw hbd hnb => ?_; clear hbd hnb; subst hcb; unfold F7 at h; refine wG ?_; refine A3 fun cb hc2 => ?_; refine wG ?_; refine A8 h eA rfl ?_ ?_
 ·intro c4 h; refine A3 fun cb hc5 => ?_; refine vG ?_; obtain ⟨x6, hx6, h⟩ := A4 h; refine Kj  (by exact (VOK.of hV rfl).tok) hx6 ?_; refine sG ?_; subst hc5; refine vO ?_; obtain rfl := sI h; refine sG ?_; exact Ap (.refl hw) hK
 intro c4 h; simp (disch := omega) at c4; refine vO ?_; subst hc2; refine A3 fun cb hc7 => ?_; refine wG ?_; obtain ⟨y9, hl9q, hk9⟩ := A4 h; refine AF (fun tm' H' => .inl () = y9 ∧ H = H' ∧ tm' 0 = .sl 2 (a0.map fun x => [.v (str x.Ba), .v (str x.A7)])) ?_ fun cb hc9 => ?_
 ·rintro tm9e H9e ⟨rfl, rfl, t0_9e⟩
  have h : Qg a0 = some r := hk9; unfold Qg at h; simp -implicitDefEqProofs only [go_sem]; subst hc7; refine A3 fun cb hc11 => ?_; refine vF t0_9e ?_; obtain ⟨x12, hx12, h⟩ := A4 h; refine ZD a0 (by exact hV.of rfl) hx12 ?_ ?_
  ·intro qx12; rw [qx12] at h; replace h := TI h; refine sG ?_; subst hc11; refine A3 fun cb hc14 => ?_; refine vF t0_9e ?_; obtain ⟨x15, hx15, h⟩ := A4 h; refine Um a0 hx15 ?_; obtain ⟨g16, h⟩ := Ad.1 h; refine sF g16 ?_; subst hc14; refine A3 fun cb hc17 => ?_; refine wG ?_; refine A8 h eA rfl ?_ ?_
   ·intro c19 h; simp (disch := omega) at c19; refine A3 fun cb hc20 => ?_; refine vG ?_; refine A6 h rfl ?_ ?_
    ·intro c22 h; refine sG ?_; obtain ⟨x21, hx21, h⟩ := A4 h; refine Kj  (by exact (VOK.of hV rfl).tok) hx21 ?_; refine sG ?_; subst hc20; refine vO ?_; obtain rfl := sI h; refine sG ?_; exact Ap (.refl hw) hK
    intro c22 h; refine sG ?_; subst hc20; refine vO ?_; obtain rfl := sI h; refine sG ?_; exact Ap (.refl hw) hK
   intro c19 h; simp (disch := omega) at c19; refine vO ?_; subst hc17; refine A3 fun cb hc23 => ?_; refine vG ?_; refine A6 h rfl ?_ ?_
   ·intro c27 h; simp -implicitDefEqProofs (disch := omega) [go_sem, bdP, g16]; obtain ⟨x24, hx24, h⟩ := A4 h; refine Aa.wkL (args' := [.v (.pointer none), .ag (.sl 10 (((⟨x15.1, x15.2.1⟩ : S35).fL).map fun x => .v (str x.A9) :: .v (str x.Ac) :: (x.A5.map fun x => .sl 1 (x.map fun x => [.v (str x)]))) :: .v (str (((⟨x15.1, x15.2.1⟩ : S35).fP).A9)) :: .v (str (((⟨x15.1, x15.2.1⟩ : S35).fP).Ac)) :: .sl 2 ((((⟨x15.1, x15.2.1⟩ : S35).fP).fDn).map fun x => [.v (str x.fType), .v (str x.A7)]) :: ((((⟨x15.1, x15.2.1⟩ : S35).fP).A5).map fun x => .sl 1 (x.map fun x => [.v (str x)])))]) (by repeat (first | exact WkL.nil | refine WkL.cons ?_ ?_ | exact Wk.refl _)) (Uw (⟨x15.1, x15.2.1⟩ : S35) hx24 ?_); refine sG ?_; refine A6 h eA ?_ ?_
    ·intro c26 h; refine sG ?_; obtain ⟨x25, hx25, h⟩ := A4 h; refine Kj  (by exact (VOK.of hV rfl).tok) hx25 ?_; refine sG ?_; subst hc23; refine vO ?_; obtain rfl := sI h; refine sG ?_; exact Ap (.refl hw) hK
    intro c26 h; simp (disch := omega) at c26; refine sG ?_; subst hc23; refine vO ?_; obtain rfl := sI h; refine sG ?_; exact Ap (.refl hw) hK
   intro c27 h; refine sG ?_; subst hc23; refine vO ?_; obtain rfl := sI h; refine sG ?_; exact Ap (.refl hw) hK
  intro y13 qx12; rw [qx12] at h; replace h := TJ h; refine sG ?_; subst hc11; refine A3 fun cb hc28 => ?_; refine vF t0_9e ?_; obtain ⟨x29, hx29, h⟩ := A4 h; refine Um a0 hx29 ?_; obtain ⟨g30, h⟩ := Ad.1 h; refine sF g30 ?_; subst hc28; refine A3 fun cb hc31 => ?_; refine wG ?_; refine A8 h eA rfl ?_ ?_
  ·intro c33 h; simp (disch := omega) at c33; refine wG ?_; refine vO ?_; obtain rfl := sI h; refine sG ?_; exact Ap (.refl hw) hK
  intro c33 h; simp (disch := omega) at c33; refine vO ?_; subst hc31; refine A3 fun cb hc35 => ?_; refine vG ?_; refine A6 h rfl ?_ ?_
  ·intro c39 h; simp -implicitDefEqProofs (disch := omega) [go_sem, bdP, g30]; obtain ⟨x36, hx36, h⟩ := A4 h; refine Aa.wkL (args' := [.p H.next 0, .ag (.sl 10 (((⟨x29.1, x29.2.1⟩ : S35).fL).map fun x => .v (str x.A9) :: .v (str x.Ac) :: (x.A5.map fun x => .sl 1 (x.map fun x => [.v (str x)]))) :: .v (str (((⟨x29.1, x29.2.1⟩ : S35).fP).A9)) :: .v (str (((⟨x29.1, x29.2.1⟩ : S35).fP).Ac)) :: .sl 2 ((((⟨x29.1, x29.2.1⟩ : S35).fP).fDn).map fun x => [.v (str x.fType), .v (str x.A7)]) :: ((((⟨x29.1, x29.2.1⟩ : S35).fP).A5).map fun x => .sl 1 (x.map fun x => [.v (str x)])))]) (by repeat (first | exact WkL.nil | refine WkL.cons ?_ ?_ | exact Wk.refl _)) (Za y13.1 y13.2.1 y13.2.2 (⟨x29.1, x29.2.1⟩ : S35) H.next (H.next + 1) (H.next + 2) eA eA eA hx36 ?_); refine sG ?_; refine A6 h eA ?_ ?_
   ·intro c38 h; refine sG ?_; obtain ⟨x37, hx37, h⟩ := A4 h; refine Kj  (by exact (VOK.of hV rfl).tok) hx37 ?_; refine sG ?_; subst hc35; refine vO ?_; obtain rfl := sI h; refine sG ?_; exact Ap (.refl hw) hK
   intro c38 h; simp (disch := omega) at c38; refine sG ?_; subst hc35; refine vO ?_; obtain rfl := sI h; refine sG ?_; exact Ap (.refl hw) hK
  intro c39 h; refine sG ?_; subst hc35; refine vO ?_; obtain rfl := sI h; refine sG ?_; exact Ap (.refl hw) hK
 refine Ah ?_; refine Az (fun (s : Int) tm' H' => H = H' ∧ tm' 0 = .sl 2 (a0.map fun x => [.v (str x.Ba), .v (str x.A7)]) ∧ tm' 3 = .v (.int .i64 s)) hl9q ?_ ?_
 ·exact sm
 rintro I9 hI9 v10 x9 tm9 H9 ⟨rfl, O_, NN⟩ h hret9
 replace h : KB a0 v10 = some x9 := h; unfold KB at h; refine A3 fun cb hc40 => ?_; refine wF (nd O_ NN) ?_; refine A8 h eA rfl ?_ ?_
 ·intro c42 h; refine vO ?_; subst hc40; refine A3 fun cb hc43 => ?_; refine Ah ?_; refine A3 fun cb hc44 => ?_; refine AB [] [0, 1, 2, 3, 4, 5, 6, 7, 8, 9, 10, 11, 12, 13] (by kernel_rfl) (by kernel_rfl) (fun _ _ _ _ h => h) ?_; obtain ⟨g45, h⟩ := Ad.1 h; refine sF (nd O_ NN) ?_; subst hc44; refine A8 h eA rfl ?_ ?_
  ·intro c46 h; simp (disch := omega) at c46; refine A3 fun cb hc47 => ?_; refine vG ?_; obtain ⟨x48, hx48, h⟩ := A4 h; refine Kj  (by exact (VOK.of hV rfl).tok) hx48 ?_; refine sG ?_; subst hc47; refine vO ?_; obtain rfl := sI h; obtain rfl := hret9 _ rfl; replace h : some x48 = some r := hk9; obtain rfl := sI h; refine sG ?_; exact Ap (.refl hw) hK
  intro c46 h; simp (disch := omega) at c46; refine vO ?_; subst hc43; refine vF NN ?_; obtain rfl := sI h; refine Aj hI9 (IntKind.i64.wrap (v10 + 1)) ?_; exact smF O_
 intro c42 h; simp (disch := omega) at c42; refine vO ?_; obtain rfl := sI h; have hy9 := hret9 _ rfl; refine hc9 _ _ ?_; refine .same ⟨hy9, rfl, by (simp -implicitDefEqProofs (disch := omega) [go_sem, O_] <;> omega)⟩
end Go.Idl
namespace Go.Idl
open Go Go.Lib
theorem Pt {c : List (List Str)} (hc : c.length = 8) (h : AS c = true) : (∀ l, l ∈ c → l.length ≤ 8) ∧ (∀ l, l ∈ c → ∀ v, v ∈ l → 1 ≤ v.length ∧ v.length ≤ 200) ∧ (c.getD 0 []).length = 1 := by
 have hi := (Ij c hc).1 h; have hv : ∀ l, l ∈ c → l.length ≤ 8 ∧ ∀ v, v ∈ l → 1 ≤ v.length ∧ v.length ≤ 200 := by
  intro l hl; obtain ⟨i, h1, rfl⟩ := List.getElem_of_mem hl; have := hi i h1; unfold C0 Bx at this; simp only [Bool.and_eq_true, decide_eq_true_eq, Bool.not_eq_true', List.any_eq_false] at this; refine ⟨?_, fun v hv => ?_⟩
  ·have := this.1.1.1; unfold FW at this; split at this <;> omega
  ·have := this.1.1.2 v hv; simp [Bc] at this; exact ⟨by have := this.2.1; cases v with | nil => simp at * | cons a b => simp, this.2.2⟩
 refine ⟨fun l hl => (hv l hl).1, fun l hl => (hv l hl).2, ?_⟩; unfold AS at h; simp only [Bool.and_eq_true, decide_eq_true_eq] at h; exact h.2
def kO : Str := [48, 49, 50, 51, 52, 53, 54, 55, 56, 57, 97, 98, 99, 100, 101, 102]
def O7 (n : Nat) : UInt8 := kO.getD n 0
def Cs (x : UInt8) : Bool := decide (x = 44 ∨ x = 43 ∨ x = 34 ∨ x = 92 ∨ x = 60 ∨ x = 62 ∨ x = 59 ∨ x = 61)
def ZN (x : UInt8) : Bool := decide (x.toNat < 32 ∨ 126 < x.toNat)
def MS (first last : Bool) (x : UInt8) : Str :=
  if ZN x = true then [92, O7 (x.toNat / 16), O7 (x.toNat % 16)]
  else if (Cs x || (first && decide (x = 32 ∨ x = 35)) || (last && decide (x = 32))) = true then [92, x] else [x]
def Di (first : Bool) : Str → Str
  | [] => []
  | x :: r => MS first r.isEmpty x ++ Di false r
def E4 : List S89 → Str
  | [] => []
  | r :: d => r.fType ++ 61 :: (Di true r.A7 ++ match d with | [] => [] | _ :: _ => 44 :: E4 d)
theorem Rz (f l : Bool) (x : UInt8) : (10 : UInt8) ∉ MS f l x := by
 unfold MS; have hh : ∀ i, i < 16 → O7 i ≠ 10 := fun i hi => by
  have : ∀ i : Fin 16, O7 i.1 ≠ 10 := by decide
  exact this ⟨i, hi⟩
 have hx := x.toNat_lt; split
 ·simp only [List.mem_cons, List.not_mem_nil, or_false, not_or]; exact ⟨by decide, (hh _ (by omega)).symm, (hh _ (by omega)).symm⟩
 ·rename_i h; have : x ≠ 10 := by
   rintro rfl
   exact h rfl
  split
  ·simp only [List.mem_cons, List.not_mem_nil, or_false, not_or]; exact ⟨by decide, this.symm⟩
  ·simp only [List.mem_cons, List.not_mem_nil, or_false]; exact this.symm
theorem RB : ∀ (v : Str) (f : Bool), (10 : UInt8) ∉ Di f v
  | [], _ => by simp [Di]
  | x :: v, f => by
    simp only [Di, List.mem_append, not_or]
    exact ⟨Rz _ _ _, RB v false⟩
theorem KC (f l : Bool) (x : UInt8) : (MS f l x).length ≤ 3 := by
 unfold MS; split
 ·simp
 ·split <;> simp
theorem Hv : ∀ (v : Str) (f : Bool), (Di f v).length ≤ 3 * v.length
  | [], _ => by simp [Di]
  | x :: v, f => by
    have := KC f v.isEmpty x
    have := Hv v false
    simp only [Di, List.length_append, List.length_cons]
    omega
end Go.Idl
namespace Go.Idl
open Go Go.Lib
def Ip : List (Int × Bool) := AT (AT (AT (AT (AT (AT (AT (AT [] 44 true) 43 true) 34 true) 92 true) 60 true) 62 true) 59 true) 61 true
theorem RC : ∀ n : Fin 256, (B8 Ip (n.1 : Int)).getD false = Cs (UInt8.ofNat n.1) := by decide +kernel
theorem FF (x : UInt8) : (B8 Ip (x.toNat : Int)).getD false = Cs x := by
 have := RC ⟨x.toNat, x.toNat_lt⟩; simpa using this
theorem RD : ∀ n : Fin 256, EL .u8 (n.1 : Int) 15 = ((n.1 % 16 : Nat) : Int) := by decide +kernel
theorem fX (x : UInt8) : EL .u8 (x.toNat : Int) 15 = ((x.toNat % 16 : Nat) : Int) := RD ⟨x.toNat, x.toNat_lt⟩
theorem fY (x : UInt8) : ((x.toNat : Nat) : Int).fdiv 16 = ((x.toNat / 16 : Nat) : Int) := by
 rw [Int.fdiv_eq_ediv_of_nonneg _ (by omega)]; omega
theorem ZO (s out : Str) (i : Nat) (b : Bool) (hi : i < s.length) (hl : s.length ≤ 1000000) (ho : out.length ≤ 10000000) : Ck s (i : Int) out b = some (.inl (out ++ (if b = true then [92, s[i]] else [s[i]]), ((i + 1 : Nat) : Int))) := by
 have hx := s[i].toNat_lt; unfold Ck; rw [Int.toNat_natCast, getD_some hi, AK (by omega)]; cases b with
 | true =>
  simp only [if_true]; rw [Ab (by simp; omega), Ab (by omega), Ab (by simp; omega)]; simp
 | false =>
  simp only [Bool.false_eq_true, if_false]; rw [Ab (by omega), Ab (by simp; omega)]; simp
set_option maxRecDepth 20000 in
theorem Ux (s out : Str) (i : Nat) (hi : i < s.length) (hl : s.length ≤ 1000000) (ho : out.length ≤ 10000000) :
    Gl s Ip out (i : Int) = some (.inl (out ++ MS (decide (i = 0)) (decide (i + 1 = s.length)) s[i], ((i + 1 : Nat) : Int))) := by
 have hx := s[i].toNat_lt; have hgd : s.getD i 0 = s[i] := getD_some hi _; have hw : IntKind.i64.wrap ((s.length : Int) - 1) = (s.length : Int) - 1 := wrap_i64 (by omega) (by omega); have hlast : ((i : Int) = (s.length : Int) - 1) ↔ i + 1 = s.length := by omega
 have hk := fun b => ZO s out i b hi hl ho; simp only [Gl]; rw [if_pos (by omega), Ab (by omega), Int.toNat_natCast, hgd, FF, fX, fY, hw]; simp only [hk, Int.toNat_natCast, UInt8.ofNat_toNat]; generalize s[i] = x at *; have h16 : x.toNat % 16 < 16 := by omega
 have h16' : x.toNat / 16 < 16 := by omega
 have q1 := (([48, 49, 50, 51, 52, 53, 54, 55, 56, 57, 97, 98, 99, 100, 101, 102] : List UInt8).getD (x.toNat / 16) 0).toNat_lt; have q2 := (([48, 49, 50, 51, 52, 53, 54, 55, 56, 57, 97, 98, 99, 100, 101, 102] : List UInt8).getD (x.toNat % 16) 0).toNat_lt; unfold MS ZN; by_cases a1 : x.toNat < 32
 ·rw [if_pos (by omega), if_pos (by simp; omega), Ab (by simp; omega), Ab (by simp; omega), Ab (by omega), Ab (by omega), Ab (by simp; omega), AK (by omega)]; rfl
 ·rw [if_neg (by omega)]; by_cases a2 : 126 < x.toNat
  ·rw [if_pos (by omega), if_pos (by simp; omega), Ab (by simp; omega), Ab (by simp; omega), Ab (by omega), Ab (by omega), Ab (by simp; omega), AK (by omega)]; rfl
  ·rw [if_neg (by omega), if_neg (c := decide (x.toNat < 32 ∨ 126 < x.toNat) = true) (by simp; omega)]; by_cases a3 : Cs x = true
   ·simp [a3]
   ·have e32 : x = 32 ↔ x.toNat = 32 := by rw [← UInt8.toNat_inj]; rfl
    have e35 : x = 35 ↔ x.toNat = 35 := by rw [← UInt8.toNat_inj]; rfl
    have f32 : ((x.toNat : Int) = 32) ↔ x.toNat = 32 := by omega
    have f35 : ((x.toNat : Int) = 35) ↔ x.toNat = 35 := by omega
    have fi : ((i : Int) = 0) ↔ i = 0 := by omega
    simp only [a3, hlast, e32, e35, f32, f35, fi, Bool.false_eq_true, if_false, Bool.false_or, Bool.or_eq_true, Bool.and_eq_true, decide_eq_true_eq, if_true]; by_cases b1 : i = 0
    ·by_cases b2 : x.toNat = 32
     ·simp [b1, b2]
     ·by_cases b3 : x.toNat = 35
      ·simp [b1, b3]
      ·by_cases b4 : i + 1 = s.length
       ·simp [b1, b2, b3]
       ·simp [b1, b2, b3]
    ·by_cases b4 : i + 1 = s.length
     ·simp [b1, b4]
     ·simp [b1, b4]
theorem O8 (s : Str) (hl : s.length ≤ 1000000) : ∀ (k j : Nat) (out : Str), j + k = s.length → out.length ≤ 3 * j →
    AD (fun (v : Str × Int) => Gl s Ip v.1 v.2) (out, (j : Int)) = some (out ++ Di (decide (j = 0)) (s.drop j))
  | 0, j, out, h, ho => by
    refine Av ?_
    simp only [Gl]
    rw [if_neg (by omega), List.drop_of_length_le (by omega)]
    simp [Di]
  | k + 1, j, out, h, ho => by
    have hj : j < s.length := by omega
    rw [AR (Ux s out j hj hl (by omega)), O8 s hl k (j + 1) _ (by omega) (by
      have := KC (decide (j = 0)) (decide (j + 1 = s.length)) s[j]
      rw [List.length_append]; omega)]
    rw [List.drop_eq_getElem_cons hj, Di, List.append_assoc]
    have e1 : (s.drop (j + 1)).isEmpty = decide (j + 1 = s.length) := by
      by_cases q : j + 1 = s.length
      · rw [decide_eq_true q, List.drop_of_length_le (by omega)]; rfl
      · rw [decide_eq_false q, List.drop_eq_getElem_cons (by omega)]; rfl
    rw [e1]
    simp
theorem ZP (s : Str) (hl : s.length ≤ 1000000) : F91 s = some (Di true s) := by
 unfold F91; rw [show P0 = some Ip from rfl]; simp only [Option.bind_some]; have := O8 s hl s.length 0 [] (by omega) (by simp); rw [show ((0 : Nat) : Int) = 0 from rfl] at this; rw [Ab (by omega), this]; simp [Mq]
def KD (d : List S89) : Str := match d with | [] => [] | _ :: _ => 44 :: E4 d
theorem Ey (r : S89) (d : List S89) : E4 (r :: d) = r.fType ++ 61 :: (Di true r.A7 ++ KD d) := rfl
theorem Uy (d : List S89) (i : Nat) (hi : i < d.length) (hl : d.length ≤ 16) (hr : CB d[i] = true) (out : Str) (ho : out.length ≤ 1000000) : Fv d (i : Int) out = some (.inl (out ++ (d[i].fType ++ 61 :: Di true d[i].A7), ((i + 1 : Nat) : Int))) := by
 simp only [CB, BI, Bool.and_eq_true, decide_eq_true_eq] at hr; have h2 := Hv d[i].A7 true; have hg : d.getD i S89.zero = d[i] := getD_some hi _; unfold Fv; rw [Int.toNat_natCast, hg, ZP _ (by omega), AK (by omega)]; simp only [Option.bind_some]; rw [Ab (by simp; omega), Ab (by simp; omega), Ab (by simp; omega)]; simp
theorem O9 (d : List S89) (hl : d.length ≤ 16) (h : ∀ x ∈ d, CB x = true) : ∀ (k j : Nat) (out : Str), j + k = d.length → out.length ≤ 1000 * j →
    AD (fun (s : Str × Int) => Ek d s.1 s.2) (out, (j : Int)) = some (out ++ if j = 0 then E4 d else KD (d.drop j))
  | 0, j, out, hk, ho => by
    refine Av ?_
    simp only [Ek]
    rw [if_neg (by omega)]
    by_cases h0 : j = 0
    · have : d = [] := List.length_eq_zero_iff.1 (by omega)
      simp [h0, this, E4]
    · rw [if_neg h0, List.drop_of_length_le (by omega)]
      simp [KD]
  | k + 1, j, out, hk, ho => by
    have hj : j < d.length := by omega
    have hm := h _ (List.getElem_mem hj)
    have hr := hm
    simp only [CB, BI, Bool.and_eq_true, decide_eq_true_eq] at hr
    have h2 := Hv d[j].A7 true
    have key : Ek d out (j : Int) = some (.inl ((out ++ if j = 0 then [] else [44]) ++ (d[j].fType ++ 61 :: Di true d[j].A7), ((j + 1 : Nat) : Int))) := by
      simp only [Ek]
      rw [if_pos (by omega), Ab (by omega)]
      by_cases h0 : j = 0
      · rw [if_neg (by omega), if_pos h0, List.append_nil, Uy d j hj hl hm out (by omega)]
      · rw [if_pos (by omega), if_neg h0, Ab (by simp; omega), Uy d j hj hl hm _ (by simp; omega)]
    rw [AR (s' := ((out ++ if j = 0 then [] else [44]) ++ (d[j].fType ++ 61 :: Di true d[j].A7), ((j + 1 : Nat) : Int))) key, O9 d hl h k (j + 1) _ (by omega) (by
      simp only [List.length_append, List.length_cons]
      have : (if j = 0 then [] else [44] : Str).length ≤ 1 := by split <;> simp
      omega)]
    have hn : ¬ j + 1 = 0 := by omega
    by_cases h0 : j = 0
    · subst h0
      match d, hj with
      | r :: d, _ => simp [Ey]
    · rw [if_neg h0, if_neg h0, if_neg hn, List.drop_eq_getElem_cons hj]
      simp only [KD, Ey]
      simp
theorem Uz (d : List S89) (h : BL d = true) : F60 d = some (E4 d, 0) := by
 have h' := h; simp only [BL, Bool.and_eq_true, decide_eq_true_eq, List.all_eq_true] at h'
 have hb : Rq d := ⟨by omega, fun x hx => by
   have := h'.2 x hx
   simp only [CB, BI, Bool.and_eq_true, decide_eq_true_eq] at this
   omega⟩
 unfold F60; rw [U0 d hb, if_pos h]; simp only [Option.bind_some]; have := O9 d h'.1 h'.2 d.length 0 [] (by omega) (by simp); rw [show ((0 : Nat) : Int) = 0 from rfl] at this; rw [if_neg (by simp), this]; simp [J5]
end Go.Idl
namespace Go.Idl
open Go Go.Proofs.Tryz
set_option pp.deepTerms false
def FL (x : UInt8) : Option Nat := if 48 ≤ x.toNat ∧ x.toNat ≤ 57 then some (x.toNat - 48) else if 97 ≤ x.toNat ∧ x.toNat ≤ 102 then some (x.toNat - 87) else if 65 ≤ x.toNat ∧ x.toNat ≤ 70 then some (x.toNat - 55) else none
def KE (y : UInt8) : Bool := Cs y || decide (y = 32) || decide (y = 35)
def DP : Str → Option (UInt8 × Str)
  | [] => none
  | y :: r => if KE y = true then some (y, r) else match r with
    | [] => none
    | z :: r' => (FL y).bind fun a => (FL z).bind fun b => some (UInt8.ofNat (16 * a + b), r')
def Hw (first : Bool) (x : UInt8) : Bool := !Cs x && decide (32 ≤ x.toNat) && decide (x.toNat ≤ 126) && (!first || (decide (¬ x = 32) && decide (¬ x = 35)))
def KZ (blank : Bool) (out s : Str) : Option (Str × Str) := if blank = false ∧ 1 ≤ out.length ∧ out.length ≤ 200 then some (out, s) else none
def Fk : Nat → Bool → Str → Str → Option (Str × Str)
  | 0, _, _, _ => none
  | n + 1, blank, out, s =>
    match s with
    | [] => KZ blank out []
    | x :: r => if x = 44 then KZ blank out (x :: r) else if x = 92 then (DP r).bind fun p => Fk n false (out ++ [p.1]) p.2 else if Hw (decide (out = [])) x = true then Fk n (decide (x = 32)) (out ++ [x]) r else none
def DA (s : Str) : Option (S89 × Str) :=
  match AP s 61 with
  | none => none
  | some p => if BI p.1 = true then (Fk (p.2.length + 1) false [] p.2).map fun q => (⟨p.1.map BU, q.1⟩, q.2) else none
def DQ : Nat → Str → Option (List S89)
  | 0, _ => none
  | n + 1, s => (DA s).bind fun p => match p.2 with | [] => some [p.1] | _ :: r => (DQ n r).map (p.1 :: ·)
def Ez (s : Str) : Option (List S89) := if s = [] then some [] else DQ 16 s
def At (p r : Str) : AI := ⟨p ++ r, (p.length : Int)⟩
theorem DB {p r : Str} {x : UInt8} (h : (p ++ x :: r).length ≤ 10000000) : (⟨(At p (x :: r)).fs, IntKind.i64.wrap ((At p (x :: r)).fat + 1)⟩ : AI) = At (p ++ [x]) r := by
 simp only [List.length_append, List.length_cons] at h; simp only [At, AK (show p.length < 9223372036854775807 by omega)]; simp
def hdN : Str → Int × Bool
  | [] => (0, false)
  | x :: _ => ((x.toNat : Int), true)
theorem CH (p r : Str) : IZ (At p r) = some (hdN r) := by
 unfold IZ At hdN; cases r with
 | nil => simp
 | cons x r =>
  simp only [List.length_append, List.length_cons]; rw [if_neg (by omega)]; refine Ab ⟨by omega, by omega⟩ |>.trans ?_
  simp [List.getD_eq_getElem?_getD]
theorem LJ : ∀ (r p : Str), (p ++ r).length ≤ 10000000 → AD (fun s : Int × Bool × AI => Dx s.1 s.2.1 s.2.2) ((hdN r).1, (hdN r).2, At p r) =
    some (match AP r 61 with | none => At (p ++ r) [] | some q => At (p ++ q.1) (61 :: q.2))
  | [], p, h => by
    refine Av ?_
    simp [Dx, AP, hdN]
  | y :: r, p, h => by
    by_cases hy : y = 61
    · subst hy
      refine Av ?_
      simp [Dx, AP, hdN]
    · have hn : ¬ (y.toNat : Int) = 61 := fun e => hy ((Kv 61 rfl).1 e)
      have e1 : Dx (y.toNat : Int) true (At p (y :: r)) = some (.inl ((hdN r).1, (hdN r).2, At (p ++ [y]) r)) := by
        unfold Dx
        rw [if_pos rfl, if_pos hn, DB h, CH]
        rfl
      rw [show ((hdN (y :: r)).1, (hdN (y :: r)).2, At p (y :: r)) = ((y.toNat : Int), true, At p (y :: r)) from rfl, AR e1, LJ r (p ++ [y]) (by simpa using h)]
      have : AP (y :: r) 61 = (AP r 61).map fun p => (y :: p.1, p.2) := by rw [AP, if_neg hy]
      rw [this]
      cases AP r 61 <;> simp
theorem Wt (p r : Str) (h : (p ++ r).length ≤ 1000000) : U8 (At p r) = some (match AP r 61 with | none => .error () | some q => if BI q.1 = true then .ok (q.1.map BU, At (p ++ q.1 ++ [61]) q.2) else .error ()) := by
 unfold U8; rw [CH, Option.bind_some, LJ r p (by omega), Option.bind_some]; have hlen := h; simp only [List.length_append] at hlen; cases hc : AP r 61 with
 | none =>
  simp only []; unfold Hr; rw [CH, Option.bind_some]; simp only [At, hdN, Bool.false_eq_true, if_false]; rw [Ab (by omega), Ab (by simp; omega), Ab (by simp)]
 | some q =>
  obtain ⟨t, r'⟩ := q; obtain ⟨h1, h2⟩ := BK.1 hc; subst h1; simp only [List.length_append, List.length_cons] at hlen; simp only []; unfold Hr; rw [CH, Option.bind_some]; have e0 : List.drop p.length (List.take (p ++ t).length (p ++ t ++ 61 :: r')) = t := by
   rw [List.take_left, List.drop_left]
  have e1 : ∀ {α : Type} (f g : α), (if true = true then f else g) = f := fun _ _ => rfl; rw [Ab (by simp [At]), Ab (by simp [At]; omega), Ab (by simp [At]; omega)]; simp only [At, hdN, Int.toNat_natCast, e0, e1]; rw [TV t (by omega), Option.bind_some]; cases hn : BI t with
  | false => simp
  | true =>
   simp only [if_true]; rw [T_ t (by omega), Option.bind_some, AK (by simp; omega)]; simp; omega
end Go.Idl
namespace Go.Idl
open Go Go.Proofs.Tryz
set_option pp.deepTerms false
theorem Wu : ∀ n : Fin 256, (if decide (48 ≤ n.1 ∧ n.1 ≤ 57) = true then IntKind.u8.wrap ((n.1 : Int) - 48) else if decide (97 ≤ n.1 ∧ n.1 ≤ 102) = true then IntKind.u8.wrap ((IntKind.u8.wrap ((n.1 : Int) - 97)) + 10) else if decide (65 ≤ n.1 ∧ n.1 ≤ 70) = true then IntKind.u8.wrap ((IntKind.u8.wrap ((n.1 : Int) - 65)) + 10) else 16) = (((FL (UInt8.ofNat n.1)).getD 16 : Nat) : Int) := by decide +kernel
theorem Qh (x : UInt8) : O1 (x.toNat : Int) = some (((FL x).getD 16 : Nat) : Int) := by
 have h := Wu ⟨x.toNat, x.toNat_lt⟩; simp only [UInt8.ofNat_toNat] at h; unfold O1; rw [← h, show FK (x.toNat : Int) 48 57 = _ from FB x 48 57, Option.bind_some]; split
 ·rfl
 ·rw [show FK (x.toNat : Int) 97 102 = _ from FB x 97 102, Option.bind_some]; split
  ·rfl
  ·rw [show FK (x.toNat : Int) 65 70 = _ from FB x 65 70, Option.bind_some]; split <;> rfl
theorem Jj {x : UInt8} {a : Nat} (h : FL x = some a) : a < 16 := by
 unfold FL at h; split at h
 ·cases h; omega
 ·split at h
  ·cases h; omega
  ·split at h
   ·cases h; omega
   ·cases h
theorem fZ : ∀ a b : Fin 16, orI .u8 (IntKind.u8.wrap ((a.1 : Int) * 16)) (b.1 : Int) = ((16 * a.1 + b.1 : Nat) : Int) := by decide +kernel
theorem Oa {r r' : Str} {y : UInt8} (h : DP r = some (y, r')) : r'.length < r.length := by
 cases r with
 | nil => cases h
 | cons z r =>
  simp only [DP] at h; split at h
  ·cases h; simp
  ·cases r with
   | nil => cases h
   | cons w r =>
    simp only [Option.bind_eq_some_iff] at h; obtain ⟨a, _, b, _, h⟩ := h; cases h; simp; omega
theorem Pv : P0 = some Ip := rfl
theorem AZ {x c : UInt8} {n : Nat} (hc : c.toNat = n) : ((x.toNat : Int) = (n : Int)) ↔ x = c := Kv c hc
theorem Wv (p r : Str) (h : (p ++ r).length ≤ 10000000) :
    (DP r = none → Rt (At p r) = some (.error ())) ∧ ∀ y r', DP r = some (y, r') → ∃ p', p' ++ r' = p ++ r ∧ Rt (At p r) = some (.ok ((y.toNat : Int), At p' r')) := by
 unfold Rt; rw [CH, Option.bind_some]; cases r with
 | nil => exact ⟨fun _ => rfl, fun _ _ h => (by cases h)⟩
 | cons y r =>
  rw [show (hdN (y :: r)).2 = true from rfl, if_pos rfl, Pv, Option.bind_some, show (hdN (y :: r)).1 = (y.toNat : Int) from rfl, FF, DB h]; have e32 : ((y.toNat : Int) = 32) ↔ y = 32 := AZ (c := 32) rfl; have e35 : ((y.toNat : Int) = 35) ↔ y = 35 := AZ (c := 35) rfl; by_cases hp : KE y = true
  ·have e1 : DP (y :: r) = some (y, r) := by rw [DP.eq_def]; simp only [hp, if_true]
   rw [e1]; refine ⟨fun h => (by cases h), fun y' r' h' => ?_⟩; cases h'; refine ⟨p ++ [y], by simp, ?_⟩; simp only [KE, Bool.or_eq_true, decide_eq_true_eq] at hp; by_cases hs : Cs y = true
   ·rw [if_pos hs]
   ·rw [if_neg hs]; by_cases h3 : y = 32
    ·rw [if_pos (e32.2 h3)]
    ·rw [if_neg (fun e => h3 (e32.1 e))]; have h4 : y = 35 := by
      rcases hp with (hp | hp) | hp
      ·exact absurd hp hs
      ·exact absurd hp h3
      ·exact hp
     rw [if_pos (e35.2 h4)]
  ·have hs : ¬ Cs y = true := fun e => hp (by simp [KE, e]); have h3 : ¬ y = 32 := fun e => hp (by simp [KE, e]); have h4 : ¬ y = 35 := fun e => hp (by simp [KE, e]); rw [if_neg hs, if_neg (fun e => h3 (e32.1 e)), if_neg (fun e => h4 (e35.1 e)), CH, Option.bind_some]; cases r with
   | nil =>
    have e1 : DP [y] = none := by rw [DP.eq_def]; simp only [hp]; rfl
    rw [e1]; exact ⟨fun _ => rfl, fun _ _ h => by cases h⟩
   | cons z r =>
    have e1 : DP (y :: z :: r) = (FL y).bind fun a => (FL z).bind fun b => some (UInt8.ofNat (16 * a + b), r) := by rw [DP.eq_def]; simp only [hp]; rfl
    rw [e1, show (hdN (z :: r)).2 = true from rfl, if_pos rfl, show (hdN (z :: r)).1 = (z.toNat : Int) from rfl, Qh, Option.bind_some]; cases hy : FL y with
    | none => exact ⟨fun _ => rfl, fun _ _ h => by cases h⟩
    | some a =>
     have ha := Jj hy; rw [Option.getD_some, if_pos (by omega), Qh, Option.bind_some]; cases hz : FL z with
     | none => exact ⟨fun _ => rfl, fun _ _ h => by cases h⟩
     | some b =>
      have hb := Jj hz; simp only [Option.getD_some, Option.bind_some]; rw [if_pos (by omega)]; refine ⟨fun h => (by cases h), fun y' r' h' => ?_⟩; cases h'; refine ⟨p ++ [y] ++ [z], by simp, ?_⟩; have e2 := fZ ⟨a, ha⟩ ⟨b, hb⟩; simp only at e2; rw [e2]; have e3 : (UInt8.ofNat (16 * a + b)).toNat = 16 * a + b := by
       rw [UInt8.toNat_ofNat']; exact Nat.mod_eq_of_lt (by omega)
      rw [e3]; have h' : (p ++ [y] ++ z :: r).length ≤ 10000000 := by simpa using h
      have e4 := DB h'; have e5 : (At p (y :: z :: r)).fs = (At (p ++ [y]) (z :: r)).fs := by simp [At]
      have e6 : IntKind.i64.wrap ((At p (y :: z :: r)).fat + 1) = (At (p ++ [y]) (z :: r)).fat := by
       have := congrArg AI.fat (DB h); simpa using this
      rw [← e4, e5, e6]
theorem LK (p r : Str) (x : Int) (out : Str) : CQ x out (At p r) = some (.inl (out, false, decide (x = 32), (hdN r).1, (hdN r).2, At p r)) := by
 unfold CQ; rw [CH]; rfl
noncomputable def RF (y : ((List UInt8) × Bool × AI) ⊕ (Except Unit ((List UInt8) × AI))) : Option (Except Unit ((List UInt8) × AI)) := Sum.elim (fun (e : (List UInt8) × Bool × AI) => Hs e.1 e.2.1 e.2.2) (fun (q : Except Unit ((List UInt8) × AI)) => some q) y
noncomputable abbrev stV := fun (s : (List UInt8) × Bool × Bool × Int × Bool × AI) => CG s.1 s.2.1 s.2.2.1 s.2.2.2.1 s.2.2.2.2.1 s.2.2.2.2.2
theorem Ob (blank : Bool) (out p r : Str) : (KZ blank out r = none → RF (.inl (out, blank, At p r)) = some (.error ())) ∧ ∀ v r', KZ blank out r = some (v, r') → r' = r ∧ RF (.inl (out, blank, At p r)) = some (.ok (v, At p r)) := by
 unfold KZ RF; simp only [Sum.elim_inl]; unfold Hs; cases blank with
 | true => simp
 | false =>
  by_cases h1 : 1 ≤ out.length
  ·by_cases h2 : out.length ≤ 200
   ·have a1 : (1 : Int) ≤ (out.length : Int) := by omega
    have a2 : (out.length : Int) ≤ 200 := by omega
    simp only [Bool.false_eq_true, not_false_eq_true, if_true, a1, a2, h1, h2, and_self, reduceCtorEq, false_implies, true_and, Option.some.injEq, Prod.mk.injEq]
    rintro v r' ⟨rfl, rfl⟩
    exact ⟨rfl, rfl⟩
   ·have a2 : ¬ (out.length : Int) ≤ 200 := by omega
    simp [h1, h2, a2]
  ·have a1 : ¬ (1 : Int) ≤ (out.length : Int) := by omega
   simp [h1, a1]
theorem Iq : ∀ (n : Nat) (p r out : Str) (blank : Bool), r.length < n → (p ++ r).length ≤ 10000000 → out.length + r.length ≤ 10000000 →
    (Fk n blank out r = none → (AD stV (out, decide (out = []), blank, (hdN r).1, (hdN r).2, At p r)).bind RF = some (.error ())) ∧
    ∀ v r', Fk n blank out r = some (v, r') → ∃ p', p' ++ r' = p ++ r ∧ (AD stV (out, decide (out = []), blank, (hdN r).1, (hdN r).2, At p r)).bind RF = some (.ok (v, At p' r'))
  | 0, _, _, _, _ => fun h => absurd h (Nat.not_lt_zero _)
  | n + 1, p, [], out, blank => fun _ _ _ => by
    have e : AD stV (out, decide (out = []), blank, (hdN []).1, (hdN []).2, At p []) = some (.inl (out, blank, At p [])) := by
      refine Av ?_
      simp [stV, CG, hdN]
    rw [e, Option.bind_some]
    have := Ob blank out p []
    refine ⟨fun h => this.1 h, fun v r' h => ?_⟩
    obtain ⟨h1, h2⟩ := this.2 v r' h
    exact ⟨p, by rw [h1], by rw [h1]; exact h2⟩
  | n + 1, p, x :: r, out, blank => fun hn hp ho => by
    have e44 : ((x.toNat : Int) = 44) ↔ x = 44 := AZ (c := 44) rfl
    have e92 : ((x.toNat : Int) = 92) ↔ x = 92 := AZ (c := 92) rfl
    have e32 : ((x.toNat : Int) = 32) ↔ x = 32 := AZ (c := 32) rfl
    have e35 : ((x.toNat : Int) = 35) ↔ x = 35 := AZ (c := 35) rfl
    simp only [List.length_cons] at hn ho
    rw [Fk]
    rw [show (hdN (x :: r)).1 = (x.toNat : Int) from rfl, show (hdN (x :: r)).2 = true from rfl]
    by_cases h44 : x = 44
    · subst h44
      have e : AD stV (out, decide (out = []), blank, ((44 : UInt8).toNat : Int), true, At p (44 :: r)) = some (.inl (out, blank, At p (44 :: r))) := by
        refine Av ?_
        simp [stV, CG]
      rw [e, Option.bind_some, if_pos rfl]
      have := Ob blank out p (44 :: r)
      refine ⟨fun h => this.1 h, fun v r' h => ?_⟩
      obtain ⟨h1, h2⟩ := this.2 v r' h
      exact ⟨p, by rw [h1], by rw [h1]; exact h2⟩
    · rw [if_neg h44]
      have h44' : ¬ (x.toNat : Int) = 44 := fun e => h44 (e44.1 e)
      have hp' : (p ++ [x] ++ r).length ≤ 10000000 := by simpa using hp
      by_cases h92 : x = 92
      · subst h92
        rw [if_pos rfl]
        obtain ⟨t1, t2⟩ := Wv (p ++ [92]) r hp'
        cases he : DP r with
        | none =>
          have e : stV (out, decide (out = []), blank, ((92 : UInt8).toNat : Int), true, At p (92 :: r)) = some (.inr (.inr (.error ()))) := by
            simp only [stV, CG, if_true]
            rw [if_pos (by decide), if_pos (by decide), DB hp, t1 he]
            rfl
          rw [Av e]
          exact ⟨fun _ => rfl, fun v r' h => (by cases h)⟩
        | some q =>
          obtain ⟨y, r1⟩ := q
          obtain ⟨p1, hp1, t3⟩ := t2 y r1 he
          have hl := Oa he
          have e : stV (out, decide (out = []), blank, ((92 : UInt8).toNat : Int), true, At p (92 :: r)) = some (.inl (out ++ [y], decide (out ++ [y] = []), false, (hdN r1).1, (hdN r1).2, At p1 r1)) := by
            simp only [stV, CG, if_true]
            rw [if_pos (by decide), if_pos (by decide), DB hp, t3, Option.bind_some]
            simp only [orP]
            have hy := y.toNat_lt
            rw [Ab (by omega), Ab (by simp; omega), Int.toNat_natCast, LK]
            simp
          rw [AR e, Option.bind_some]
          have ih := Iq n p1 r1 (out ++ [y]) false (by omega) (by rw [hp1]; simpa using hp) (by simp; omega)
          refine ⟨ih.1, fun v r' h => ?_⟩
          obtain ⟨p2, h1, h2⟩ := ih.2 v r' h
          exact ⟨p2, by rw [h1, hp1]; simp, h2⟩
      · rw [if_neg h92]
        have h92' : ¬ (x.toNat : Int) = 92 := fun e => h92 (e92.1 e)
        have hx := x.toNat_lt
        by_cases hf : Hw (decide (out = [])) x = true
        · have e : stV (out, decide (out = []), blank, (x.toNat : Int), true, At p (x :: r)) = some (.inl (out ++ [x], decide (out ++ [x] = []), decide (x = 32), (hdN r).1, (hdN r).2, At (p ++ [x]) r)) := by
            simp only [stV, CG, if_true]
            rw [if_pos h44', if_neg h92', Pv, Option.bind_some, FF, DB hp]
            simp only [Hw, Bool.and_eq_true, Bool.or_eq_true, Bool.not_eq_true', decide_eq_true_eq, decide_eq_false_iff_not] at hf
            obtain ⟨⟨⟨f1, f2⟩, f3⟩, f4⟩ := hf
            rw [f1]
            have g2 : (32 : Int) ≤ (x.toNat : Int) := by omega
            have g3 : (x.toNat : Int) ≤ 126 := by omega
            have gp : gd (0 ≤ (x.toNat : Int) ∧ (x.toNat : Int) ≤ 255) (gd ((out.length + [UInt8.ofNat ((x.toNat : Int)).toNat].length) * 1 ≤ 140737488355328) (CQ (x.toNat : Int) (out ++ [UInt8.ofNat ((x.toNat : Int)).toNat]) (At (p ++ [x]) r))) = some (.inl (out ++ [x], decide (out ++ [x] = []), decide (x = 32), (hdN r).1, (hdN r).2, At (p ++ [x]) r)) := by
              rw [Ab (by omega), Ab (by simp; omega), Int.toNat_natCast, LK]
              simp [e32]
            simp only [Bool.false_eq_true, not_false_eq_true, if_true, g2, g3]
            by_cases ho' : out = []
            · rcases f4 with f4 | ⟨f4, f5⟩
              · exact absurd ho' f4
              · have f4' : ¬ (x.toNat : Int) = 32 := fun e => f4 (e32.1 e)
                have f5' : ¬ (x.toNat : Int) = 35 := fun e => f5 (e35.1 e)
                simp only [ho', decide_true, not_true_eq_false, if_false, f4', f5', not_false_eq_true, if_true]
                rw [ho'] at gp
                exact gp
            · simp only [ho', decide_false, Bool.false_eq_true, not_false_eq_true, if_true]
              simp only [List.append_eq_nil_iff, ho', false_and, decide_false] at gp ⊢
              exact gp
          rw [AR e, if_pos hf]
          have ih := Iq n (p ++ [x]) r (out ++ [x]) (decide (x = 32)) (by omega) hp' (by simp; omega)
          refine ⟨ih.1, fun v r' h => ?_⟩
          obtain ⟨p2, h1, h2⟩ := ih.2 v r' h
          exact ⟨p2, by rw [h1]; simp, h2⟩
        · rw [if_neg hf]
          have e : stV (out, decide (out = []), blank, (x.toNat : Int), true, At p (x :: r)) = some (.inr (.inr (.error ()))) := by
            simp only [stV, CG, if_true]
            rw [if_pos h44', if_neg h92', Pv, Option.bind_some, FF]
            by_cases f1 : Cs x = true
            · rw [if_neg (by simp [f1])]
            · rw [if_pos (by simpa using f1)]
              by_cases f2 : 32 ≤ x.toNat
              · rw [if_pos (by omega)]
                by_cases f3 : x.toNat ≤ 126
                · rw [if_pos (by omega)]
                  by_cases f0 : out = []
                  · rw [if_neg (by simp [f0])]
                    by_cases f4 : x = 32
                    · rw [if_neg (by simp [f4])]
                    · rw [if_pos (fun e => f4 (e32.1 e))]
                      have f5 : x = 35 := by
                        apply Classical.byContradiction
                        intro f5
                        exact hf (by simp [Hw, f1, f2, f3, f4, f5])
                      rw [if_neg (by simp [f5])]
                  · exact absurd (by simp [Hw, f1, f2, f3, f0]) hf
                · rw [if_neg (by omega)]
              · rw [if_neg (by omega)]
          rw [Av e]
          exact ⟨fun _ => rfl, fun v r' h => (by cases h)⟩
theorem Ww (p r : Str) (h : (p ++ r).length ≤ 1000000) : (Fk (r.length + 1) false [] r = none → Pm (At p r) = some (.error ())) ∧ ∀ v r', Fk (r.length + 1) false [] r = some (v, r') → ∃ p', p' ++ r' = p ++ r ∧ Pm (At p r) = some (.ok (v, At p' r')) := by
 have := Iq (r.length + 1) p r [] false (by omega) (by omega) (by simp only [List.length_append] at h; simp; omega); have e : Pm (At p r) = (AD stV ([], true, false, (hdN r).1, (hdN r).2, At p r)).bind RF := by
  unfold Pm; rw [CH, Option.bind_some]; rfl
 rw [e]; exact this
end Go.Idl
namespace Go.Idl
open Go Go.Proofs.Tryz
set_option pp.deepTerms false
theorem Qi (p r : Str) (h : (p ++ r).length ≤ 1000000) : (DA r = none → Ru (At p r) = some (.error ())) ∧ ∀ v r', DA r = some (v, r') → ∃ p', p' ++ r' = p ++ r ∧ Ru (At p r) = some (.ok (v, At p' r')) := by
 unfold Ru DA; rw [Wt p r h, Option.bind_some]; cases hc : AP r 61 with
 | none => exact ⟨fun _ => rfl, fun _ _ h => (by cases h)⟩
 | some q =>
  obtain ⟨t, r1⟩ := q; obtain ⟨h1, _⟩ := BK.1 hc; simp only []; cases hn : BI t with
  | false => exact ⟨fun _ => rfl, fun _ _ h => (by cases h)⟩
  | true =>
   simp only [if_true]; have hp : (p ++ t ++ [61]) ++ r1 = p ++ r := by rw [h1]; simp
   obtain ⟨v1, v2⟩ := Ww (p ++ t ++ [61]) r1 (by rw [hp]; exact h); cases hv : Fk (r1.length + 1) false [] r1 with
   | none =>
    refine ⟨fun _ => ?_, fun _ _ h => (by cases h)⟩; simp only [orP, v1 hv, Option.bind_some]
   | some w =>
    obtain ⟨v, r2⟩ := w; obtain ⟨p2, h3, h4⟩ := v2 v r2 hv; refine ⟨fun h => (by cases h), fun v' r' h' => ?_⟩; cases h'; refine ⟨p2, by rw [h3, hp], ?_⟩; simp only [orP, h4, Option.bind_some]
noncomputable abbrev stP (s : Str) := fun (x : (List S89) × AI) => Et s x.1 x.2
noncomputable def endP (y : ((List S89) × AI) ⊕ ((List S89) × Int)) : Option ((List S89) × Int) := Sum.elim (fun (e : (List S89) × AI) => MN e.1 e.2) (fun (q : (List S89) × Int) => some q) y
def UA (d : List S89) : Option (List S89) → (List S89) × Int
  | some l => (d ++ l, 0)
  | none => ([], 160)
theorem Oc (s : Str) (hs : s ≠ []) (hl : s.length ≤ 1000000) : ∀ (n : Nat) (p r : Str) (d : List S89), p ++ r = s → d.length + n = 16 → (AD (stP s) (d, At p r)).bind endP = some (UA d (DQ n r))
  | 0, p, r, d, hp, hd => by
    obtain ⟨v1, v2⟩ := Qi p r (by rw [hp]; exact hl)
    have e : stP s (d, At p r) = some (.inr (.inr ([], 160))) := by
      simp only [stP, Et]
      rw [if_pos hs]
      cases hq : DA r with
      | none => rw [v1 hq]; rfl
      | some q =>
        obtain ⟨p', _, h2⟩ := v2 q.1 q.2 hq
        rw [h2, Option.bind_some]
        simp only [orP]
        rw [Ab (by simp; omega), if_neg (by simp; omega)]
    rw [Av e]
    rfl
  | n + 1, p, r, d, hp, hd => by
    obtain ⟨v1, v2⟩ := Qi p r (by rw [hp]; exact hl)
    rw [DQ]
    cases hq : DA r with
    | none =>
      have e : stP s (d, At p r) = some (.inr (.inr ([], 160))) := by
        simp only [stP, Et]
        rw [if_pos hs, v1 hq]; rfl
      rw [Av e]
      rfl
    | some q =>
      obtain ⟨v, r1⟩ := q
      obtain ⟨p1, h1, h2⟩ := v2 v r1 hq
      rw [Option.bind_some]
      cases r1 with
      | nil =>
        have e : stP s (d, At p r) = some (.inr (.inl (d ++ [v], At p1 []))) := by
          simp only [stP, Et]
          rw [if_pos hs, h2, Option.bind_some]
          simp only [orP]
          rw [Ab (by simp; omega), if_pos (by simp; omega), CH]
          rfl
        rw [Av e]
        rfl
      | cons x r2 =>
        have hpl : (p1 ++ x :: r2).length ≤ 10000000 := by rw [h1, hp]; omega
        have e : stP s (d, At p r) = some (.inl (d ++ [v], At (p1 ++ [x]) r2)) := by
          simp only [stP, Et]
          rw [if_pos hs, h2, Option.bind_some]
          simp only [orP]
          rw [Ab (by simp; omega), if_pos (by simp; omega), CH, Option.bind_some, DB hpl]
          rfl
        rw [AR e, Oc s hs hl n (p1 ++ [x]) r2 (d ++ [v]) (by rw [← hp, ← h1]; simp) (by simp; omega)]
        simp only []
        cases DQ n r2 <;> simp [UA]
theorem ZQ (s : Str) (hl : s.length ≤ 1000000) : F99 s = some (UA [] (Ez s)) := by
 have e : F99 s = (AD (stP s) ([], (⟨s, 0⟩ : AI))).bind endP := rfl; rw [e]; unfold Ez; by_cases hs : s = []
 ·rw [if_pos hs]; have e1 : stP s ([], (⟨s, 0⟩ : AI)) = some (.inr (.inl ([], (⟨s, 0⟩ : AI)))) := by
   simp [stP, Et, hs]
  rw [Av e1]; rfl
 ·rw [if_neg hs]; have := Oc s hs hl 16 [] s [] rfl rfl; simpa [At] using this
end Go.Idl
namespace Go.Idl
open Go Go.Proofs.Tryz
set_option pp.deepTerms false
theorem UB : ∀ n : Fin 256, Po (n.1 : Int) = some (Cs (UInt8.ofNat n.1)) := by decide +kernel
theorem MT (x : UInt8) : Po (x.toNat : Int) = some (Cs x) := by
 have := UB ⟨x.toNat, x.toNat_lt⟩; simpa using this
theorem UC : ∀ n : Fin 256, O4 (n.1 : Int) = some (match FL (UInt8.ofNat n.1) with | some a => (a : Int) | none => -1) := by decide +kernel
theorem Qj (x : UInt8) : O4 (x.toNat : Int) = some (match FL x with | some a => (a : Int) | none => -1) := by
 have := UC ⟨x.toNat, x.toNat_lt⟩; simpa using this
theorem ZR : ∀ a b : Fin 16, IntKind.u8.wrap (IntKind.i64.wrap ((IntKind.i64.wrap (16 * (a.1 : Int))) + (b.1 : Int))) = ((16 * a.1 + b.1 : Nat) : Int) := by decide +kernel
theorem get_at (p r : Str) (x : UInt8) : (p ++ x :: r).getD p.length 0 = x := by simp [List.getD_eq_getElem?_getD]
theorem Wx (p r : Str) (x y : UInt8) : (p ++ x :: y :: r).getD (p.length + 1) 0 = y := by
 rw [List.getD_eq_getElem?_getD, List.getElem?_append_right (by omega), Nat.add_sub_cancel_left]; rfl
theorem Wy (p r : Str) (x y z : UInt8) : (p ++ x :: y :: z :: r).getD (p.length + 2) 0 = z := by
 rw [List.getD_eq_getElem?_getD, List.getElem?_append_right (by omega), Nat.add_sub_cancel_left]; rfl
theorem UD {i : Nat} (h : i < 9223372036854775000) : IntKind.i64.wrap ((i : Int) + 2) = ((i + 2 : Nat) : Int) := by
 rw [wrap_i64 (by omega) (by omega)]; rfl
def FM (x : UInt8) (r : Str) : Int × Int × Bool :=
  if x = 92 then (match DP r with | none => (0, 0, false) | some q => ((q.1.toNat : Int), ((r.length + 1 - q.2.length : Nat) : Int), true))
  else if Cs x = true then (0, 0, false) else if x.toNat < 32 then (0, 0, false) else if 126 < x.toNat then (0, 0, false) else ((x.toNat : Int), 1, false)
theorem Wz (p r : Str) (x : UInt8) (h : (p ++ x :: r).length ≤ 10000000) : Rv (p ++ x :: r) (p.length : Int) = some (FM x r) := by
 have hl := h; simp only [List.length_append, List.length_cons] at hl; unfold Rv FM; rw [Ab (by simp; omega)]; simp only [Int.toNat_natCast, get_at]; have e92 : ((x.toNat : Int) = 92) ↔ x = 92 := AZ (c := 92) rfl; by_cases h92 : x = 92
 ·subst h92; rw [if_neg (by decide), if_pos rfl, AK (by omega)]; cases r with
  | nil => rw [if_pos (by simp)]; rfl
  | cons y r =>
   simp only [List.length_cons] at hl; rw [if_neg (by simp; omega), Ab (by simp; omega)]; simp only [Int.toNat_natCast, Wx]; rw [MT, Option.bind_some]; have e32 : ((y.toNat : Int) = 32) ↔ y = 32 := AZ (c := 32) rfl; have e35 : ((y.toNat : Int) = 35) ↔ y = 35 := AZ (c := 35) rfl; by_cases hp : KE y = true
   ·have e1 : DP (y :: r) = some (y, r) := by rw [DP.eq_def]; simp only [hp, if_true]
    rw [e1]; have e2 : (((y :: r).length + 1 - r.length : Nat) : Int) = 2 := by simp; omega
    simp only [e2]; simp only [KE, Bool.or_eq_true, decide_eq_true_eq] at hp; by_cases hs : Cs y = true
    ·rw [if_pos hs]
    ·rw [if_neg hs]; by_cases h3 : y = 32
     ·rw [if_pos (e32.2 h3)]
     ·rw [if_neg (fun e => h3 (e32.1 e))]; have h4 : y = 35 := by
       rcases hp with (hp | hp) | hp
       ·exact absurd hp hs
       ·exact absurd hp h3
       ·exact hp
      rw [if_pos (e35.2 h4)]
   ·have hs : ¬ Cs y = true := fun e => hp (by simp [KE, e]); have h3 : ¬ y = 32 := fun e => hp (by simp [KE, e]); have h4 : ¬ y = 35 := fun e => hp (by simp [KE, e]); rw [if_neg hs, if_neg (fun e => h3 (e32.1 e)), if_neg (fun e => h4 (e35.1 e)), UD (by omega)]; cases r with
    | nil =>
     have e1 : DP [y] = none := by rw [DP.eq_def]; simp only [hp]; rfl
     rw [e1, if_pos (by simp)]
    | cons z r =>
     simp only [List.length_cons] at hl; have e1 : DP (y :: z :: r) = (FL y).bind fun a => (FL z).bind fun b => some (UInt8.ofNat (16 * a + b), r) := by rw [DP.eq_def]; simp only [hp]; rfl
     rw [e1, if_neg (by simp; omega), Qj, Option.bind_some]; cases hy : FL y with
     | none => rfl
     | some a =>
      have ha := Jj hy; simp only []; rw [if_neg (by omega), Ab (by simp; omega)]; simp only [Int.toNat_natCast, Wy]; rw [Qj, Option.bind_some]; cases hz : FL z with
      | none => rfl
      | some b =>
       have hb := Jj hz; simp only []; rw [if_neg (by omega), Option.bind_some, Option.bind_some, ZR ⟨a, ha⟩ ⟨b, hb⟩]; have e3 : (UInt8.ofNat (16 * a + b)).toNat = 16 * a + b := by
        rw [UInt8.toNat_ofNat']; exact Nat.mod_eq_of_lt (by omega)
       simp only [Option.bind_some, e3, List.length_cons]; congr 3; omega
 ·rw [if_pos (fun e => h92 (e92.1 e)), if_neg h92, MT, Option.bind_some]; by_cases hs : Cs x = true
  ·rw [if_pos hs, if_pos hs]
  ·rw [if_neg hs, if_neg hs]; by_cases h1 : x.toNat < 32
   ·rw [if_pos h1, if_pos (by omega)]
   ·rw [if_neg h1, if_neg (by omega)]; by_cases h2 : 126 < x.toNat
    ·rw [if_pos h2, if_pos (by omega)]
    ·rw [if_neg h2, if_neg (by omega)]
end Go.Idl
namespace Go.Idl
open Go Go.Proofs.Tryz
set_option pp.deepTerms false
theorem Od : ∀ (r p : Str), (p ++ r).length ≤ 10000000 → AD (fun s : Int => Ev (p ++ r) s) (p.length : Int) = some (match AP r 61 with | none => ((p ++ r).length : Int) | some q => ((p ++ q.1).length : Int))
  | [], p, h => by
    refine Av ?_
    simp [Ev, AP]
  | y :: r, p, h => by
    have hl := h
    simp only [List.length_append, List.length_cons] at hl
    have e61 : ((y.toNat : Int) = 61) ↔ y = 61 := AZ (c := 61) rfl
    have e0 : Ev (p ++ y :: r) (p.length : Int) = some (if ¬ y = 61 then .inl ((p.length + 1 : Nat) : Int) else .inr (p.length : Int)) := by
      unfold Ev
      rw [if_pos (by simp; omega), Ab (by simp; omega)]
      simp only [Int.toNat_natCast, get_at]
      by_cases hy : y = 61
      · rw [if_neg (by simpa [e61] using hy), if_neg (by simpa using hy)]
      · rw [if_pos (by simpa [e61] using hy), if_pos hy, AK (by omega)]
    by_cases hy : y = 61
    · rw [if_neg (by simpa using hy)] at e0
      rw [Av e0]
      simp [AP, hy]
    · rw [if_pos hy] at e0
      have ih := Od r (p ++ [y]) (by simpa using h)
      have e1 : (p ++ [y]) ++ r = p ++ y :: r := by simp
      have e2 : (((p ++ [y]).length : Nat) : Int) = ((p.length + 1 : Nat) : Int) := by simp
      rw [e1, e2] at ih
      rw [AR e0, ih]
      have : AP (y :: r) 61 = (AP r 61).map fun p => (y :: p.1, p.2) := by rw [AP, if_neg hy]
      rw [this]
      cases AP r 61 <;> simp
noncomputable abbrev stW (s : Str) := fun (x : Int × (List UInt8) × Bool × S89) => E2 s x.1 x.2.1 x.2.2.1 x.2.2.2
noncomputable def RG (t : Str) (y : (Int × (List UInt8) × Bool × S89) ⊕ (S89 × Int × Bool)) : Option (S89 × Int × Bool) := Sum.elim (fun (e : Int × (List UInt8) × Bool × S89) => Fh t e.1 e.2.1 e.2.2.1 e.2.2.2) (fun (q : S89 × Int × Bool) => some q) y
theorem Oe (t : Str) (blank : Bool) (out r : Str) (i : Int) (z : S89) : (KZ blank out r = none → ∃ w, RG t (.inl (i, out, blank, z)) = some w ∧ w.2.2 = false) ∧ ∀ v r', KZ blank out r = some (v, r') → r' = r ∧ RG t (.inl (i, out, blank, z)) = some (⟨t, v⟩, i, true) := by
 unfold KZ RG; simp only [Sum.elim_inl]; unfold Fh; cases blank with
 | true => simp
 | false =>
  by_cases h1 : 1 ≤ out.length
  ·by_cases h2 : out.length ≤ 200
   ·have a1 : (1 : Int) ≤ (out.length : Int) := by omega
    have a2 : (out.length : Int) ≤ 200 := by omega
    simp only [Bool.false_eq_true, not_false_eq_true, if_true, a1, a2, h1, h2, and_self, reduceCtorEq, false_implies, true_and, Option.some.injEq, Prod.mk.injEq, decide_true]
    rintro v r' ⟨rfl, rfl⟩
    exact ⟨rfl, rfl, trivial⟩
   ·have a1 : (1 : Int) ≤ (out.length : Int) := by omega
    have a2 : ¬ (out.length : Int) ≤ 200 := by omega
    simp [h1, h2, a1, a2]
  ·have a1 : ¬ (1 : Int) ≤ (out.length : Int) := by omega
   simp [h1, a1]
theorem LL (i : Int) (z : S89) (y : UInt8) (k : Int) (esc : Bool) (out : Str) (ho : out.length ≤ 10000000) : BY i z ((y.toNat : Int), k, esc) out = some (.inl (IntKind.i64.wrap (i + k), out ++ [y], decide (y = 32) && !esc, z)) := by
 unfold BY; have hy := y.toNat_lt; have e32 : ((y.toNat : Int) = 32) ↔ y = 32 := AZ (c := 32) rfl; simp only [Int.toNat_natCast, UInt8.ofNat_toNat]; by_cases h : y = 32
 ·rw [if_pos (e32.2 h), Ab (by omega), Ab (by simp; omega)]; simp [h]
 ·rw [if_neg (fun e => h (e32.1 e)), Ab (by omega), Ab (by simp; omega)]; simp [h]
theorem Ir (s t : Str) (hs : s.length ≤ 1000000) (z : S89) : ∀ (n : Nat) (p r out : Str) (blank : Bool), p ++ r = s → r.length < n → out.length + r.length ≤ 1000000 →
    (Fk n blank out r = none → ∃ w, (AD (stW s) ((p.length : Int), out, blank, z)).bind (RG t) = some w ∧ w.2.2 = false) ∧
    ∀ v r', Fk n blank out r = some (v, r') → ∃ p', p' ++ r' = s ∧ (AD (stW s) ((p.length : Int), out, blank, z)).bind (RG t) = some (⟨t, v⟩, (p'.length : Int), true)
  | 0, _, _, _, _ => fun _ h => absurd h (Nat.not_lt_zero _)
  | n + 1, p, [], out, blank => fun hp _ _ => by
    have e : AD (stW s) ((p.length : Int), out, blank, z) = some (.inl ((p.length : Int), out, blank, z)) := by
      refine Av ?_
      simp only [stW, E2]
      rw [if_neg (by rw [← hp]; simp)]
    rw [e, Option.bind_some]
    have := Oe t blank out [] (p.length : Int) z
    refine ⟨fun h => this.1 h, fun v r' h => ?_⟩
    obtain ⟨h1, h2⟩ := this.2 v r' h
    exact ⟨p, by rw [h1]; exact hp, h2⟩
  | n + 1, p, x :: r, out, blank => fun hp hn ho => by
    have hsl : (p ++ x :: r).length ≤ 1000000 := by rw [hp]; exact hs
    have hpl := hsl
    simp only [List.length_append, List.length_cons] at hpl hn ho
    have e44 : ((x.toNat : Int) = 44) ↔ x = 44 := AZ (c := 44) rfl
    have e32 : ((x.toNat : Int) = 32) ↔ x = 32 := AZ (c := 32) rfl
    have e35 : ((x.toNat : Int) = 35) ↔ x = 35 := AZ (c := 35) rfl
    have hx := x.toNat_lt
    rw [Fk]
    have step : stW s ((p.length : Int), out, blank, z) = if ¬ (x.toNat : Int) = 44 then (if (FM x r).2.1 = 0 then some (.inr (.inr ((⟨[], []⟩ : S89), 0, false))) else (if (out.length : Int) = 0 then (if ¬ ((FM x r).2.2 = true) then (if (FM x r).1 = 32 then some (.inr (.inr ((⟨[], []⟩ : S89), 0, false))) else (if (FM x r).1 = 35 then some (.inr (.inr ((⟨[], []⟩ : S89), 0, false))) else BY (p.length : Int) z (FM x r) out)) else BY (p.length : Int) z (FM x r) out) else BY (p.length : Int) z (FM x r) out)) else some (.inr (.inl ((p.length : Int), out, blank, z))) := by
      simp only [stW, E2]
      rw [if_pos (by rw [← hp]; simp; omega), Ab (by rw [← hp]; simp; omega)]
      have h1 : s.getD p.length 0 = x := by rw [← hp]; exact get_at p r x
      have h2 : Rv s (p.length : Int) = some (FM x r) := by rw [← hp]; exact Wz p r x (by omega)
      simp only [Int.toNat_natCast, h1, h2, Option.bind_some]
    by_cases h44 : x = 44
    · rw [if_neg (by simpa using e44.2 h44)] at step
      rw [Av step, Option.bind_some, if_pos h44]
      have := Oe t blank out (x :: r) (p.length : Int) z
      refine ⟨fun h => this.1 h, fun v r' h => ?_⟩
      obtain ⟨h1, h2⟩ := this.2 v r' h
      exact ⟨p, by rw [h1]; exact hp, h2⟩
    · rw [if_pos (fun e => h44 (e44.1 e))] at step
      rw [if_neg h44]
      by_cases h92 : x = 92
      · rw [if_pos h92]
        cases he : DP r with
        | none =>
          have e1 : FM x r = (0, 0, false) := by simp [FM, h92, he]
          rw [e1, if_pos rfl] at step
          rw [Av step]
          exact ⟨fun _ => ⟨_, rfl, rfl⟩, fun v r' h => (by cases h)⟩
        | some q =>
          obtain ⟨y, r1⟩ := q
          have hl := Oa he
          have e1 : FM x r = ((y.toNat : Int), ((r.length + 1 - r1.length : Nat) : Int), true) := by simp only [FM, h92, he, if_true]
          have hk : ¬ (((r.length + 1 - r1.length : Nat) : Int)) = 0 := by omega
          have e2 : stW s ((p.length : Int), out, blank, z) = some (.inl (((p.length + (r.length + 1 - r1.length) : Nat) : Int), out ++ [y], false, z)) := by
            rw [step, e1]
            simp only [hk, if_false, not_true_eq_false, LL _ _ _ _ _ _ (show out.length ≤ 10000000 by omega), ite_self, Bool.not_true, Bool.and_false]
            rw [wrap_i64 (by omega) (by omega)]
            congr 4
          obtain ⟨u, hu⟩ : ∃ u, x :: r = u ++ r1 := by
            cases r with
            | nil => cases he
            | cons a r2 =>
              rw [DP.eq_def] at he
              simp only at he
              split at he
              · cases he; exact ⟨[x, _], rfl⟩
              · cases r2 with
                | nil => cases he
                | cons b r3 =>
                  simp only [Option.bind_eq_some_iff] at he
                  obtain ⟨_, _, _, _, he⟩ := he
                  cases he
                  exact ⟨[x, _, _], rfl⟩
          have hul : u.length = r.length + 1 - r1.length := by
            have := congrArg List.length hu
            simp at this
            omega
          have e3 : (((p ++ u).length : Nat) : Int) = ((p.length + (r.length + 1 - r1.length) : Nat) : Int) := by simp [hul]
          have ih := Ir s t hs z n (p ++ u) r1 (out ++ [y]) false (by rw [← hp, hu]; simp) (by omega) (by simp; omega)
          rw [e3] at ih
          rw [AR e2, Option.bind_some]
          exact ih
      · rw [if_neg h92]
        have hone : FM x r = if Cs x = true then (0, 0, false) else if x.toNat < 32 then (0, 0, false) else if 126 < x.toNat then (0, 0, false) else ((x.toNat : Int), 1, false) := by simp [FM, h92]
        by_cases hf : Hw (decide (out = [])) x = true
        · rw [if_pos hf]
          simp only [Hw, Bool.and_eq_true, Bool.or_eq_true, Bool.not_eq_true', decide_eq_true_eq, decide_eq_false_iff_not] at hf
          obtain ⟨⟨⟨f1, f2⟩, f3⟩, f4⟩ := hf
          rw [if_neg (by simp [f1]), if_neg (by omega), if_neg (by omega)] at hone
          have e2 : stW s ((p.length : Int), out, blank, z) = some (.inl (((p.length + 1 : Nat) : Int), out ++ [x], decide (x = 32), z)) := by
            rw [step, hone]
            have hpush : BY (p.length : Int) z ((x.toNat : Int), 1, false) out = some (.inl (((p.length + 1 : Nat) : Int), out ++ [x], decide (x = 32), z)) := by
              rw [LL _ _ _ _ _ _ (by omega), AK (by omega)]
              simp
            rw [if_neg (by simp)]
            by_cases h0 : out = []
            · rcases f4 with f4 | ⟨f4, f5⟩
              · exact absurd h0 f4
              · rw [if_pos (by simp [h0]), if_pos (by simp), if_neg (fun e => f4 (e32.1 e)), if_neg (fun e => f5 (e35.1 e))]
                exact hpush
            · rw [if_neg (by simpa using h0)]
              exact hpush
          have e3 : (((p ++ [x]).length : Nat) : Int) = ((p.length + 1 : Nat) : Int) := by simp
          have ih := Ir s t hs z n (p ++ [x]) r (out ++ [x]) (decide (x = 32)) (by rw [← hp]; simp) (by omega) (by simp; omega)
          rw [e3] at ih
          rw [AR e2]
          exact ih
        · rw [if_neg hf]
          have e2 : stW s ((p.length : Int), out, blank, z) = some (.inr (.inr ((⟨[], []⟩ : S89), 0, false))) := by
            rw [step, hone]
            by_cases f1 : Cs x = true
            · rw [if_pos f1]; rfl
            · rw [if_neg f1]
              by_cases f2 : x.toNat < 32
              · rw [if_pos f2]; rfl
              · rw [if_neg f2]
                by_cases f3 : 126 < x.toNat
                · rw [if_pos f3]; rfl
                · rw [if_neg f3, if_neg (by simp)]
                  by_cases h0 : out = []
                  · rw [if_pos (by simp [h0]), if_pos (by simp)]
                    by_cases f4 : x = 32
                    · rw [if_pos (e32.2 f4)]
                    · rw [if_neg (fun e => f4 (e32.1 e))]
                      have f5 : x = 35 := by
                        apply Classical.byContradiction
                        intro f5
                        exact hf (by simp [Hw, f1, f4, f5]; omega)
                      rw [if_pos (e35.2 f5)]
                  · exact absurd (by simp [Hw, f1, h0]; omega) hf
          rw [Av e2]
          exact ⟨fun _ => ⟨_, rfl, rfl⟩, fun v r' h => (by cases h)⟩
theorem Qk (p r : Str) (h : (p ++ r).length ≤ 1000000) : (DA r = none → ∃ w, Rw (p ++ r) (p.length : Int) = some w ∧ w.2.2 = false) ∧ ∀ v r', DA r = some (v, r') → ∃ p', p' ++ r' = p ++ r ∧ Rw (p ++ r) (p.length : Int) = some (v, (p'.length : Int), true) := by
 unfold Rw DA; rw [Od r p (by omega), Option.bind_some]; have hlen := h; simp only [List.length_append] at hlen; cases hc : AP r 61 with
 | none =>
  simp only []; unfold FE; rw [if_pos (Int.le_refl _)]; exact ⟨fun _ => ⟨_, rfl, rfl⟩, fun v r' h => (by cases h)⟩
 | some q =>
  obtain ⟨t, r1⟩ := q; obtain ⟨h1, _⟩ := BK.1 hc; subst h1; simp only [List.length_append, List.length_cons] at hlen; simp only []; have e0 : List.drop p.length (List.take (p ++ t).length (p ++ (t ++ 61 :: r1))) = t := by
   rw [← List.append_assoc, List.take_left, List.drop_left]
  have e1 : (((p ++ t).length + 1 : Nat) : Int) = (((p ++ t ++ [61]).length : Nat) : Int) := by simp; omega
  have key : FE (p ++ (t ++ 61 :: r1)) (p.length : Int) ((p ++ t).length : Int) = if BI t = true then (AD (stW (p ++ (t ++ 61 :: r1))) (((p ++ t ++ [61]).length : Int), [], false, (⟨[], []⟩ : S89))).bind (RG (t.map BU)) else some ((⟨[], []⟩ : S89), 0, false) := by
   unfold FE; rw [if_neg (by simp; omega), Ab (by omega), Ab (by simp; omega), Ab (by simp; omega)]; simp only [Int.toNat_natCast, e0]; rw [Q4 t (by omega), Option.bind_some]; cases hn : BI t with
   | false => rfl
   | true =>
    rw [if_neg (by simp), if_pos rfl, Q6 t (by omega), Option.bind_some, AK (by simp; omega), e1]; rfl
  rw [key]; cases hn : BI t with
  | false => exact ⟨fun _ => ⟨_, rfl, rfl⟩, fun v r' h => (by simp at h)⟩
  | true =>
   simp only [if_true]; have hp : (p ++ t ++ [61]) ++ r1 = p ++ (t ++ 61 :: r1) := by simp
   obtain ⟨v1, v2⟩ := Ir (p ++ (t ++ 61 :: r1)) (t.map BU) h ⟨[], []⟩ (r1.length + 1) (p ++ t ++ [61]) r1 [] false hp (by omega) (by simp; omega); cases hv : Fk (r1.length + 1) false [] r1 with
   | none =>
    refine ⟨fun _ => ?_, fun v r' h => (by cases h)⟩; exact v1 hv
   | some w =>
    refine ⟨fun h => (by cases h), fun v r' h => ?_⟩; cases h; obtain ⟨p', h3, h4⟩ := v2 w.1 w.2 hv; exact ⟨p', h3, h4⟩
noncomputable abbrev stQ (s : Str) := fun (x : (List S89) × Int) => D2 s x.1 x.2
def UE (d : List S89) : Option (List S89) → (List S89) × Bool
  | some l => (d ++ l, true)
  | none => ([], false)
theorem LM (s : Str) (hl : s.length ≤ 1000000) : ∀ (n : Nat) (p r : Str) (d : List S89), p ++ r = s → d.length + n = 16 → AD (stQ s) (d, (p.length : Int)) = some (UE d (DQ n r))
  | 0, p, r, d, hp, hd => by
    obtain ⟨v1, v2⟩ := Qk p r (by rw [hp]; exact hl)
    rw [hp] at v1 v2
    have e : stQ s (d, (p.length : Int)) = some (.inr ([], false)) := by
      simp only [stQ, D2]
      cases hq : DA r with
      | none =>
        obtain ⟨w, h1, h2⟩ := v1 hq
        rw [h1, Option.bind_some, if_pos (by simp [h2])]
      | some q =>
        obtain ⟨p', _, h2⟩ := v2 q.1 q.2 hq
        rw [h2, Option.bind_some, if_neg (by simp), if_pos (by omega)]
    rw [Av e]
    rfl
  | n + 1, p, r, d, hp, hd => by
    obtain ⟨v1, v2⟩ := Qk p r (by rw [hp]; exact hl)
    rw [hp] at v1 v2
    rw [DQ]
    cases hq : DA r with
    | none =>
      have e : stQ s (d, (p.length : Int)) = some (.inr ([], false)) := by
        simp only [stQ, D2]
        obtain ⟨w, h1, h2⟩ := v1 hq
        rw [h1, Option.bind_some, if_pos (by simp [h2])]
      rw [Av e]
      rfl
    | some q =>
      obtain ⟨v, r1⟩ := q
      obtain ⟨p1, h1, h2⟩ := v2 v r1 hq
      rw [Option.bind_some]
      have hsl : s.length = p1.length + r1.length := by rw [← h1]; simp
      cases r1 with
      | nil =>
        have e : stQ s (d, (p.length : Int)) = some (.inr (d ++ [v], true)) := by
          simp only [stQ, D2]
          simp only [List.length_nil] at hsl
          rw [h2, Option.bind_some, if_neg (by simp), if_neg (by omega), Ab (by simp; omega), if_pos (by simp only []; omega)]
        rw [Av e]
        rfl
      | cons x r2 =>
        simp only [List.length_cons] at hsl
        have e : stQ s (d, (p.length : Int)) = some (.inl (d ++ [v], (((p1 ++ [x]).length : Nat) : Int))) := by
          simp only [stQ, D2]
          rw [h2, Option.bind_some, if_neg (by simp), if_neg (by omega), Ab (by simp; omega), if_neg (by simp only []; omega), AK (by omega)]
          simp
        rw [AR e, LM s hl n (p1 ++ [x]) r2 (d ++ [v]) (by rw [← h1]; simp) (by simp; omega)]
        simp only []
        cases DQ n r2 <;> simp [UE]
theorem WA (s : Str) (hl : s.length ≤ 1000000) : Uj s = some (UE [] (Ez s)) := by
 unfold Uj Ez; by_cases hs : s = []
 ·rw [if_pos hs, if_pos hs]; rfl
 ·rw [if_neg hs, if_neg hs]; have := LM s hl 16 [] s [] rfl rfl; simp only [List.length_nil] at this; rw [show AD (fun (s_1 : (List S89) × Int) => D2 s s_1.1 s_1.2) ([], 0) = _ from this]; rfl
theorem WB (x : UInt8) : BU (BU x) = BU x := by
 have : ∀ n : Fin 256, BU (BU (UInt8.ofNat n.1)) = BU (UInt8.ofNat n.1) := by decide +kernel
 have := this ⟨x.toNat, x.toNat_lt⟩; simpa using this
theorem WC (x : UInt8) : Dh (BU x) = Dh x := by
 have : ∀ n : Fin 256, Dh (BU (UInt8.ofNat n.1)) = Dh (UInt8.ofNat n.1) := by decide +kernel
 have := this ⟨x.toNat, x.toNat_lt⟩; simpa using this
theorem WD (x : UInt8) : CP (BU x) = CP x := by
 have : ∀ n : Fin 256, CP (BU (UInt8.ofNat n.1)) = CP (UInt8.ofNat n.1) := by decide +kernel
 have := this ⟨x.toNat, x.toNat_lt⟩; simpa using this
theorem RH (t : Str) (h : BI t = true) : BI (t.map BU) = true := by
 unfold BI at h ⊢; simp only [Bool.and_eq_true, decide_eq_true_eq, List.all_eq_true, List.length_map, List.mem_map, forall_exists_index, and_imp, forall_apply_eq_imp_iff₂] at h ⊢; refine ⟨⟨h.1.1, ?_⟩, fun x hx => by rw [WD]; exact h.2 x hx⟩; cases t with
 | nil => exact h.1.2
 | cons c t => simpa [WC] using h.1.2
theorem KF : ∀ (n : Nat) (blank : Bool) (out s v r : Str), Fk n blank out s = some (v, r) → 1 ≤ v.length ∧ v.length ≤ 200
  | 0, _, _, _, _, _ => fun h => by cases h
  | n + 1, blank, out, [], v, r => fun h => by
    simp only [Fk, KZ] at h
    split at h
    · rename_i h1; cases h; exact h1.2
    · cases h
  | n + 1, blank, out, x :: s, v, r => fun h => by
    simp only [Fk] at h
    split at h
    · simp only [KZ] at h
      split at h
      · rename_i h1; cases h; exact h1.2
      · cases h
    · split at h
      · obtain ⟨q, _, h2⟩ := Option.bind_eq_some_iff.1 h
        exact KF n _ _ _ _ _ h2
      · split at h
        · exact KF n _ _ _ _ _ h
        · cases h
theorem RI {s r : Str} {p : S89} (h : DA s = some (p, r)) : CB p = true := by
 unfold DA at h; split at h
 ·cases h
 ·rename_i q hq; split at h
  ·rename_i hn; obtain ⟨q2, h1, h2⟩ := Option.map_eq_some_iff.1 h; cases h2; have hv := KF _ _ _ _ _ _ (show Fk _ _ _ _ = some (q2.1, q2.2) from h1); simp only [CB, RH _ hn, Bool.true_and, Bool.and_eq_true, decide_eq_true_eq, List.map_map]; refine ⟨?_, hv⟩; congr 1; funext x; exact WB x
  ·cases h
theorem LN : ∀ (n : Nat) (s : Str) (d : List S89), DQ n s = some d → d.length ≤ n ∧ (∀ x ∈ d, CB x = true) ∧ ¬ d = []
  | 0, _, _, h => by cases h
  | n + 1, s, d, h => by
    rw [DQ] at h
    obtain ⟨q, h1, h2⟩ := Option.bind_eq_some_iff.1 h
    have hr := RI (show DA s = some (q.1, q.2) from h1)
    split at h2
    · cases h2
      exact ⟨by simp, by simpa using hr, by simp⟩
    · obtain ⟨d', h3, h4⟩ := Option.map_eq_some_iff.1 h2
      subst h4
      obtain ⟨i1, i2, _⟩ := LN n _ d' h3
      refine ⟨by simp; omega, ?_, by simp⟩
      intro x hx
      rcases List.mem_cons.1 hx with rfl | hx
      · exact hr
      · exact i2 x hx
theorem EA {s : Str} {d : List S89} (h : Ez s = some d) : BL d = true := by
 unfold Ez at h; split at h
 ·cases h; simp [BL]
 ·obtain ⟨h1, h2, _⟩ := LN 16 s d h; simp only [BL, Bool.and_eq_true, decide_eq_true_eq, List.all_eq_true]; exact ⟨h1, h2⟩
end Go.Idl
namespace Go.Idl
open Go Go.Proofs.Tryz
set_option pp.deepTerms false
theorem UF : ∀ n : Fin 256, Rx (n.1 : Int) = some [O7 (n.1 / 16), O7 (n.1 % 16)] := by decide +kernel
theorem Ql (x : UInt8) : Rx (x.toNat : Int) = some [O7 (x.toNat / 16), O7 (x.toNat % 16)] := UF ⟨x.toNat, x.toNat_lt⟩
theorem ZS {s : Str} {i : Nat} (h : i < s.length) : (s.take (i + 1)).drop i = [s[i]] := by
 rw [List.drop_take, Nat.add_sub_cancel_left, List.drop_eq_getElem_cons h]; rfl
theorem one_eq {x c : UInt8} : ([x] : Str) = [c] ↔ x = c := by simp
set_option maxRecDepth 20000 in
theorem RJ (d : List S89) (k : Nat) (hk : k < d.length) (out : Str) (i : Nat) (hi : i < d[k].A7.length) (hl : d[k].A7.length ≤ 1000000) (ho : out.length ≤ 10000000) :
    De d (k : Int) out (i : Int) = some (.inl (out ++ MS (decide (i = 0)) (decide (i + 1 = d[k].A7.length)) d[k].A7[i], ((i + 1 : Nat) : Int))) := by
 have hd : d.getD k S89.zero = d[k] := getD_some hk _; unfold De; rw [Int.toNat_natCast, hd]; generalize d[k].A7 = s at *; have hgd : s.getD i 0 = s[i] := getD_some hi _; have hw : IntKind.i64.wrap ((s.length : Int) - 1) = (s.length : Int) - 1 := wrap_i64 (by omega) (by omega); have hlast : ((i : Int) = (s.length : Int) - 1) ↔ i + 1 = s.length := by omega
 have htd := ZS hi; have hx := s[i].toNat_lt; rw [if_pos (by omega), Ab (by omega), AK (by omega), Ab (by omega), Ab (by omega), Ab (by omega), Int.toNat_natCast, Int.toNat_natCast, hgd, hw, htd]; generalize s[i] = x at *; unfold MS ZN; by_cases a1 : x.toNat < 32
 ·rw [if_pos (by omega), if_pos (by simp; omega), Ab (by simp; omega), Ql, Option.bind_some, Ab (by simp; omega)]; simp
 ·rw [if_neg (by omega)]; by_cases a2 : 126 < x.toNat
  ·rw [if_pos (by omega), if_pos (by simp; omega), Ab (by simp; omega), Ql, Option.bind_some, Ab (by simp; omega)]; simp
  ·rw [if_neg (by omega), if_neg (c := decide (x.toNat < 32 ∨ 126 < x.toNat) = true) (by simp; omega), MT, Option.bind_some]; by_cases a3 : Cs x = true
   ·rw [if_pos a3, Ab (by simp; omega), Ab (by simp; omega)]; simp [a3]
   ·rw [if_neg a3]; have n1 : ∀ {α : Type} (y : Option α), gd ((out.length : Int) + (([92] : List UInt8).length : Int) ≤ 9223372036854775807) y = y := fun y => Ab (by simp; omega); have n2 : ∀ {α : Type} (y : Option α), gd (((out ++ [92]).length : Int) + (([x] : List UInt8).length : Int) ≤ 9223372036854775807) y = y := fun y => Ab (by simp; omega); have n3 : ∀ {α : Type} (y : Option α), gd ((out.length : Int) + (([x] : List UInt8).length : Int) ≤ 9223372036854775807) y = y := fun y => Ab (by simp; omega); by_cases b1 : i = 0
    ·rw [if_pos (show (i : Int) = 0 by omega)]; by_cases b2 : x = 32
     ·rw [if_pos (one_eq.2 b2), n1, n2]; simp [b1, b2]
     ·rw [if_neg (fun e => b2 (one_eq.1 e))]; by_cases b3 : x = 35
      ·rw [if_pos (one_eq.2 b3), n1, n2]; simp [b1, b3]
      ·rw [if_neg (fun e => b3 (one_eq.1 e))]; by_cases b4 : i + 1 = s.length
       ·rw [if_pos (hlast.2 b4), n3]; simp [a3, b1, b2, b3]
       ·rw [if_neg (fun e => b4 (hlast.1 e)), n3]; simp [a3, b1, b2, b3]
    ·rw [if_neg (show ¬ (i : Int) = 0 by omega)]; by_cases b4 : i + 1 = s.length
     ·rw [if_pos (hlast.2 b4)]; by_cases b2 : x = 32
      ·rw [if_pos (one_eq.2 b2), n1, n2]; simp [b1, b4, b2]
      ·rw [if_neg (fun e => b2 (one_eq.1 e)), n3]; simp [a3, b1, b4, b2]
     ·rw [if_neg (fun e => b4 (hlast.1 e)), n3]; simp [a3, b1, b4]
theorem KG (d : List S89) (q : Nat) (hq : q < d.length) (hl : d[q].A7.length ≤ 1000000) : ∀ (k j : Nat) (out : Str), j + k = d[q].A7.length → out.length + 3 * k ≤ 8000000 →
    AD (fun (v : Str × Int) => De d (q : Int) v.1 v.2) (out, (j : Int)) = some (out ++ Di (decide (j = 0)) (d[q].A7.drop j))
  | 0, j, out, h, ho => by
    refine Av ?_
    have hd : d.getD q S89.zero = d[q] := getD_some hq _
    simp only [De, Int.toNat_natCast, hd]
    rw [if_neg (by omega), List.drop_of_length_le (by omega)]
    simp [Di]
  | k + 1, j, out, h, ho => by
    have hj : j < d[q].A7.length := by omega
    rw [AR (RJ d q hq out j hj hl (by omega)), KG d q hq hl k (j + 1) _ (by omega) (by
      have := KC (decide (j = 0)) (decide (j + 1 = d[q].A7.length)) d[q].A7[j]
      rw [List.length_append]; omega)]
    rw [List.drop_eq_getElem_cons hj, Di, List.append_assoc]
    have e1 : (d[q].A7.drop (j + 1)).isEmpty = decide (j + 1 = d[q].A7.length) := by
      by_cases q' : j + 1 = d[q].A7.length
      · rw [decide_eq_true q', List.drop_of_length_le (by omega)]; rfl
      · rw [decide_eq_false q', List.drop_eq_getElem_cons (by omega)]; rfl
    rw [e1]
    simp
theorem Qm (d : List S89) (i : Nat) (hi : i < d.length) (hl : d.length ≤ 16) (hr : CB d[i] = true) (out : Str) (ho : out.length ≤ 1000000) : E3 d (i : Int) out = some (.inl (out ++ (d[i].fType ++ 61 :: Di true d[i].A7), ((i + 1 : Nat) : Int))) := by
 simp only [CB, BI, Bool.and_eq_true, decide_eq_true_eq] at hr; have hg : d.getD i S89.zero = d[i] := getD_some hi _; unfold E3; rw [Int.toNat_natCast, hg, Ab (by omega), Ab (by omega), Ab (by simp; omega)]; have := KG d i hi (by omega) d[i].A7.length 0 ((out ++ d[i].fType) ++ [61]) (by omega) (by simp; omega); rw [show ((0 : Nat) : Int) = 0 from rfl] at this; rw [this, Option.bind_some, Ht, AK (by omega)]; simp
theorem LO (d : List S89) (hl : d.length ≤ 16) (h : ∀ x ∈ d, CB x = true) : ∀ (k j : Nat) (out : Str), j + k = d.length → out.length ≤ 1000 * j →
    AD (fun (s : Str × Int) => Ew d s.1 s.2) (out, (j : Int)) = some (out ++ if j = 0 then E4 d else KD (d.drop j))
  | 0, j, out, hk, ho => by
    refine Av ?_
    simp only [Ew]
    rw [if_neg (by omega)]
    by_cases h0 : j = 0
    · have : d = [] := List.length_eq_zero_iff.1 (by omega)
      simp [h0, this, E4]
    · rw [if_neg h0, List.drop_of_length_le (by omega)]
      simp [KD]
  | k + 1, j, out, hk, ho => by
    have hj : j < d.length := by omega
    have hm := h _ (List.getElem_mem hj)
    have hr := hm
    simp only [CB, BI, Bool.and_eq_true, decide_eq_true_eq] at hr
    have h2 := Hv d[j].A7 true
    have key : Ew d out (j : Int) = some (.inl ((out ++ if j = 0 then [] else [44]) ++ (d[j].fType ++ 61 :: Di true d[j].A7), ((j + 1 : Nat) : Int))) := by
      simp only [Ew]
      rw [if_pos (by omega)]
      by_cases h0 : j = 0
      · rw [if_neg (by omega), if_pos h0, List.append_nil, Qm d j hj hl hm out (by omega)]
      · rw [if_pos (by omega), if_neg h0, Ab (by simp; omega), Qm d j hj hl hm _ (by simp; omega)]
    rw [AR (s' := ((out ++ if j = 0 then [] else [44]) ++ (d[j].fType ++ 61 :: Di true d[j].A7), ((j + 1 : Nat) : Int))) key, LO d hl h k (j + 1) _ (by omega) (by
      simp only [List.length_append, List.length_cons]
      have : (if j = 0 then [] else [44] : Str).length ≤ 1 := by split <;> simp
      omega)]
    have hn : ¬ j + 1 = 0 := by omega
    by_cases h0 : j = 0
    · subst h0
      match d, hj with
      | r :: d, _ => simp [Ey]
    · rw [if_neg h0, if_neg h0, if_neg hn, List.drop_eq_getElem_cons hj]
      simp only [KD, Ey]
      simp
theorem WE (d : List S89) (h : BL d = true) : Uk d = some (E4 d) := by
 simp only [BL, Bool.and_eq_true, decide_eq_true_eq, List.all_eq_true] at h; unfold Uk; have := LO d h.1 h.2 d.length 0 [] (by omega) (by simp); rw [show ((0 : Nat) : Int) = 0 from rfl] at this; rw [this]; simp [Jh]
end Go.Idl
namespace Go.Idl
open Go
abbrev Mp := List (Str × S39)
abbrev Np := List (Str × Str)
def KH (x : S39) : Bool := BM x.A9 && BX x.Ac && AS x.A5
def Is (L : List S39) (x : S39) : List S39 × Int :=
  if KH x = true then (if 0 ≤ EE L x.A9 then (L, 300) else if 0 ≤ IY L x.Ac then (L, 300) else if 64 ≤ (L.length : Int) then (L, 3) else (Ik (·.A9) x L, 0)) else (L, 2)
def BN (y : S33) : Bool := ((BX y.Ac && decide (y.fDn = [])) || (decide (y.Ac = []) && (decide (¬ y.fDn = []) && BL y.fDn))) && (BM y.A9 && AS y.A5)
def okX (x : S39) : Prop := x.A9.length ≤ 1000000 ∧ x.Ac.length ≤ 1000000 ∧ DK x.A5
theorem LP (L : List S39) (h : Str) : (0 ≤ EE L h ∧ ∃ hk : (EE L h).toNat < L.length, L[(EE L h).toNat].A9 = h) ∨ (EE L h = -1 ∧ ∀ x ∈ L, ¬ x.A9 = h) := by
 unfold EE; rcases Ku (fun x : S39 => decide (x.A9 = h)) L with ⟨h1, h2⟩ | ⟨k, hk, h1, h2⟩
 ·exact .inr ⟨h1, fun x hx => by simpa using h2 x hx⟩
 ·refine .inl ⟨by omega, ?_⟩; have e : (ML (fun x : S39 => decide (x.A9 = h)) L).toNat = k := by omega
  simp only [e]; exact ⟨hk, by simpa using h2⟩
theorem Of (L : List S39) (u : Str) : (0 ≤ IY L u ∧ ∃ hk : (IY L u).toNat < L.length, L[(IY L u).toNat].Ac = u) ∨ (IY L u = -1 ∧ ∀ x ∈ L, ¬ x.Ac = u) := by
 unfold IY; rcases Ku (fun x : S39 => decide (x.Ac = u)) L with ⟨h1, h2⟩ | ⟨k, hk, h1, h2⟩
 ·exact .inr ⟨h1, fun x hx => by simpa using h2 x hx⟩
 ·refine .inl ⟨by omega, ?_⟩; have e : (ML (fun x : S39 => decide (x.Ac = u)) L).toNat = k := by omega
  simp only [e]; exact ⟨hk, by simpa using h2⟩
theorem UG (L : List S39) (x : S39) (hl : L.length ≤ 1000000) : AD (fun (s : Int) => Em L x s) 0 = some ((Gt (·.A9) x.A9 L : Nat) : Int) := by
 obtain ⟨r, h1, h2⟩ := Cz (step := fun (s : Int) => Em L x s) (Post := fun y => y = ((Gt (·.A9) x.A9 L : Nat) : Int)) L.length (fun i => Gt (·.A9) x.A9 L = i + Gt (·.A9) x.A9 (L.drop i)) (by simp)
  (fun i hi hI => by
    have hw := AK (i := i) (by omega)
    simp only [Em]
    rw [if_pos (by omega), Ab (by omega), Int.toNat_natCast, getD_some hi, hw]
    rw [List.drop_eq_getElem_cons hi] at hI
    simp only [Gt] at hI
    by_cases h : Op.bytesLess L[i].A9 x.A9 = true
    · rw [if_pos h]
      rw [if_pos (show lt8 L[i].A9 x.A9 from h)] at hI
      exact .inl ⟨rfl, by rw [hI]; omega⟩
    · rw [if_neg h]
      rw [if_neg (show ¬ lt8 L[i].A9 x.A9 from h)] at hI
      exact .inr ⟨_, rfl, by rw [hI]; simp⟩)
  (fun hI => by
    simp only [Em]
    rw [if_neg (by omega)]
    refine ⟨_, rfl, ?_⟩
    rw [hI, List.drop_length]
    simp [Gt])
 rw [h1, h2]
theorem ZT (L : List S39) (x : S39) (hl : L.length ≤ 1000000) (hx : okX x) : F38 L x = some (Is L x) := by
 obtain ⟨h1, h2, h3⟩ := hx; unfold F38 Is KH; rw [Ab h3.1, TU _ h1, TS _ h2, Pj _ h3, Zv _ _ hl, Zw _ _ hl, UG L x hl]; simp only [Option.bind_some]; by_cases a1 : BM x.A9 = true
 ·rw [if_neg (by simpa using a1)]; by_cases a2 : BX x.Ac = true
  ·rw [if_neg (by simpa using a2)]; by_cases a3 : AS x.A5 = true
   ·rw [if_neg (by simpa using a3), if_pos (c := (BM x.A9 && BX x.Ac && AS x.A5) = true) (by simp [a1, a2, a3])]; by_cases a4 : 0 ≤ EE L x.A9
    ·rw [if_pos a4, if_pos a4]
    ·rw [if_neg a4, if_neg a4]; by_cases a5 : 0 ≤ IY L x.Ac
     ·rw [if_pos a5, if_pos a5]
     ·rw [if_neg a5, if_neg a5]; by_cases a6 : (64 : Int) ≤ L.length
      ·rw [if_pos a6, if_pos a6]
      ·rw [if_neg a6, if_neg a6]; have hc := MK (hf := fun x : S39 => x.A9) x.A9 L; unfold J8; rw [Ab (by omega), Ab (by omega), Int.toNat_natCast, Ab (by simp; omega), Ab (by simp; omega), Ab (by simp; omega)]; simp [Ik]
   ·rw [if_pos a3, if_neg (c := (BM x.A9 && BX x.Ac && AS x.A5) = true) (by simp [a3])]
  ·rw [if_pos a2, if_neg (c := (BM x.A9 && BX x.Ac && AS x.A5) = true) (by simp [a2])]
 ·rw [if_pos a1, if_neg (c := (BM x.A9 && BX x.Ac && AS x.A5) = true) (by simp [a1])]
theorem ZU (y : S33) (h1 : y.A9.length ≤ 1000000) (h2 : y.Ac.length ≤ 1000000) (hd : Rq y.fDn) (hc : DK y.A5) : F41 y = some (BN y) := by
 unfold F41 BN; rw [Ab hc.1, TS _ h2, TU _ h1, Pj _ hc, Zr _ hd]; simp only [Option.bind_some]; have hz : ((y.fDn.length : Int) = 0) ↔ y.fDn = [] := by rw [← List.length_eq_zero_iff]; omega
 have hp : ((0 : Int) < y.fDn.length) ↔ ¬ y.fDn = [] := by rw [← List.length_eq_zero_iff]; omega
 by_cases a1 : BX y.Ac = true
 ·rw [if_pos a1, a1]; by_cases a2 : y.fDn = []
  ·rw [if_pos (hz.2 a2)]; by_cases a3 : BM y.A9 = true
   ·rw [if_pos a3]; simp [a2, a3]
   ·rw [if_neg a3]; simp [a2, a3]
  ·rw [if_neg (fun e => a2 (hz.1 e))]; have hu : ¬ y.Ac = [] := by
    intro e; rw [e] at a1; simp [BX] at a1
   rw [if_neg hu]; simp [a2, hu]
 ·rw [if_neg a1]; by_cases a2 : y.Ac = []
  ·rw [if_pos a2]; by_cases a3 : y.fDn = []
   ·rw [if_neg (fun e => hp.1 e a3)]; simp [a1, a3]
   ·rw [if_pos (hp.2 a3)]; by_cases a4 : BL y.fDn = true
    ·rw [if_pos a4]; by_cases a5 : BM y.A9 = true
     ·rw [if_pos a5]; simp [a1, a2, a3, a4, a5]
     ·rw [if_neg a5]; simp [a5]
    ·rw [if_neg a4]; simp [a1, a4]
  ·rw [if_neg a2]; simp [a1, a2]
end Go.Idl
namespace Go.Idl
open Go
def okP (y : S33) : Prop := y.A9.length ≤ 1000000 ∧ y.Ac.length ≤ 1000000 ∧ Rq y.fDn ∧ DK y.A5
structure Inv (m : Mp) (n : Np) (pr : Option S33) (d : S35) : Prop where
  tabs : C2 (fun x : S39 => x.A9) (fun x : S39 => x.Ac) m n d.fL
  good : ∀ x ∈ d.fL, KH x = true ∧ okX x
  len : d.fL.length ≤ 64
  pro : (pr = none ∧ d.fP = S33.zero) ∨ (pr = some d.fP ∧ BN d.fP = true ∧ okP d.fP)
theorem Inv.nil : Inv [] [] none ⟨[], S33.zero⟩ := ⟨C2.nil, by simp, by simp, .inl ⟨rfl, rfl⟩⟩
variable {m : Mp} {n : Np} {pr : Option S33} {d : S35}
theorem Inv.shape (I : Inv m n pr d) (h : Str) : ((B8 m h).getD S39.zero).A5.length = 8 := by
 cases e : B8 m h with
 | none => rfl
 | some x => exact (I.good x ((I.tabs.mg h x).1 e).1).2.2.2.1
theorem Inv.big (I : Inv m n pr d) (h : Str) : DK ((B8 m h).getD S39.zero).A5 := by
 cases e : B8 m h with
 | none => exact ⟨rfl, by simp [S39.zero]⟩
 | some x => exact (I.good x ((I.tabs.mg h x).1 e).1).2.2.2
theorem Inv.kP (I : Inv m n pr d) (h : Str) : (B8 m h).isSome = decide (0 ≤ EE d.fL h) := by
 rcases LP d.fL h with ⟨q, hk, e⟩ | ⟨q, e⟩
 ·rw [decide_eq_true q]; have := I.tabs.get (List.getElem_mem hk); rw [e] at this; rw [this]; rfl
 ·rw [q]; rw [(I.tabs.nothing (h := h)).2 e]; rfl
theorem Inv.ent (I : Inv m n pr d) (u : Str) : (B8 n u).isSome = decide (0 ≤ IY d.fL u) := by
 rcases Of d.fL u with ⟨q, hk, e⟩ | ⟨q, e⟩
 ·rw [decide_eq_true q]; have := I.tabs.fC (List.getElem_mem hk); rw [e] at this; rw [this]; rfl
 ·rw [q]; rw [(I.tabs.TY (u := u)).2 e]; rfl
theorem UH (I : Inv m n pr d) : F14 m n pr = some d.fL := by
 have hl := I.len; have hm := I.tabs.len; have hk : ∀ p, p ∈ m → p.1.length ≤ 1000000 := fun p hp => by
  have : p.1 ∈ d.fL.map fun x : S39 => x.A9 := (I.tabs.keys p.1).1 (List.mem_map_of_mem hp); obtain ⟨x, hx, e⟩ := List.mem_map.1 this; rw [← e]; exact (I.good x hx).2.1
 unfold F14 F42 F43; rw [Ab ⟨by omega, hk⟩, I.tabs.sort]; simp only [Option.bind_some]; obtain ⟨r, h1, h2⟩ := Pe (step := fun (s : Int × List S39) => HY m (d.fL.map fun x : S39 => x.A9) s.1 s.2) (Post := fun y => y = d.fL) d.fL.length (fun i a => a = d.fL.take i) (a := []) (by simp)
  (fun i a hi hI => by
    have hw := AK (i := i) (by omega)
    have hi' : i < (d.fL.map fun x : S39 => x.A9).length := by simpa using hi
    have hx := List.getElem_mem hi
    simp only [HY]
    rw [if_pos (by simp; omega), Ab (by simp; omega), Int.toNat_natCast, getD_some hi', List.getElem_map, I.tabs.get hx]
    simp only [Option.getD_some]
    rw [J4 _ (I.good _ hx).2.2.2]
    simp only [Option.bind_some]
    have hal : a.length ≤ 64 := by rw [hI]; simp; omega
    rw [Ab (I.good _ hx).2.2.2.1, Ab (by simp; omega), hw]
    exact .inl ⟨_, rfl, by rw [hI, List.take_succ_eq_append_getElem hi]⟩)
  (fun a hI => by
    simp only [HY]
    rw [if_neg (by simp)]
    exact ⟨_, rfl, by rw [hI, List.take_of_length_le (Nat.le_refl _)]⟩)
 rw [h1, h2]; rfl
theorem UI (y : S33) (h : okP y) : F52 y = some y := by
 unfold F52 F78 F58; rw [Ab h.2.2.2.1, Ab h.2.2.1.1, Ab h.2.2.2]; simp only [Option.bind_some]; rw [Ab h.2.2.2.1]
theorem WG {s : Str} (h : BM s = true) : ¬ s = [] := by
 rintro rfl
 simp [BM, IN] at h
theorem Inv.prs (I : Inv m n pr d) : pr.isSome = decide (¬ d.fP.A9 = []) := by
 rcases I.pro with ⟨e1, e2⟩ | ⟨e1, e2, e3⟩
 ·rw [e1, e2]; rfl
 ·rw [e1]; have : BM d.fP.A9 = true := by
   simp only [BN, Bool.and_eq_true] at e2; exact e2.2.1
  simp [WG this]
theorem Inv.XB (I : Inv m n pr d) : okP d.fP := by
 rcases I.pro with ⟨_, e2⟩ | ⟨_, _, e3⟩
 ·rw [e2]; exact ⟨by simp [S33.zero], by simp [S33.zero], ⟨by simp [S33.zero], by simp [S33.zero]⟩, ⟨rfl, by simp [S33.zero]⟩⟩
 ·exact e3
theorem UJ (I : Inv m n pr d) : F26 m n pr = some (d.fP, pr.isSome) := by
 unfold F26 F42; simp only [Option.bind_some]; rcases I.pro with ⟨e1, e2⟩ | ⟨e1, e2, e3⟩
 ·rw [e1, e2]; rfl
 ·rw [e1]; simp only [Option.isNone_some, Bool.false_eq_true, if_false, Option.isSome_some, Option.getD_some]; rw [Ab trivial, Ab e3.2.2.2.1, UI _ e3]; simp only [Option.bind_some]; rw [Ab e3.2.2.2.1]
theorem ZV (I : Inv m n pr d) : F34 m n pr = some (d.fL.length : Int) := by
 unfold F34 F42; simp only [Option.bind_some]; rw [I.tabs.len]
theorem ZW (I : Inv m n pr d) (h : Str) : F21 m n pr h = some ((B8 m h).getD S39.zero, (B8 m h).isSome) := by
 unfold F21 F42; simp only [Option.bind_some]; rw [Ab (I.shape h), J4 _ (I.big h)]; simp only [Option.bind_some]; rw [Ab (I.shape h)]
theorem ZX (I : Inv m n pr d) (u : Str) : F18 m n pr u = some ((B8 m ((B8 n u).getD [])).getD S39.zero, (B8 m ((B8 n u).getD [])).isSome) := by
 unfold F18 F42; simp only [Option.bind_some]; rw [ZW I]; simp only [Option.bind_some]; rw [Ab (I.shape _)]
theorem MU (I : Inv m n pr d) (x : S39) (hx : okX x) : ∃ m' n', F29 m n pr x = some ((Is d.fL x).2, m', n') ∧ Inv m' n' pr ⟨(Is d.fL x).1, d.fP⟩ := by
 have hl := I.len; have hm := I.tabs.len; unfold F29 F42 F57 F56 Is KH; rw [Ab hx.2.2.1, TT _ hx.1, TR _ hx.2.1, Ab hx.2.2, Ab (I.shape _), I.kP, I.ent, J4 _ hx.2.2]; simp only [Option.bind_some]; by_cases a1 : BM x.A9 = true
 ·rw [if_neg (c := ¬ BM x.A9 = true) (by simpa using a1)]; by_cases a2 : BX x.Ac = true
  ·rw [if_neg (c := ¬ BX x.Ac = true) (by simpa using a2)]; by_cases a3 : AS x.A5 = true
   ·rw [if_pos (c := AS x.A5 = true) a3, if_neg (c := ¬ (0 : Int) = 0) (by simp), if_pos (c := (BM x.A9 && BX x.Ac && AS x.A5) = true) (by simp [a1, a2, a3])]; by_cases a4 : 0 ≤ EE d.fL x.A9
    ·rw [if_pos a4, decide_eq_true a4]; exact ⟨m, n, by simp, I⟩
    ·rw [if_neg a4, decide_eq_false a4]; by_cases a5 : 0 ≤ IY d.fL x.Ac
     ·rw [if_pos a5, decide_eq_true a5]; exact ⟨m, n, by simp, I⟩
     ·rw [if_neg a5, decide_eq_false a5]; by_cases a6 : (64 : Int) ≤ d.fL.length
      ·rw [if_pos a6]; exact ⟨m, n, by simp [hm, a6], I⟩
      ·rw [if_neg a6]; refine ⟨AT m x.A9 x, AT n x.Ac x.A9, by simp [F49, Ab hx.2.2.1, hm]; omega, ?_⟩; have q1 : ∀ y ∈ d.fL, ¬ y.A9 = x.A9 := by
        rcases LP d.fL x.A9 with ⟨q, _⟩ | ⟨_, q⟩
        ·exact absurd q a4
        ·exact q
       have q2 : ∀ y ∈ d.fL, ¬ y.Ac = x.Ac := by
        rcases Of d.fL x.Ac with ⟨q, _⟩ | ⟨_, q⟩
        ·exact absurd q a5
        ·exact q
       refine ⟨I.tabs.add q1 q2, fun y hy => ?_, by rw [TZ]; omega, I.pro⟩; rcases Dc.1 hy with e | e
       ·subst e; exact ⟨by simp [KH, a1, a2, a3], hx⟩
       ·exact I.good y e
   ·rw [if_neg a3, if_pos (c := ¬ (2 : Int) = 0) (by simp), if_neg (c := (BM x.A9 && BX x.Ac && AS x.A5) = true) (by simp [a3])]; exact ⟨m, n, rfl, I⟩
  ·rw [if_pos a2, if_neg (c := (BM x.A9 && BX x.Ac && AS x.A5) = true) (by simp [a2])]; exact ⟨m, n, rfl, I⟩
 ·rw [if_pos a1, if_neg (c := (BM x.A9 && BX x.Ac && AS x.A5) = true) (by simp [a1])]; exact ⟨m, n, rfl, I⟩
theorem WH (I : Inv m n pr d) (y : S33) (hy : okP y) : ∃ pr', F27 m n pr y = some (if BN y = true then 0 else 2, pr') ∧ Inv m n pr' ⟨d.fL, if BN y = true then y else d.fP⟩ := by
 have key : F27 m n pr y = some (if BN y = true then (0, some y) else (2, pr)) := by
  have hz : ((y.fDn.length : Int) = 0) ↔ y.fDn = [] := by rw [← List.length_eq_zero_iff]; omega
  have hp : ((0 : Int) < y.fDn.length) ↔ ¬ y.fDn = [] := by rw [← List.length_eq_zero_iff]; omega
  unfold F27 F42 F56 BN; rw [Ab hy.2.2.2.1, TR _ hy.2.1, TT _ hy.1, Ab hy.2.2.2, U0 _ hy.2.2.1, UI _ hy]; simp only [Option.bind_some]; have hs : y.A5.length = 8 := hy.2.2.2.1; have hgd : ∀ {α : Type} (z : Option α), gd (y.A5.length = 8) z = z := fun z => Ab hs; simp only [hgd]; by_cases a1 : BX y.Ac = true
  ·have hu : ¬ y.Ac = [] := by
    intro e; rw [e] at a1; simp [BX] at a1
   by_cases a2 : y.fDn = []
   ·by_cases a3 : BM y.A9 = true <;> by_cases a4 : AS y.A5 = true <;> simp [a1, a2, a3, a4, hu]
   ·have q1 : ¬ ((y.fDn.length : Int) = 0) := fun e => a2 (hz.1 e); simp [a1, a2, q1, hu]
  ·by_cases a2 : y.Ac = []
   ·by_cases a3 : y.fDn = []
    ·have hu0 : BX [] = false := rfl; simp [a2, a3, hu0]
    ·have hu0 : BX [] = false := rfl; have q1 := hp.2 a3; by_cases b1 : BL y.fDn = true <;> by_cases b2 : BM y.A9 = true <;> by_cases b3 : AS y.A5 = true <;> simp [a2, a3, q1, b1, b2, b3, hu0]
   ·simp [a1, a2]
 rw [key]; by_cases h : BN y = true
 ·exact ⟨some y, by simp [h], ⟨I.tabs, I.good, I.len, .inr (by simp only [h, if_true]; exact ⟨trivial, trivial, hy⟩)⟩⟩
 ·exact ⟨pr, by simp [h], by simp only [h]; exact I⟩
end Go.Idl
namespace Go.Idl
open Go
variable {m : Mp} {n : Np} {pr : Option S33} {d : S35}
theorem Inv.sh (I : Inv m n pr d) : ∀ x ∈ d.fL, x.A5.length = 8 := fun x hx => (I.good x hx).2.2.2.1
theorem Inv.f_ (I : Inv m n pr d) : ∀ x ∈ d.fL, DK x.A5 := fun x hx => (I.good x hx).2.2.2
theorem Inv.psh (I : Inv m n pr d) : d.fP.A5.length = 8 := I.XB.2.2.2.1
theorem KI {σ ρ α : Type} {step : α → σ → Option (σ ⊕ ρ)} (J : Nat → σ → Prop) : ∀ (l : List α) (k : Nat) (s : σ), J k s → (∀ (i : Nat) (h : i < l.length) (s : σ), J (k + i) s → ∃ s', step l[i] s = some (.inl s') ∧ J (k + i + 1) s') → ∃ s', Gi step l s = some (.inl s') ∧ J (k + l.length) s'
  | [], k, s, h0, _ => ⟨s, rfl, h0⟩
  | a :: l, k, s, h0, h => by
    obtain ⟨s1, h1, h2⟩ := h 0 (by simp) s (by simpa using h0)
    obtain ⟨s2, h3, h4⟩ := KI J l (k + 1) s1 (by simpa using h2) fun i hi s hs => by
      obtain ⟨s', q1, q2⟩ := h (i + 1) (by simpa using hi) s (by rw [show k + (i + 1) = k + 1 + i by omega]; exact hs)
      exact ⟨s', by simpa using q1, by rw [show k + 1 + i + 1 = k + (i + 1) + 1 by omega]; exact q2⟩
    have h1' : step a s = some (.inl s1) := by simpa using h1
    refine ⟨s2, ?_, by rw [List.length_cons, show k + (l.length + 1) = k + 1 + l.length by omega]; exact h4⟩
    rw [E_, h1']
    simpa using h3
theorem UK {α : Type} {l : List α} {i : Nat} (h : i < (EC l).length) : (EC l)[i] = ((i : Int), l[i]'(by rwa [Cj] at h)) := by
 have h' : i < l.length := by rwa [Cj] at h
 have := Ls h'; rw [List.getElem?_eq_getElem h] at this; exact Option.some.inj this
theorem ZY (I : Inv m n pr d) : F20 m n pr d = some true := by
 have hl := I.len; unfold F20; rw [Ab I.psh, UH I, UJ I, ZV I]; simp only [Option.bind_some]; rw [Ab I.psh, if_neg (by rw [I.prs]; simp), Zu _ _ I.psh I.psh I.XB.2.2.1.1]; simp only [Option.bind_some, decide_true]; rw [if_neg (by simp), if_neg (by simp), Ab I.f_]; obtain ⟨s', h1, h2⟩ := KI (step := fun (el26 : Int × S39) (s : Bool × Int) => Hf d el26 s.1 s.2) (fun k s => s.2 = (k : Int)) (EC d.fL) 0 (false, 0) rfl
  (fun i hi s hs => by
    have hi' : i < d.fL.length := by rwa [Cj] at hi
    have hw := AK (i := i) (by omega)
    have hx := I.sh _ (List.getElem_mem hi')
    rw [Nat.zero_add] at hs
    rw [UK hi]
    simp only [Hf, hs]
    rw [Ab hx, if_neg (by simp), if_neg (by omega), Ab (by omega), Int.toNat_natCast, getD_some hi', Ab hx, Zt _ _ hx hx]
    simp only [Option.bind_some, decide_true]
    rw [if_neg (by simp), hw]
    exact ⟨_, rfl, by simp⟩)
 unfold HU; rw [h1]; simp only [Option.map_some, Sum.elim_inl, Option.bind_some, Ja]; rw [h2, Cj]; simp
end Go.Idl
namespace Go.Idl
open Go
variable {m : Mp} {n : Np} {pr : Option S33} {d : S35}
def FN : List (List Str) := [[[65, 110, 110]], [], [], [], [], [], [], []]
def Cm : S39 := ⟨[47, 98, 111, 111, 107, 47, 97], [117, 49], FN⟩
def Pw : S39 := ⟨[47, 98, 111, 111, 107, 47, 98], [117, 49], FN⟩
theorem gi : DK FN := by decide
theorem kQ : okX Cm := ⟨by decide, by decide, gi⟩
theorem kR : okX Pw := ⟨by decide, by decide, gi⟩
theorem UL : AS FN = true := by decide
theorem kS : Is [] Cm = ([Cm], 0) := by
 have h : KH Cm = true := by decide
 unfold Is; rw [if_pos h]; rfl
theorem kT : Is [Cm] Pw = ([Cm], 300) := by
 have h : KH Pw = true := by decide
 have e1 : EE [Cm] Pw.A9 = -1 := by decide
 have e2 : IY [Cm] Pw.Ac = 0 := by decide
 unfold Is; rw [if_pos h, e1, e2]; rfl
theorem XC : FY FN = [102, 117, 108, 108, 32, 49, 10, 51, 32, 65, 110, 110, 10] := by
 have d1 : Lib.decDigits 1 = [49] := by unfold Lib.decDigits; rfl
 have d3 : Lib.decDigits 3 = [51] := by unfold Lib.decDigits; rfl
 have e : FY FN = (CS.getD 0 [] ++ 32 :: Lib.decDigits 1 ++ [10]) ++ (Lib.decDigits 3 ++ 32 :: [65, 110, 110] ++ [10]) := by
  simp [FY, JX, FN]
 rw [e, d1, d3]; rfl
theorem MV : F11 = some true := by
 obtain ⟨m1, n1, e1, I1⟩ := MU Inv.nil Cm kQ; rw [show (⟨[], S33.zero⟩ : S35).fL = [] from rfl, kS] at e1 I1; obtain ⟨m2, n2, e2, I2⟩ := MU I1 Pw kR; rw [show (⟨[Cm], S33.zero⟩ : S35).fL = [Cm] from rfl, kT] at e2 I2; have h31 : F31 = some FN := rfl; have h8 : FN.length = 8 := rfl; have g1 : B8 n2 [117, 49] = some Cm.A9 := I2.tabs.fC (x := Cm) (by simp); have g2 : B8 m2 Cm.A9 = some Cm := I2.tabs.get (x := Cm) (by simp); have h18 : F18 m2 n2 none [117, 49] = some (Cm, true) := by
  rw [ZX I2, g1]; simp only [Option.getD_some]; rw [g2]; rfl
 have h61 : F61 FN = some (FY FN, 0) := by
  unfold F61; rw [Ab (by decide), if_pos UL, if_pos UL]
 have h33 : F33 m2 n2 none = some [(⟨[112] ++ Cm.A9, (Cm.Ac ++ [10]) ++ FY FN⟩ : S78)] := by
  unfold F33; rw [UJ I2]; simp only [Option.bind_some, Option.isSome_none, Bool.false_eq_true, if_false]; rw [Ab I2.psh]; unfold Ki; rw [UH I2]; simp only [Option.bind_some]; rw [Ab I2.f_]; unfold HU; have hen : EC [Cm] = [((0 : Int), Cm)] := rfl; rw [hen, E_]; have hs : Kh ((0 : Int), Cm) [] = some (.inl [(⟨[112] ++ Cm.A9, (Cm.Ac ++ [10]) ++ FY FN⟩ : S78)]) := by
   unfold Kh; rw [Ab (show ((0 : Int), Cm).2.A5.length = 8 from rfl), show ((0 : Int), Cm).2.A5 = FN from rfl, h61]; simp only [Option.bind_some]; rw [XC]; rw [Ab (by decide), Ab (by decide), Ab (by decide), Ab (by decide)]; rfl
  rw [hs]; rfl
 unfold F11; rw [show F12 = some ([], [], none) from rfl, h31]; simp only [Option.bind_some]; rw [Ab h8, show (⟨[47, 98, 111, 111, 107, 47, 97], [117, 49], FN⟩ : S39) = Cm from rfl, e1]; simp only [Option.bind_some]; rw [Ab h8, show (⟨[47, 98, 111, 111, 107, 47, 98], [117, 49], FN⟩ : S39) = Pw from rfl, e2]; simp only [Option.bind_some]; rw [h18]; simp only [Option.bind_some]; rw [Ab (show Cm.A5.length = 8 from rfl), h33, XC]; rfl
end Go.Idl
namespace Go.Idl
open Go
variable {m : Mp} {n : Np} {pr : Option S33} {d : S35}
end Go.Idl
namespace Go.Idl
open Go Go.Lib
variable {m : Mp} {n : Np} {pr : Option S33} {d : S35}
end Go.Idl
namespace Go.Idl
open Go Go.Proofs.Tryz Go.Lib
set_option pp.deepTerms false
theorem WI : ∀ (f k : Nat) (s : Str) (c d : List (List Str)), E0 f k s c = some d → (∀ l, l ∈ c → l.length ≤ 1000000) → d.length = c.length ∧ ∀ l, l ∈ d → l.length ≤ 1000000 := by
 intro f
 induction f with
 | zero => intro k s c d h hc; unfold E0 at h; split at h <;> cases h; exact ⟨rfl, hc⟩
 | succ f ih =>
  intro k s c d h hc; unfold E0 at h; split at h
  ·cases h; exact ⟨rfl, hc⟩
  ·obtain ⟨p, h1, h⟩ := Option.bind_eq_some_iff.1 h; split at h
   ·cases h
   ·have hp : p.2.1.length ≤ 1000000 := by
     obtain ⟨q1, _, h1⟩ := Option.bind_eq_some_iff.1 h1; obtain ⟨q2, _, h1⟩ := Option.bind_eq_some_iff.1 h1; obtain ⟨i, _, h1⟩ := Option.bind_eq_some_iff.1 h1; obtain ⟨n, hn, h1⟩ := Option.bind_eq_some_iff.1 h1; obtain ⟨r, hr, rfl⟩ := Option.map_eq_some_iff.1 h1; have := (B_.1 hn).2.1; have := (Rj hr).2; simp only; omega
    obtain ⟨q1, q2⟩ := ih _ _ _ _ h (fun l hl => by
      rcases List.mem_or_eq_of_mem_set hl with hl | rfl
      · exact hc l hl
      · exact hp)
    exact ⟨by simpa using q1, q2⟩
theorem LQ (s : Str) (hs : s.length ≤ 4294967280) : ∀ (k i : Nat), i + k = s.length → AD (fun v => Eu s v) (i : Int) = some (match AP (s.drop i) 10 with | some p => .inr (s.take i ++ p.1, p.2, true) | none => .inl ())
  | 0, i, h => by
    rw [List.drop_of_length_le (by omega)]
    refine Av ?_
    simp only [Eu]
    rw [if_neg (by omega)]
    rfl
  | k + 1, i, h => by
    have hi : i < s.length := by omega
    have hg : s.getD i 0 = s[i] := by rw [List.getD_eq_getElem?_getD, List.getElem?_eq_getElem hi]; rfl
    have hw : IntKind.i64.wrap ((i : Int) + 1) = ((i + 1 : Nat) : Int) := AK (by omega)
    rw [List.drop_eq_getElem_cons hi]
    unfold AP
    by_cases hc : s[i] = 10
    · rw [if_pos hc]
      refine Av ?_
      simp only [Eu]
      rw [if_pos (by omega), Ab (by omega), Int.toNat_natCast, hg, if_pos (Il.2 hc), Ab (by omega), Ab (by omega), hw, Ab (by omega), Ab (by omega), Int.toNat_natCast]
      simp
    · rw [if_neg hc]
      rw [AR (s' := ((i + 1 : Nat) : Int)), LQ s hs k (i + 1) (by omega)]
      · cases AP (s.drop (i + 1)) 10 with
        | none => rfl
        | some p =>
          simp only [Option.map_some]
          rw [List.take_succ_eq_append_getElem hi]
          simp only [List.append_assoc, List.singleton_append]
      · simp only [Eu]
        rw [if_pos (by omega), Ab (by omega), Int.toNat_natCast, hg, if_neg (fun e => hc (Il.1 e)), hw]
def Ce (s : Str) : Str × Str × Bool := match AP s 10 with | some p => (p.1, p.2, true) | none => ([], [], false)
theorem MW (s : Str) (hs : s.length ≤ 4294967280) : Pn s = some (Ce s) := by
 unfold Pn Ce; have := LQ s hs s.length 0 (by omega); rw [show (((0 : Nat) : Int)) = 0 from rfl, List.drop_zero] at this; rw [this]; cases AP s 10 with
 | none => rfl
 | some p => simp
theorem BA {s : Str} {p : Str × Str} (h : AP s 10 = some p) : p.1.length + p.2.length + 1 = s.length := by
 obtain ⟨h1, _⟩ := BK.1 (show AP s 10 = some (p.1, p.2) from h); rw [h1]; simp; omega
theorem EB (k : Nat) (s : Str) : splitK [10] 0 (k + 1) s = match AP s 10 with | some p => p.1 :: splitK [10] 0 k p.2 | none => [s] := by
 rw [splitK, index_one]; cases h : AP s 10 with
 | none => simp
 | some p =>
  obtain ⟨h1, _⟩ := BK.1 (show AP s 10 = some (p.1, p.2) from h); simp only; rw [if_neg (by simp)]; simp [h1]
def Gx (s : Str) : Option (Str × Str × Str × Str) := (AP s 10).bind fun a => (AP a.2 10).bind fun b => (AP b.2 10).map fun c => (a.1, b.1, c.1, c.2)
theorem UM (s : Str) : (∃ a b c e, Gx s = some (a, b, c, e) ∧ splitN s [10] 4 = [a, b, c, e]) ∨ (Gx s = none ∧ (splitN s [10] 4).length < 4) := by
 have short : ∀ (k : Nat) (s : Str), (splitK [10] 0 k s).length ≤ k + 1 := by
  intro k
  induction k with
  | zero => intro s; simp [splitK]
  | succ k ih =>
   intro s; rw [EB]; cases AP s 10 with
   | none => simp
   | some p => have := ih p.2; simp; omega
 unfold splitN Gx; by_cases hl : s.length < 3
 ·right; have : min 4 (s.length + 1) - 1 ≤ 2 := by omega
  refine ⟨?_, by have := short (min 4 (s.length + 1) - 1) s; omega⟩; cases h1 : AP s 10 with
  | none => rfl
  | some a =>
   have l1 := BA h1; rw [Option.bind_some]; cases h2 : AP a.2 10 with
   | none => rfl
   | some b =>
    have l2 := BA h2; rw [Option.bind_some]; cases h3 : AP b.2 10 with
    | none => rfl
    | some c =>
     have l3 := BA h3; omega
 ·rw [show min 4 (s.length + 1) - 1 = 3 by omega, EB]; cases h1 : AP s 10 with
  | none => right; simp
  | some a =>
   simp only [Option.bind_some]; rw [EB]; cases h2 : AP a.2 10 with
   | none => right; simp
   | some b =>
    simp only [Option.bind_some]; rw [EB]; cases h3 : AP b.2 10 with
    | none => right; simp
    | some c => left; exact ⟨a.1, b.1, c.1, c.2, rfl, rfl⟩
noncomputable def FO (s : Str) : Option (List (List Str)) := (Er s).bind fun c => if AS c = true then some c else none
theorem MX (s : Str) : Gv s = match FO s with | some c => (c, 0) | none => (B3, 260) := by
 unfold Gv FO; cases Er s with
 | none => rfl
 | some c => simp only [Option.bind_some]; split <;> rfl
theorem MY (s : Str) : CX s = match FO s with | some c => (c, true) | none => (B3, false) := by
 unfold CX FO; cases Er s with
 | none => rfl
 | some c => simp only [Option.bind_some]; split <;> rfl
theorem DC {s : Str} {c : List (List Str)} (h : FO s = some c) : AS c = true ∧ c.length = 8 ∧ DK c := by
 unfold FO at h; obtain ⟨d, h1, h2⟩ := Option.bind_eq_some_iff.1 h; have h8 := (WI _ _ _ _ _ h1 (by intro l hl; simp [B3] at hl; simp [hl])).1; have h8 : d.length = 8 := by rw [h8]; rfl
 split at h2
 ·rename_i hc; cases h2; obtain ⟨v1, v2, _⟩ := Pt h8 hc; exact ⟨hc, h8, h8, fun l hl => ⟨by have := v1 l hl; omega, fun s hs => by have := v2 l hl s hs; omega⟩⟩
 ·cases h2
noncomputable def EI (v : Str) : Option S33 := (Gx v).bind fun q => (Ez q.2.2.1).bind fun d => (FO q.2.2.2).bind fun c => if E4 d = q.2.2.1 ∧ BN ⟨q.1, q.2.1, d, c⟩ = true then some ⟨q.1, q.2.1, d, c⟩ else none
theorem KJ {v a b c e : Str} (h : Gx v = some (a, b, c, e)) : a.length + b.length + c.length + e.length + 3 = v.length := by
 unfold Gx at h; obtain ⟨p, h1, h⟩ := Option.bind_eq_some_iff.1 h; obtain ⟨q, h2, h⟩ := Option.bind_eq_some_iff.1 h; obtain ⟨r, h3, h⟩ := Option.map_eq_some_iff.1 h; have l1 := BA h1; have l2 := BA h2; have l3 := BA h3; cases h; omega
theorem RM {v : Str} {y : S33} (h : EI v = some y) (hv : v.length ≤ 1000000) : BN y = true ∧ okP y := by
 unfold EI at h; obtain ⟨⟨a, b, c, e⟩, h1, h⟩ := Option.bind_eq_some_iff.1 h; obtain ⟨d, h2, h⟩ := Option.bind_eq_some_iff.1 h; obtain ⟨s, h3, h⟩ := Option.bind_eq_some_iff.1 h; have hl := KJ h1; split at h
 ·rename_i hr; cases h; have hd := EA h2; simp only [BL, Bool.and_eq_true, decide_eq_true_eq, List.all_eq_true] at hd; refine ⟨hr.2, by simp only; omega, by simp only; omega, ⟨by simp only; omega, fun x hx => ?_⟩, (DC h3).2.2⟩; have := hd.2 x hx; simp only [CB, BI, Bool.and_eq_true, decide_eq_true_eq] at this; omega
 ·cases h
theorem ZZ (v : Str) (hv : v.length ≤ 1000000) : (EI v = none → ∃ w, F67 v = some (w, false) ∧ w.A5.length = 8) ∧ ∀ y, EI v = some y → F67 v = some (y, true) := by
 have hE : ∃ w : S33, (⟨[], [], [], [[], [], [], [], [], [], [], []]⟩ : S33) = w ∧ w.A5.length = 8 := ⟨_, rfl, rfl⟩; unfold F67 EI Gx; rw [MW v (by omega), Option.bind_some]; have lc : ∀ s : Str, (Ce s).1.length ≤ s.length ∧ (Ce s).2.1.length ≤ s.length := fun s => by
  unfold Ce; cases h : AP s 10 with
  | none => simp
  | some p => have := BA h; simp; omega
 have l1 := lc v; rw [MW _ (by omega), Option.bind_some]; have l2 := lc (Ce v).2.1; rw [MW _ (by omega), Option.bind_some]; have l3 := lc (Ce (Ce v).2.1).2.1; rw [WA _ (by omega), Option.bind_some]; have e68 : ∀ s : Str, s.length ≤ 1000000 → F68 s = some (CX s) := fun s hs => Ab (by omega); rw [e68 _ (by omega), Option.bind_some]; have hq8 : ∀ s, (CX s).1.length = 8 := fun s => by
  rw [MY]; cases h : FO s with
  | none => rfl
  | some c => exact (DC h).2.1
 rw [Ab (hq8 _)]; cases h1 : AP v 10 with
 | none =>
  have e1 : Ce v = ([], [], false) := by rw [Ce, h1]
  rw [e1]; exact ⟨fun _ => ⟨_, rfl, rfl⟩, fun y h => (by cases h)⟩
 | some a =>
  have e1 : Ce v = (a.1, a.2, true) := by rw [Ce, h1]
  rw [e1]; simp only [Option.bind_some, not_true_eq_false, if_false]; cases h2 : AP a.2 10 with
  | none =>
   have e2 : Ce a.2 = ([], [], false) := by rw [Ce, h2]
   rw [e2]; exact ⟨fun _ => ⟨_, rfl, rfl⟩, fun y h => (by cases h)⟩
  | some b =>
   have e2 : Ce a.2 = (b.1, b.2, true) := by rw [Ce, h2]
   rw [e2]; simp only [Option.bind_some, not_true_eq_false, if_false]; cases h3 : AP b.2 10 with
   | none =>
    have e3 : Ce b.2 = ([], [], false) := by rw [Ce, h3]
    rw [e3]; exact ⟨fun _ => ⟨_, rfl, rfl⟩, fun y h => (by cases h)⟩
   | some c =>
    have e3 : Ce b.2 = (c.1, c.2, true) := by rw [Ce, h3]
    rw [e3]; simp only [Option.map_some, Option.bind_some, not_true_eq_false, if_false]; cases h4 : Ez c.1 with
    | none =>
     simp only [UE, Option.bind_none]; exact ⟨fun _ => ⟨_, rfl, rfl⟩, fun y h => (by cases h)⟩
    | some d =>
     simp only [UE, List.nil_append, not_true_eq_false, if_false, Option.bind_some]; rw [MY]; cases h5 : FO c.2 with
     | none =>
      simp only [Option.bind_none]; exact ⟨fun _ => ⟨_, rfl, rfl⟩, fun y h => (by cases h)⟩
     | some s =>
      simp only [not_true_eq_false, if_false, Option.bind_some]; have hd := EA h4; rw [WE d hd, Option.bind_some]; obtain ⟨hc, h8, hb⟩ := DC h5; generalize hX : (if E4 d = c.1 ∧ BN ⟨a.1, b.1, d, s⟩ = true then some (⟨a.1, b.1, d, s⟩ : S33) else none) = X; by_cases ht : E4 d = c.1
      ·rw [if_neg (by simpa using ht)]; have l1 := BA h1; have l2 := BA h2; have hdd := hd; simp only [BL, Bool.and_eq_true, decide_eq_true_eq, List.all_eq_true] at hdd
       rw [ZU _ (by simp only; omega) (by simp only; omega) ⟨by simp only; omega, fun x hx => by
         have := hdd.2 x hx
         simp only [CB, BI, Bool.and_eq_true, decide_eq_true_eq] at this
         omega⟩ hb, Option.bind_some]
       cases hr : BN ⟨a.1, b.1, d, s⟩ with
       | false =>
        rw [if_neg (by simp [hr])] at hX; subst hX; exact ⟨fun _ => ⟨_, rfl, h8⟩, fun y h => (by cases h)⟩
       | true =>
        rw [if_pos ⟨ht, hr⟩] at hX; subst hX; refine ⟨fun h => (by cases h), fun y h => ?_⟩; cases h; rfl
      ·rw [if_pos (by simpa using ht)]; rw [if_neg (fun h => ht h.1)] at hX; subst hX; exact ⟨fun _ => ⟨_, rfl, rfl⟩, fun y h => (by cases h)⟩
theorem UN {m : Mp} {n : Np} {pr : Option S33} {d : S35} (I : Inv m n pr d) (v : Str) (hv : v.length ≤ 1000000) :
    (EI v = none → ∃ w, F63 m n pr v = some (false, w)) ∧ ∀ y, EI v = some y → ∃ pr', F63 m n pr v = some (true, pr') ∧ Inv m n pr' ⟨d.fL, y⟩ := by
 have e98 : F98 v [10] 4 = some (splitN v [10] 4) := by
  unfold F98; rw [Ab (by omega), Ab (by simp), Ab (by omega)]; rfl
 generalize hX : EI v = X; unfold EI at hX; unfold F63; rw [e98, Option.bind_some]; rcases UM v with ⟨a, b, c, e, h1, h2⟩ | ⟨h1, h2⟩
 ·have hl := KJ h1; rw [h1, Option.bind_some] at hX; simp only at hX; rw [h2]; rw [if_neg (by simp), Ab (by simp)]; simp only [List.getD_cons_succ, List.getD_cons_zero]; rw [ZQ c (by omega), Option.bind_some]; have e66 : F66 e = some (Gv e) := Ab (by omega); have hr8 : (Gv e).1.length = 8 := by
   rw [MX]; cases h : FO e with
   | none => rfl
   | some c => exact (DC h).2.1
  cases h4 : Ez c with
  | none =>
   rw [h4] at hX; subst hX; simp only [UA]; rw [Uz [] (by simp [BL]), Option.bind_some, Ab (by simp), e66, Option.bind_some, Ab hr8]; exact ⟨fun _ => ⟨pr, by first | rfl | simp⟩, fun y h => (by cases h)⟩
  | some dn =>
   have hd := EA h4; rw [h4, Option.bind_some] at hX; simp only [UA, List.nil_append]; rw [Uz dn hd, Option.bind_some, Ab (by simp), e66, Option.bind_some, Ab hr8, if_pos trivial]; by_cases ht : E4 dn = c
   ·rw [if_pos ht, MX]; cases h5 : FO e with
    | none =>
     rw [h5] at hX; subst hX; exact ⟨fun _ => ⟨pr, by first | rfl | simp⟩, fun y h => (by cases h)⟩
    | some s =>
     rw [h5, Option.bind_some] at hX; simp only []; rw [if_pos trivial, Ab (by simp), Ab (by simp)]; obtain ⟨hc, h8, hb⟩ := DC h5; have hdd := hd; simp only [BL, Bool.and_eq_true, decide_eq_true_eq, List.all_eq_true] at hdd
     have hy : okP ⟨a, b, dn, s⟩ := ⟨by simp only; omega, by simp only; omega, ⟨by simp only; omega, fun x hx => by
       have := hdd.2 x hx
       simp only [CB, BI, Bool.and_eq_true, decide_eq_true_eq] at this
       omega⟩, hb⟩
     obtain ⟨pr', h6, h7⟩ := WH I ⟨a, b, dn, s⟩ hy; rw [h6, Option.bind_some]; cases hr : BN ⟨a, b, dn, s⟩ with
     | false =>
      rw [if_neg (by simp [hr])] at hX; subst hX; exact ⟨fun _ => ⟨_, rfl⟩, fun y h => (by cases h)⟩
     | true =>
      rw [hr] at h7; rw [if_pos ⟨ht, hr⟩] at hX; subst hX; refine ⟨fun h => (by cases h), fun y h => ?_⟩; cases h; exact ⟨pr', rfl, h7⟩
   ·rw [if_neg ht]; refine ⟨fun _ => ⟨_, rfl⟩, fun y h => ?_⟩; rw [h] at hX; obtain ⟨s, _, hX⟩ := Option.bind_eq_some_iff.1 hX; rw [if_neg (fun h => ht h.1)] at hX; cases hX
 ·rw [h1] at hX; subst hX; rw [if_pos (by omega)]; exact ⟨fun _ => ⟨_, rfl⟩, fun y h => (by cases h)⟩
end Go.Idl
namespace Go.Idl
open Go Go.Proofs.Tryz Go.Lib
set_option pp.deepTerms false
noncomputable def Df (r : S78) (L : List S39) : Option (List S39) :=
  match r.Ba with
  | 112 :: h => (AP r.A7 10).bind fun q => (FO q.2).bind fun c => if (Is L ⟨h, q.1, c⟩).2 = 0 then some (Is L ⟨h, q.1, c⟩).1 else none
  | _ => none
noncomputable def ofS : List S78 → S35 → Option S35
  | [], d => some d
  | r :: l, d => if r.Ba = [105] ∧ d.fP.A9 = [] then (EI r.A7).bind fun y => ofS l ⟨d.fL, y⟩ else (Df r d.fL).bind fun L => ofS l ⟨L, d.fP⟩
def UO : Str → Str × Bool
  | 112 :: t => (t, true)
  | s => (s, false)
def Px (s : Str) : Str × Str × Bool := match AP s 10 with | some p => (p.1, p.2, true) | none => (s, [], false)
theorem gj (s : Str) : cut s [10] = Px s := Q3 s 10
theorem Qn {x : UInt8} {t : Str} (h : ¬ x = 112) : UO (x :: t) = (x :: t, false) := by
 unfold UO; split
 ·rename_i h' e; exact absurd (by cases e; rfl) h
 ·rfl
theorem gm (s : Str) : F64 s [112] = some (UO s) := by
 unfold F64 Ta T9; cases s with
 | nil => rfl
 | cons x t =>
  rw [if_pos (by simp; omega), Ab (by simp), Ab (by simp; omega)]; simp only [Option.bind_some, List.length_cons, List.length_nil]; by_cases h : x = 112
  ·subst h; rw [decide_eq_true (by rfl), if_neg (by simp), Ab (by omega), Ab (by simp; omega)]; rfl
  ·have h3 : ¬ List.take (((0 + 1 : Nat) : Int)).toNat (x :: t) = [112] := by simpa using h
   rw [decide_eq_false h3, if_pos (by simp), Qn h]; rfl
theorem UP : DK B3 := ⟨rfl, by intro l hl; simp [B3] at hl; simp [hl]⟩
theorem UQ (s : Str) : DK (Gv s).1 := by
 rw [MX]; cases h : FO s with
 | none => exact UP
 | some c => exact (DC h).2.2
theorem Og (s : Str) : DK (CX s).1 := by
 rw [MY]; cases h : FO s with
 | none => exact UP
 | some c => exact (DC h).2.2
section
variable {m : Mp} {n : Np} {pr : Option S33} {d : S35} {l : List S78}
theorem Qo (I : Inv m n pr d) (i : Nat) (hi : i < l.length) (hl : l.length ≤ 1000000) (h : ∀ r ∈ l, r.Ba.length ≤ 1000000 ∧ r.A7.length ≤ 1000000) :
    (Df l[i] d.fL = none → Dy l (i : Int) pr m n = some (.inr (.inr (none, 301)))) ∧ ∀ L, Df l[i] d.fL = some L → ∃ m' n', Dy l (i : Int) pr m n = some (.inl (((i + 1 : Nat) : Int), pr, m', n')) ∧ Inv m' n' pr ⟨L, d.fP⟩ := by
 have hr := h _ (List.getElem_mem hi); have hg : l.getD i S78.zero = l[i] := getD_some hi _; generalize hX : Df l[i] d.fL = X; unfold Df at hX; unfold Dy; rw [Int.toNat_natCast, hg]; generalize l[i] = r at *; have e65 : F65 r.A7 [10] = some (cut r.A7 [10]) := Ab (by omega); rw [gm, Option.bind_some, e65, Option.bind_some, gj]; have e66 : ∀ s : Str, s.length ≤ 1000000 → F66 s = some (Gv s) := fun s hs => Ab (by omega); have hc2 : ∀ q, AP r.A7 10 = some q → q.1.length ≤ r.A7.length ∧ q.2.length ≤ r.A7.length := fun q hq => by have := BA hq; omega
 have hlen : (Px r.A7).2.1.length ≤ 1000000 := by
  unfold Px; cases hq : AP r.A7 10 with
  | none => simp
  | some q => have := hc2 q hq; simp only; omega
 rw [e66 _ hlen, Option.bind_some, Ab (UQ _).1]; cases hk : r.Ba with
 | nil =>
  rw [hk] at hX; subst hX; rw [if_pos (by simp [UO])]; exact ⟨fun _ => rfl, fun L h => (by cases h)⟩
 | cons x t =>
  by_cases hx : x = 112
  ·subst hx; rw [hk] at hX; simp only at hX; rw [show UO (112 :: t) = (t, true) from rfl, if_neg (by simp)]; cases hq : AP r.A7 10 with
   | none =>
    rw [hq] at hX; subst hX; have e1 : Px r.A7 = (r.A7, [], false) := by rw [Px, hq]
    rw [e1, if_pos (by simp)]; exact ⟨fun _ => rfl, fun L h => (by cases h)⟩
   | some q =>
    rw [hq, Option.bind_some] at hX; have hcl := hc2 q hq; have e1 : Px r.A7 = (q.1, q.2, true) := by rw [Px, hq]
    rw [e1, if_neg (by simp)]; simp only; rw [MX]; cases hc : FO q.2 with
    | none =>
     rw [hc] at hX; subst hX; rw [if_pos (by decide)]; exact ⟨fun _ => rfl, fun L h => (by cases h)⟩
    | some c =>
     rw [hc, Option.bind_some] at hX; rw [if_neg (by simp)]; have hkl : t.length ≤ 1000000 := by have := hr.1; rw [hk] at this; simp at this; omega
     obtain ⟨m', n', h1, h2⟩ := MU I ⟨t, q.1, c⟩ ⟨hkl, by simp only; omega, (DC hc).2.2⟩; simp only; rw [h1, Option.bind_some]; by_cases h0 : (Is d.fL ⟨t, q.1, c⟩).2 = 0
     ·rw [if_pos h0] at hX; subst hX; rw [if_neg (by simpa using h0), AK (by omega)]; refine ⟨fun h => (by cases h), fun L h => ?_⟩; cases h; exact ⟨m', n', rfl, h2⟩
     ·rw [if_neg h0] at hX; subst hX; rw [if_pos (by simpa using h0)]; exact ⟨fun _ => rfl, fun L h => (by cases h)⟩
  ·have : X = none := by
    rw [← hX, hk]; split
    ·rename_i h' e; exact absurd (by cases e; rfl) hx
    ·rfl
   subst this; rw [Qn hx, if_pos (by simp)]; exact ⟨fun _ => rfl, fun L h => (by cases h)⟩
noncomputable abbrev stO (l : List S78) := fun (s : Int × (Option S33) × Mp × Np) => Gw l s.1 s.2.1 s.2.2.1 s.2.2.2
noncomputable def Z_ (y : ((Option S33) × Mp × Np) ⊕ ((Option (Mp × Np × (Option S33))) × Int)) : Option ((Option (Mp × Np × (Option S33))) × Int) := Sum.elim (fun e => MO e.1 e.2.1 e.2.2) (fun q => some q) y
theorem KK (hl : l.length ≤ 1000000) (h : ∀ r ∈ l, r.Ba.length ≤ 1000000 ∧ r.A7.length ≤ 1000000) : ∀ (k i : Nat) (m : Mp) (n : Np) (pr : Option S33) (d : S35), i + k = l.length → Inv m n pr d →
    (ofS (l.drop i) d = none → (AD (stO l) ((i : Int), pr, m, n)).bind Z_ = some (none, 301)) ∧ ∀ d', ofS (l.drop i) d = some d' → ∃ m' n' pr', (AD (stO l) ((i : Int), pr, m, n)).bind Z_ = some (some (m', n', pr'), 0) ∧ Inv m' n' pr' d'
  | 0, i, m, n, pr, d, hk, I => by
    rw [List.drop_of_length_le (by omega)]
    have e : stO l ((i : Int), pr, m, n) = some (.inr (.inl (pr, m, n))) := by
      simp only [stO, Gw]
      rw [if_neg (by omega)]
    rw [Av e]
    refine ⟨fun h => (by cases h), fun d' h => ?_⟩
    cases h
    exact ⟨m, n, pr, rfl, I⟩
  | k + 1, i, m, n, pr, d, hk, I => by
    have hi : i < l.length := by omega
    have hg : l.getD i S78.zero = l[i] := getD_some hi _
    have hr := h _ (List.getElem_mem hi)
    rw [List.drop_eq_getElem_cons hi, ofS]
    have hpr := I.prs
    have row : ¬ (l[i].Ba = [105] ∧ d.fP.A9 = []) → stO l ((i : Int), pr, m, n) = Dy l (i : Int) pr m n := by
      intro hc
      simp only [stO, Gw]
      rw [if_pos (by omega), Ab (by omega), Int.toNat_natCast, hg]
      by_cases h1 : l[i].Ba = [105]
      · rw [if_pos h1]
        have h2 : pr.isSome = true := by rw [hpr]; simpa using fun e => hc ⟨h1, e⟩
        rw [if_neg (by cases pr <;> simp at h2 ⊢)]
      · rw [if_neg h1]
    by_cases hc : l[i].Ba = [105] ∧ d.fP.A9 = []
    · rw [if_pos hc]
      have h2 : pr.isNone = true := by
        cases pr with
        | none => rfl
        | some y => rw [hc.2] at hpr; simp at hpr
      have e0 : stO l ((i : Int), pr, m, n) = (F63 m n pr l[i].A7).bind fun (x43 : Bool × (Option S33)) => if ¬ (x43.1 = true) then (some (.inr (.inr (none, 301)))) else (some (.inl ((IntKind.i64.wrap ((i : Int) + 1), x43.2, m, n)))) := by
        simp only [stO, Gw]
        rw [if_pos (by omega), Ab (by omega), Int.toNat_natCast, hg, if_pos hc.1, if_pos h2]
      obtain ⟨f1, f2⟩ := UN I l[i].A7 hr.2
      cases hp : EI l[i].A7 with
      | none =>
        obtain ⟨w, hw⟩ := f1 hp
        rw [hw, Option.bind_some, if_pos (by simp)] at e0
        rw [Av e0]
        exact ⟨fun _ => rfl, fun d' h => (by cases h)⟩
      | some y =>
        obtain ⟨pr', hw, I'⟩ := f2 y hp
        rw [hw, Option.bind_some, if_neg (by simp), AK (by omega)] at e0
        rw [AR e0, Option.bind_some]
        exact KK hl h k (i + 1) m n pr' ⟨d.fL, y⟩ (by omega) I'
    · rw [if_neg hc]
      obtain ⟨f1, f2⟩ := Qo I i hi hl h
      cases hp : Df l[i] d.fL with
      | none =>
        rw [Av ((row hc).trans (f1 hp))]
        exact ⟨fun _ => rfl, fun d' h => (by cases h)⟩
      | some L =>
        obtain ⟨m', n', hw, I'⟩ := f2 L hp
        rw [AR ((row hc).trans hw), Option.bind_some]
        exact KK hl h k (i + 1) m' n' pr ⟨L, d.fP⟩ (by omega) I'
theorem ah (hl : l.length ≤ 1000000) (h : ∀ r ∈ l, r.Ba.length ≤ 1000000 ∧ r.A7.length ≤ 1000000) :
    (ofS l ⟨[], S33.zero⟩ = none → F35 l = some (none, 301)) ∧ ∀ d', ofS l ⟨[], S33.zero⟩ = some d' → ∃ m' n' pr', F35 l = some (some (m', n', pr'), 0) ∧ Inv m' n' pr' d' := by
 have := KK hl h l.length 0 [] [] none ⟨[], S33.zero⟩ (by omega) Inv.nil; rw [List.drop_zero] at this; have e : F35 l = (AD (stO l) (((0 : Nat) : Int), none, [], [])).bind Z_ := rfl; rw [e]; exact this
end
end Go.Idl
namespace Go.Idl
open Go Go.Proofs.Tryz Go.Lib
set_option pp.deepTerms false
section
variable {l : List S78}
theorem Oh (i : Nat) (hi : i < l.length) (hv : l[i].A7.length ≤ 1000000) : ∀ (k j : Nat), j + k = l[i].A7.length → AD (fun s : Int => Ex l (i : Int) s) (j : Int) = some (match AP (l[i].A7.drop j) 10 with | some q => ((j + q.1.length : Nat) : Int) | none => (l[i].A7.length : Int))
  | 0, j, h => by
    rw [List.drop_of_length_le (by omega)]
    refine Av ?_
    have hg : l.getD i S78.zero = l[i] := getD_some hi _
    simp only [Ex, Int.toNat_natCast, hg]
    rw [if_neg (by omega)]
    simp only [AP]
    congr 2
    omega
  | k + 1, j, h => by
    have hj : j < l[i].A7.length := by omega
    have hg : l.getD i S78.zero = l[i] := getD_some hi _
    have hb : l[i].A7.getD j 0 = l[i].A7[j] := getD_some hj _
    have e0 : Ex l (i : Int) (j : Int) = some (if ¬ l[i].A7[j] = 10 then .inl ((j + 1 : Nat) : Int) else .inr (j : Int)) := by
      simp only [Ex, Int.toNat_natCast, hg]
      rw [if_pos (by omega), Ab (by omega), hb]
      by_cases hc : l[i].A7[j] = 10
      · rw [if_neg (by simpa using Il.2 hc), if_neg (by simpa using hc)]
      · rw [if_pos (fun e => hc (Il.1 e)), if_pos hc, AK (by omega)]
    rw [List.drop_eq_getElem_cons hj, AP]
    by_cases hc : l[i].A7[j] = 10
    · rw [if_neg (by simpa using hc)] at e0
      rw [Av e0, if_pos hc]
      simp
    · rw [if_pos hc] at e0
      rw [AR e0, Oh i hi hv k (j + 1) (by omega), if_neg hc]
      cases AP (l[i].A7.drop (j + 1)) 10 with
      | none => rfl
      | some q =>
        simp only [Option.map_some, List.length_cons]
        congr 2
        omega
abbrev z33 : S33 := ⟨[], [], [], [[], [], [], [], [], [], [], []]⟩
theorem WJ {m : Mp} {n : Np} {pr : Option S33} {L : List S39} {p : S33} (I : Inv m n pr ⟨L, p⟩) (i : Nat) (hi : i < l.length) (hl : l.length ≤ 1000000) (h : ∀ r ∈ l, r.Ba.length ≤ 1000000 ∧ r.A7.length ≤ 1000000) :
    (Df l[i] L = none → Dz l L (i : Int) z33 p = some (.inr (.inr ([], z33, false)))) ∧ ∀ L', Df l[i] L = some L' → Dz l L (i : Int) z33 p = some (.inl (L', ((i + 1 : Nat) : Int), z33, p)) := by
 have hr := h _ (List.getElem_mem hi); have hg : l.getD i S78.zero = l[i] := getD_some hi _; have hf := Oh i hi hr.2 l[i].A7.length 0 (by omega); rw [List.drop_zero, show ((0 : Nat) : Int) = 0 from rfl] at hf; generalize hX : Df l[i] L = X; unfold Df at hX; unfold Dz; rw [hf, Option.bind_some]; unfold Ji; rw [Int.toNat_natCast, hg]; have z8 : z33.A5.length = 8 := rfl; have hL : L.length ≤ 64 := I.len; generalize l[i] = r at *; cases hk : r.Ba with
 | nil =>
  rw [hk] at hX; subst hX; rw [if_pos (by simp), Ab z8]; exact ⟨fun _ => rfl, fun L h => (by cases h)⟩
 | cons x t =>
  rw [if_neg (by simp; omega), Ab (by simp)]; simp only [List.getD_cons_zero]; have e112 : ((x.toNat : Int) = 112) ↔ x = 112 := AZ (c := 112) rfl; by_cases hx : x = 112
  ·rw [if_neg (by simpa using e112.2 hx)]; subst hx; rw [hk] at hX; simp only at hX; cases hq : AP r.A7 10 with
   | none =>
    rw [hq] at hX; subst hX; simp only; rw [if_pos (Int.le_refl _), Ab z8]; exact ⟨fun _ => rfl, fun L h => (by cases h)⟩
   | some q =>
    obtain ⟨a, b⟩ := q; obtain ⟨h1, _⟩ := BK.1 hq; rw [hq, Option.bind_some] at hX; have hlen : r.A7.length = a.length + b.length + 1 := by rw [h1]; simp; omega
    have hr2 := hr.2; have hkl : t.length ≤ 1000000 := by have := hr.1; rw [hk] at this; simp at this; omega
    simp only [Nat.zero_add]; rw [if_neg (by omega), AK (by omega), Ab (by omega), Ab (by omega), Int.toNat_natCast, Int.toNat_natCast]; have d1 : r.A7.drop (a.length + 1) = b := by
     rw [h1, show a ++ 10 :: b = (a ++ [10]) ++ b by simp]; rw [show a.length + 1 = (a ++ [10]).length by simp, List.drop_left]
    have d2 : r.A7.take a.length = a := by rw [h1, List.take_left]
    have e68 : F68 b = some (CX b) := Ab (by omega); rw [d1, d2, e68, Option.bind_some, Ab (Og b).1, Ab (by simp), Ab (by omega), Ab (by omega)]; simp only [List.drop_succ_cons, List.drop_zero]; rw [ZT L _ (by omega) ⟨hkl, by simp only; omega, Og b⟩, Option.bind_some, MY]; cases hc : FO b with
    | none =>
     rw [hc] at hX; subst hX; rw [if_pos (by simp), Ab z8]; exact ⟨fun _ => rfl, fun L h => (by cases h)⟩
    | some c =>
     rw [hc, Option.bind_some] at hX; rw [if_neg (by simp)]; simp only; by_cases h0 : (Is L ⟨t, a, c⟩).2 = 0
     ·rw [if_pos h0] at hX; subst hX; rw [if_neg (by simpa using h0), AK (by omega)]; refine ⟨fun h => (by cases h), fun L' h => ?_⟩; cases h; rfl
     ·rw [if_neg h0] at hX; subst hX; rw [if_pos (by simpa using h0), Ab z8]; exact ⟨fun _ => rfl, fun L h => (by cases h)⟩
  ·have : X = none := by
    rw [← hX, hk]; split
    ·rename_i h' e; exact absurd (by cases e; rfl) hx
    ·rfl
   subst this; rw [if_pos (fun e => hx (e112.1 e)), Ab z8]; exact ⟨fun _ => rfl, fun L h => (by cases h)⟩
noncomputable abbrev stR (l : List S78) := fun (s : (List S39) × Int × S33 × S33) => Fj l s.1 s.2.1 s.2.2.1 s.2.2.2
noncomputable def Qq (y : ((List S39) × S33 × S33) ⊕ ((List S39) × S33 × Bool)) : Option ((List S39) × S33 × Bool) := Sum.elim (fun e => Kz e.1 e.2.1 e.2.2) (fun q => some q) y
theorem KL (hl : l.length ≤ 1000000) (h : ∀ r ∈ l, r.Ba.length ≤ 1000000 ∧ r.A7.length ≤ 1000000) : ∀ (k i : Nat) (m : Mp) (n : Np) (pr : Option S33) (L : List S39) (p : S33), i + k = l.length → Inv m n pr ⟨L, p⟩ →
    (ofS (l.drop i) ⟨L, p⟩ = none → (AD (stR l) (L, (i : Int), z33, p)).bind Qq = some ([], z33, false)) ∧ ∀ d', ofS (l.drop i) ⟨L, p⟩ = some d' → (AD (stR l) (L, (i : Int), z33, p)).bind Qq = some (d'.fL, d'.fP, true)
  | 0, i, m, n, pr, L, p, hk, I => by
    rw [List.drop_of_length_le (by omega)]
    have e : stR l (L, (i : Int), z33, p) = some (.inr (.inl (L, z33, p))) := by
      simp only [stR, Fj]
      rw [if_neg (by omega)]
    rw [Av e]
    refine ⟨fun h => (by cases h), fun d' h => ?_⟩
    cases h
    simp only [Option.bind_some, Qq, Sum.elim_inl, Kz]
    rw [Ab I.psh, Ab (by rfl)]
  | k + 1, i, m, n, pr, L, p, hk, I => by
    have hi : i < l.length := by omega
    have hg : l.getD i S78.zero = l[i] := getD_some hi _
    have hr := h _ (List.getElem_mem hi)
    have z8 : z33.A5.length = 8 := rfl
    rw [List.drop_eq_getElem_cons hi, ofS]
    have row : ¬ (l[i].Ba = [105] ∧ p.A9 = []) → stR l (L, (i : Int), z33, p) = Dz l L (i : Int) z33 p := by
      intro hc
      simp only [stR, Fj]
      rw [if_pos (by omega), Ab (by omega), Int.toNat_natCast, hg]
      by_cases h1 : l[i].Ba = [105]
      · rw [if_pos h1, if_neg (fun e => hc ⟨h1, e⟩)]
      · rw [if_neg h1]
    by_cases hc : l[i].Ba = [105] ∧ p.A9 = []
    · rw [if_pos hc]
      obtain ⟨f1, f2⟩ := ZZ l[i].A7 hr.2
      cases hp : EI l[i].A7 with
      | none =>
        obtain ⟨w, hw, hw8⟩ := f1 hp
        have e0 : stR l (L, (i : Int), z33, p) = some (.inr (.inr ([], z33, false))) := by
          simp only [stR, Fj]
          rw [if_pos (by omega), Ab (by omega), Int.toNat_natCast, hg, if_pos hc.1, if_pos hc.2, hw, Option.bind_some, Ab hw8, if_pos (by simp), Ab z8]
        rw [Av e0]
        exact ⟨fun _ => rfl, fun d' h => (by cases h)⟩
      | some y =>
        have hw := f2 y hp
        have hy := RM hp hr.2
        obtain ⟨pr', _, I'⟩ := (UN I l[i].A7 hr.2).2 y hp
        have e0 : stR l (L, (i : Int), z33, p) = some (.inl (L, ((i + 1 : Nat) : Int), z33, y)) := by
          simp only [stR, Fj]
          rw [if_pos (by omega), Ab (by omega), Int.toNat_natCast, hg, if_pos hc.1, if_pos hc.2, hw, Option.bind_some, Ab hy.2.2.2.2.1, if_neg (by simp), Ab I.psh, AK (by omega)]
        rw [AR e0, Option.bind_some]
        exact KL hl h k (i + 1) m n pr' L y (by omega) I'
    · rw [if_neg hc]
      obtain ⟨f1, f2⟩ := WJ I i hi hl h
      cases hp : Df l[i] L with
      | none =>
        rw [Av ((row hc).trans (f1 hp))]
        exact ⟨fun _ => rfl, fun d' h => (by cases h)⟩
      | some L' =>
        obtain ⟨m', n', _, I'⟩ := (Qo I i hi hl h).2 L' hp
        rw [AR ((row hc).trans (f2 L' hp)), Option.bind_some]
        exact KL hl h k (i + 1) m' n' pr L' p (by omega) I'
theorem aj (hl : l.length ≤ 1000000) (h : ∀ r ∈ l, r.Ba.length ≤ 1000000 ∧ r.A7.length ≤ 1000000) :
    (ofS l ⟨[], S33.zero⟩ = none → F36 l = some ([], z33, false)) ∧ ∀ d', ofS l ⟨[], S33.zero⟩ = some d' → F36 l = some (d'.fL, d'.fP, true) := by
 have := KL hl h l.length 0 [] [] none [] S33.zero (by omega) Inv.nil; rw [List.drop_zero] at this; have e : F36 l = (AD (stR l) ([], ((0 : Nat) : Int), z33, S33.zero)).bind Qq := rfl; rw [e]; exact this
theorem gq (hb : ∀ r ∈ l, r.Ba.length ≤ 140737488355328 ∧ r.A7.length ≤ 140737488355328) : F7 l = some true := by
 unfold F7; by_cases h70 : 70 < (l.length : Int)
 ·rw [if_pos h70, MV]; rfl
 ·rw [if_neg h70]; have hlz : l.length ≤ 70 := by omega
  have key : ∃ y, AD (fun (s : Int) => KB l s) 0 = some y ∧ (y = .inr true ∨ (y = .inl () ∧ ∀ r ∈ l, r.Ba.length ≤ 1000000 ∧ r.A7.length ≤ 1000000)) := by
   refine Cz (step := fun (s : Int) => KB l s) (Post := fun (y : Unit ⊕ Bool) => y = .inr true ∨ (y = .inl () ∧ ∀ r ∈ l, r.Ba.length ≤ 1000000 ∧ r.A7.length ≤ 1000000)) l.length (fun i => ∀ j (hj : j < l.length), j < i → l[j].Ba.length ≤ 1000000 ∧ l[j].A7.length ≤ 1000000) (fun j hj h => absurd h (Nat.not_lt_zero _)) ?_ ?_
   ·intro i hi hI; have hg : l.getD i S78.zero = l[i] := getD_some hi _; have hr := hb _ (List.getElem_mem hi); have hw : IntKind.i64.wrap ((l[i].Ba.length : Int) + (l[i].A7.length : Int)) = (l[i].Ba.length : Int) + (l[i].A7.length : Int) := wrap_i64 (by omega) (by omega); simp only [KB, Int.toNat_natCast, hg]; rw [if_pos (by omega), Ab (by omega), hw]; by_cases h1 : 1000 < (l[i].Ba.length : Int) + (l[i].A7.length : Int)
    ·right; rw [if_pos h1, MV]; exact ⟨_, rfl, .inl rfl⟩
    ·left; rw [if_neg h1, AK (by omega)]; refine ⟨rfl, fun j hj hlt => ?_⟩; by_cases e : j = i
     ·subst e; omega
     ·exact hI j hj (by omega)
   ·intro hI; simp only [KB]; rw [if_neg (by omega)]; refine ⟨_, rfl, .inr ⟨rfl, fun r hr => ?_⟩⟩; obtain ⟨j, hj, rfl⟩ := List.getElem_of_mem hr; exact hI j hj hj
  obtain ⟨y, h1, h2⟩ := key; rw [h1, Option.bind_some]; rcases h2 with rfl | ⟨rfl, h⟩
  ·rfl
  ·simp only [Sum.elim_inl]; unfold Qg; have hl' : l.length ≤ 1000000 := by omega
   obtain ⟨p1, p2⟩ := ah hl' h; obtain ⟨q1, q2⟩ := aj hl' h; cases ho : ofS l ⟨[], S33.zero⟩ with
   | none =>
    rw [p1 ho, Option.bind_some]; simp only [opP]; rw [q1 ho, Option.bind_some, Ab (by rfl), if_pos (by simp), MV]; rfl
   | some d =>
    obtain ⟨m', n', pr', e1, I⟩ := p2 d ho; rw [e1, Option.bind_some]; simp only [opP]; rw [q2 d ho, Option.bind_some, Ab I.psh, if_neg (by simp), if_pos (by simp), ZY I, Option.bind_some, if_pos rfl, MV]; rfl
end
end Go.Idl
namespace Go.Idl
open Go Go.RowKit Go.ChangeShapes Go.WideShapes
def g0 : Gs := { oth := fun _ => False, mu := fun _ => undef, sh := fun _ => none, nx := 0 }
def H0 : A2 := { next := 0, obj := fun _ => none, sn := [] }
theorem ow0 (b : Nat) : ¬ g0.ow b := by
 rintro (h | ⟨k, h, _⟩)
 ·exact h
 ·cases h
theorem K_ {w w' : World} {g' : Gs} (m : AG w g0 w' g') : Below w.heap.size w w' :=
  ⟨m.os, m.tape, m.output, m.size, fun k hk => m.keep k hk fun ⟨i, h, _⟩ => by cases h⟩
variable {P : Program} {w : World} {Hh : Type} {enc : TypeId × Value → Hh}
def Rd (P : Program) (w : World) {Hh : Type} (enc : TypeId × Value → Hh) (t : TypeId) (S : List IV → Prop) : Prop :=
  ∀ (base : Nat) (spare : Nat → Bool) (held : Bool) (fuel : Nat) (cs : List Value) (x : DataW Hh × List MemPlace), DataW.trod enc P w base spare held fuel t cs = some x →
    ∃ is, S is ∧ is.length = cs.length ∧ ∀ (j : Nat) (c : Value) (i : IV), cs[j]? = some c → is[j]? = some i → c.oneCell' = true ∧ R w g0 c i
theorem Py {c : Value} {i : IV} (ho : c.oneCell' = true) (hr : R w g0 c i) : ∀ (j : Nat) (c' : Value) (i' : IV), [c][j]? = some c' → [i][j]? = some i' → c'.oneCell' = true ∧ R w g0 c' i' := by
 intro j c' i' h1 h2; cases j with
 | zero => simp at h1 h2; subst h1; subst h2; exact ⟨ho, hr⟩
 | succ j => simp at h1
theorem IS {E : Type} (Pr : Nat → E → Prop) : ∀ n : Nat, (∀ i, i < n → ∃ x, Pr i x) → ∃ l : List E, l.length = n ∧ ∀ (i : Nat) (x : E), l[i]? = some x → Pr i x
  | 0, _ => ⟨[], rfl, by simp⟩
  | n + 1, h => by
    obtain ⟨l, h1, h2⟩ := IS Pr n fun i hi => h i (by omega)
    obtain ⟨x, hx⟩ := h n (by omega)
    refine ⟨l ++ [x], by simp [h1], fun i y hy => ?_⟩
    rcases Nat.lt_or_ge i n with hi | hi
    · rw [List.getElem?_append_left (by omega)] at hy
      exact h2 i y hy
    · rw [List.getElem?_append_right (by omega)] at hy
      have e : i = n := by
        have := (List.getElem?_eq_some_iff.1 hy).1
        simp at this; omega
      subst e
      simp [h1] at hy
      subst hy
      exact hx
theorem RN {base : Nat} {a : Addr} : ∀ {n : Nat} {cs : List Value}, w.cells? base a n = some cs → cs.length = n ∧ ∀ j, j < n → w.cell? (a.add j) = cs[j]? := by
 intro n cs h; unfold World.cells? at h; split at h
 ·refine ⟨?_, fun j hj => ?_⟩
  ·have := mapM_some_length h; simpa using this
  ·exact mapM_some_get h j j (by simp [hj])
 ·cases h
theorem Rd.one {t : TypeId} {v : Value} {d : DataW Hh} {ps : List MemPlace} {S : List IV → Prop} {base : Nat} {spare : Nat → Bool} {held : Bool} (h : Rd P w enc t S) (hv : v.cells = #[v]) (hd : DataW.Trod enc P w base spare held t v d ps) : ∃ i, S [i] ∧ R w g0 v i := by
 obtain ⟨fuel, hf⟩ := hd; obtain ⟨is, h1, h2, h3⟩ := h _ _ _ _ _ _ hf; rw [hv] at h2 h3
 match is, h2, h1, h3 with
 | [i], _, h1, h3 => exact ⟨i, h1, (h3 0 v i rfl rfl).2⟩
theorem Rd.agg {t : TypeId} {cs : Array Value} {d : DataW Hh} {ps : List MemPlace} {S : List IV → Prop} {base : Nat} {spare : Nat → Bool} {held : Bool} (h : Rd P w enc t S) (hd : DataW.Trod enc P w base spare held t (.agg cs) d ps) : ∃ is, S is ∧ R w g0 (.agg cs) (.ag is) := by
 obtain ⟨fuel, hf⟩ := hd; obtain ⟨is, h1, h2, h3⟩ := h _ _ _ _ _ _ hf; have hcs : (Value.agg cs).cells.toList = cs.toList := rfl; rw [hcs] at h2 h3; refine ⟨is, h1, .ag cs is (by simpa using h2.symm) (fun j x hx => ?_) fun j x c hx hc => (h3 j x c (by simpa using hx) hc).2⟩; have hlt : j < is.length := by
  have := (Array.getElem?_eq_some_iff.1 hx).1; rw [h2]; simpa using this
 exact (h3 j x is[j] (by simpa using hx) (List.getElem?_eq_getElem hlt)).1
end Go.Idl
namespace Go.Idl
open Go Go.RowKit Go.ChangeShapes Go.WideShapes
def HV (vs : List (Nat × Array Value)) : A2 := { next := 0, obj := fun _ => none, sn := [GS vs] }
theorem kU (w : World) (vs : List (Nat × Array Value)) (h : ∀ p, p ∈ vs → ∃ el f, w.heap[p.1]? = some (.cells p.2 el f)) : Sim w g0 (HV vs) where
  nx := rfl
  sh := fun _ => rfl
  lt := fun k h => by cases h
  bk := fun k b h => by cases h
  inj := fun k k' b h => by cases h
  obj := fun k o h => by cases h
  old := fun b h => h.elim
  snap := fun p hp i hi => by
    obtain rfl : p = GS vs := by simpa [HV] using hp
    have hl : i < vs.length := by simpa [GS] using hi
    obtain ⟨el, f, h1⟩ := h _ (List.getElem_mem hl)
    simp only [GS, List.getElem?_eq_getElem hl]
    exact .blk _ _ el f _ (ow0 _) h1
theorem Pz {P : Program} {w : World} {name : String} {b : Nat} {xs : Array Value} (hg : P.globalNamed name = some b) (h : w.var? P name = some xs) : ∃ el f, w.heap[b]? = some (.cells xs el f) := by
 unfold World.var? at h; rw [hg] at h; simp only [Option.bind_some] at h; split at h
 ·rename_i cs el f hc; cases h; exact ⟨el, f, hc⟩
 ·cases h
theorem WK {w : World} {b i : Nat} {x : Value} (h : w.cell? ⟨b, i, none⟩ = some x) : ∃ xs el f, w.heap[b]? = some (.cells xs el f) ∧ xs[i]? = some x := by
 simp only [World.cell?] at h; cases hb : w.heap[b]? with
 | none => rw [hb] at h; simp at h
 | some o =>
  rw [hb] at h; cases o with
  | cells xs el f => exact ⟨xs, el, f, rfl, by simpa using h⟩
  | _ => simp at h
theorem It {H : Type} {enc : TypeId × Value → H} {a : Assume} {C : Checked} {os : Os} {f : FuncId} {fn : Func} {s : ChangeSpec} {conds : List PathCond} {apart fresh handsOn again : Bool} {X : World → Array Value → Prop}
    (hX : ∀ (w w' : World) (args : Array Value), w.heap = w'.heap → X w args → X w' args)
    (own : ownKnob C.prog.godebug = none) (started : os.Started) (noInit : C.prog.inits.idxOf? f = none) (hfn : C.prog.funcs[f]? = some fn)
    (witness : ∃ (w : World) (tape : Tape) (i : Input), w.os = os ∧ (w.forCall tape i).Shaped C.prog ∧ i.vars = [] ∧ Input.okWide C.prog (w.forCall tape i) .any w.heap.size f i ∧
      ((s.pre enc C.prog fn conds apart (w.forCall tape i).memory i.args ∧ X (w.forCall tape i).memory i.args) ∧ sizedMet enc C.prog fn (OpenSpec.ofChange s) apart (w.forCall tape i).memory i.args) ∧ a.holds C.prog (lone (Frame.enter C.prog f i.args .normal) [] (w.forCall tape i)))
    (contract : ∀ (W : World) (base : Nat) (args : Array Value) (ds gs : List (DataW H)) (before : List MemPlace),
      (∀ (j : Nat) t v, fn.params[j]? = some t → args[j]? = some v → Value.okWide C.prog W .any base t v) →
      DataW.Whole enc C.prog fn.params.toList s.vars apart W args.toList ds gs before →
      (DataW.weightsEach C.prog (fn.params.toList ++ s.plain.varTypes C.prog) (ds ++ gs)).all (· ≤ reachBytes) = true → X W args → W.ShapedOpen C.prog →
      Calls C.prog f args W fun e W' => ∃ v, e = .returned v ∧ s.post enc C.prog fn apart fresh handsOn again W args v W') :
    ReturnsInHanded a C os f .any (fun w args => (s.pre enc C.prog fn conds apart w args ∧ X w args) ∧ sizedMet enc C.prog fn (OpenSpec.ofChange s) apart w args) (s.post enc C.prog fn apart fresh handsOn again) := by
 refine returnsInHanded_of_calls own started noInit witness ?_; intro w tape i _ shape _ ok pre _; obtain ⟨_, _, _, fn2, hfn2, _, _, _, _, val⟩ := ok; have e := Option.some.inj (hfn2.symm.trans hfn); subst e; obtain ⟨⟨⟨ds, gs, before, whole, _⟩, laid⟩, sized⟩ := pre; refine Calls.mono (contract (w.forCall tape i) w.heap.size i.args ds gs before val (DataW.Whole.of_heap (by rfl) whole) (sized.weights whole) (hX _ _ _ (by rfl) laid) shape) ?_
 rintro _ W' ⟨v, rfl, post⟩
 exact ChangeSpec.post_blind post
end Go.Idl
namespace Go.Idl
open Go Go.RowKit Go.ChangeShapes Go.WideShapes
variable {P : Program} {w : World} {Hh : Type} {enc : TypeId × Value → Hh}
def RdZ (P : Program) (w : World) {Hh : Type} (enc : TypeId × Value → Hh) (t : TypeId) (S : List IV → Prop) : Prop :=
  ∀ (base : Nat) (spare : Nat → Bool) (held : Bool) (fuel : Nat) (cs : List Value) (x : DataW Hh × List MemPlace), DataW.trod enc P w base spare held fuel t cs = some x → (∀ n ∈ x.1.weights P t, n ≤ reachBytes) →
    ∃ is, S is ∧ is.length = cs.length ∧ ∀ (j : Nat) (c : Value) (i : IV), cs[j]? = some c → is[j]? = some i → c.oneCell' = true ∧ R w g0 c i
theorem Rd.z {t : TypeId} {S : List IV → Prop} (h : Rd P w enc t S) : RdZ P w enc t S := fun base spare held fuel cs x hx _ => h base spare held fuel cs x hx
theorem RdZ.mono {t : TypeId} {S S' : List IV → Prop} (h : RdZ P w enc t S) (hs : ∀ is, S is → S' is) : RdZ P w enc t S' := fun base spare held fuel cs x hx hz => let ⟨is, h1, h2⟩ := h base spare held fuel cs x hx hz; ⟨is, hs _ h1, h2⟩
theorem Fl {e : TypeId} : ∀ {ds : List (DataW Hh)} {d : DataW Hh}, d ∈ ds → ∀ {n : Nat}, n ∈ d.weights P e → n ∈ DataW.weightsAll P e ds
  | d0 :: ds, d, hd, n, hn => by
    simp only [DataW.weightsAll, List.mem_append]
    rcases List.mem_cons.1 hd with e | e
    · subst e; exact .inl hn
    · exact .inr (Fl e hn)
theorem PA {t : TypeId} (hu : P.underlying t = some .string) : RdZ P w enc t fun is => ∃ s : List UInt8, s.length ≤ reachBytes ∧ is = [.v (str s)] := by
 intro base spare held fuel cs x h hz; obtain ⟨s, rfl, rfl, _⟩ := DataW.trod_string hu h; refine ⟨_, ⟨bytes s, ?_, rfl⟩, rfl, Py rfl ?_⟩
 ·have := hz s.data.toList.length (by simp [DataW.weights]); simpa [bytes] using this
 ·rw [show str (bytes s) = .string s by rw [str, Jn]]; exact .v _
theorem RP {t e : TypeId} {E : Type} (cells : E → List IV) (hu : P.underlying t = some (.slice e)) (h0 : 0 < P.cellsOf e) (he : RdZ P w enc e fun is => ∃ x : E, is = cells x) :
    RdZ P w enc t fun is => ∃ l : List E, is = [.sl (P.cellsOf e) (l.map cells)] := by
 intro base spare held fuel cs x h hz; rcases DataW.trod_slice hu h with ⟨rfl, _⟩ | ⟨a, len, cap, elems, rest, n, _, rfl, rfl, hb, hl, hm, hlen, hel, _, _⟩
 ·exact ⟨_, ⟨[], rfl⟩, rfl, Py rfl (.sl0 _ _ _)⟩
 ·obtain ⟨l, l1, l2⟩ := IS (fun i (y : E) => (cells y).length = P.cellsOf e ∧ ∀ (j : Nat) (i' : IV), (cells y)[j]? = some i' → ∃ c, w.cell? ((a.add (i * P.cellsOf e)).add j) = some c ∧ c.oneCell' = true ∧ R w g0 c i') len (fun i hi => by
    have hei := hel i hi
    have hne : elems[i]? = some elems[i] := List.getElem?_eq_getElem (by omega)
    rw [hne, Option.bind_eq_some_iff] at hei
    obtain ⟨ci, hc, ht⟩ := hei
    obtain ⟨q1, q2⟩ := RN hc
    obtain ⟨is, ⟨y, rfl⟩, q3, q4⟩ := he _ _ _ _ _ _ ht fun n hn => hz n (by
      simp only [DataW.weights, hu, List.mem_cons, List.mem_append]
      exact .inr (.inl (Fl (List.mem_map_of_mem (List.getElem_mem (by omega : i < elems.length))) hn)))
    refine ⟨y, by rw [q3, q1], fun j i' hj => ?_⟩
    have hjl : j < ci.length := by rw [← q3]; exact (List.getElem?_eq_some_iff.1 hj).1
    have := q4 j ci[j] i' (List.getElem?_eq_getElem hjl) hj
    exact ⟨ci[j], by rw [q2 j (by omega)]; exact List.getElem?_eq_getElem hjl, this⟩)
  refine ⟨_, ⟨l, rfl⟩, rfl, Py rfl ?_⟩; by_cases hz : len = 0
  ·subst hz; have : l = [] := List.eq_nil_of_length_eq_zero l1; subst this; exact .sl0 _ _ _
  ·have hlm : (l.map cells).length = len := by simp [l1]
   have h0l : 0 < l.length := by omega
   obtain ⟨q1, q2⟩ := l2 0 l[0] (List.getElem?_eq_getElem h0l); have hpos : 0 < (cells l[0]).length := by omega
   obtain ⟨c0, q3, _⟩ := q2 0 _ (List.getElem?_eq_getElem hpos); obtain ⟨b, off, spot⟩ := a; have hsp : spot = none ∧ b < w.heap.size := by
    have e0 : ((⟨b, off, spot⟩ : Addr).add (0 * P.cellsOf e)).add 0 = ⟨b, off, spot⟩ := by simp [Addr.add]
    rw [e0] at q3; unfold World.cell? at q3; split at q3
    ·rename_i hh; refine ⟨?_, (Array.getElem?_eq_some_iff.1 hh).1⟩; split at q3
     ·cases q3
     ·rename_i hs; simpa using hs
    ·cases q3
   obtain ⟨rfl, hlt⟩ := hsp; rw [← hlm]; refine .sl b off cap _ _ (fun i j => (w.cell? ⟨b, off + i * P.cellsOf e + j, none⟩).getD undef) (ow0 b) hlt (by rw [hlm]; have hm' : cap ≤ 9223372036854775807 := hm; unfold Cf; omega) (by omega) ?_ ?_ ?_ ?_
   ·intro c hc; obtain ⟨y, hy, rfl⟩ := List.mem_map.1 hc; obtain ⟨i, hi⟩ := List.getElem?_of_mem hy; exact (l2 i y hi).1
   all_goals
    intro i ee j c h1 h2; simp only [List.getElem?_map, Option.map_eq_some_iff] at h1; obtain ⟨y, hy, rfl⟩ := h1; obtain ⟨c', r1, r2, r3⟩ := (l2 i y hy).2 j c h2; rw [addr_add, addr_add] at r1
    first | (rw [r1]; rfl) | (simp only [r1, Option.getD_some]; first | exact r2 | exact r3)
theorem XD {t : TypeId} {f0 f1 f2 : Field} {S0 S1 S2 : List IV → Prop} (ht : P.underlying t = some (.struct #[f0, f1, f2])) (hc : P.cellsOf t = P.cellsOf f0.type + P.cellsOf f1.type + P.cellsOf f2.type) (o0 : f0.offset = 0) (o1 : f1.offset = P.cellsOf f0.type) (o2 : f2.offset = P.cellsOf f0.type + P.cellsOf f1.type)
    (h0 : RdZ P w enc f0.type S0) (h1 : RdZ P w enc f1.type S1) (h2 : RdZ P w enc f2.type S2) : RdZ P w enc t fun is => ∃ i0 i1 i2, S0 i0 ∧ S1 i1 ∧ S2 i2 ∧ is = i0 ++ (i1 ++ i2) := by
 intro base spare held fuel cs x h hz; obtain ⟨xs, n, _, rfl, hl, hlen, hf⟩ := DataW.trod_struct ht h; rw [hc] at hl; have q0 := hf 0 f0 rfl; have q1 := hf 1 f1 rfl; have q2 := hf 2 f2 rfl; rw [o0] at q0; rw [o1] at q1; rw [o2] at q2
 match xs, hlen, q0, q1, q2, hz with
 | [x0, x1, x2], _, q0, q1, q2, hz =>
  have hz' : ∀ n, n ∈ x0.1.weights P f0.type ∨ n ∈ x1.1.weights P f1.type ∨ n ∈ x2.1.weights P f2.type → n ≤ reachBytes := fun n hn => hz n (by
    simp only [DataW.weights, ht, List.map_cons, List.map_nil, List.toList_toArray, DataW.weightsEach, List.mem_append, List.not_mem_nil, or_false]
    exact hn)
  obtain ⟨is0, p0, l0, r0⟩ := h0 _ _ _ _ _ _ (by simpa using q0) fun n hn => hz' n (.inl hn); obtain ⟨is1, p1, l1, r1⟩ := h1 _ _ _ _ _ _ (by simpa using q1) fun n hn => hz' n (.inr (.inl hn)); obtain ⟨is2, p2, l2, r2⟩ := h2 _ _ _ _ _ _ (by simpa using q2) fun n hn => hz' n (.inr (.inr hn)); simp only [List.length_take, List.length_drop, List.drop_zero] at l0 l1 l2; refine ⟨_, ⟨is0, is1, is2, p0, p1, p2, rfl⟩, by simp only [List.length_append]; omega, fun j c i e1 e2 => ?_⟩; have hj := (List.getElem?_eq_some_iff.1 e1).1; rcases Nat.lt_or_ge j is0.length with a | a
  ·rw [List.getElem?_append_left a] at e2; exact r0 j c i (by rw [List.getElem?_take, if_pos (by omega)]; simpa using e1) e2
  ·rw [List.getElem?_append_right a] at e2; rcases Nat.lt_or_ge (j - is0.length) is1.length with b | b
   ·rw [List.getElem?_append_left b] at e2; refine r1 (j - is0.length) c i ?_ e2; rw [List.getElem?_take, if_pos (by omega), List.getElem?_drop, show P.cellsOf f0.type + (j - is0.length) = j by omega]; exact e1
   ·rw [List.getElem?_append_right b] at e2; refine r2 (j - is0.length - is1.length) c i ?_ e2; rw [List.getElem?_take, if_pos (by omega), List.getElem?_drop, show P.cellsOf f0.type + P.cellsOf f1.type + (j - is0.length - is1.length) = j by omega]; exact e1
theorem Oi {t : TypeId} {f0 f1 : Field} {S0 S1 : List IV → Prop} (ht : P.underlying t = some (.struct #[f0, f1])) (hc : P.cellsOf t = P.cellsOf f0.type + P.cellsOf f1.type) (o0 : f0.offset = 0) (o1 : f1.offset = P.cellsOf f0.type)
    (h0 : RdZ P w enc f0.type S0) (h1 : RdZ P w enc f1.type S1) : RdZ P w enc t fun is => ∃ i0 i1, S0 i0 ∧ S1 i1 ∧ is = i0 ++ i1 := by
 intro base spare held fuel cs x h hz; obtain ⟨xs, n, _, rfl, hl, hlen, hf⟩ := DataW.trod_struct ht h; rw [hc] at hl; have q0 := hf 0 f0 rfl; have q1 := hf 1 f1 rfl; rw [o0] at q0; rw [o1] at q1
 match xs, hlen, q0, q1, hz with
 | [x0, x1], _, q0, q1, hz =>
  have hz' : ∀ n, n ∈ x0.1.weights P f0.type ∨ n ∈ x1.1.weights P f1.type → n ≤ reachBytes := fun n hn => hz n (by
    simp only [DataW.weights, ht, List.map_cons, List.map_nil, List.toList_toArray, DataW.weightsEach, List.mem_append, List.not_mem_nil, or_false]
    exact hn)
  obtain ⟨is0, p0, l0, r0⟩ := h0 _ _ _ _ _ _ (by simpa using q0) fun n hn => hz' n (.inl hn); obtain ⟨is1, p1, l1, r1⟩ := h1 _ _ _ _ _ _ (by simpa using q1) fun n hn => hz' n (.inr hn); simp only [List.length_take, List.length_drop, List.drop_zero] at l0 l1; refine ⟨_, ⟨is0, is1, p0, p1, rfl⟩, by simp only [List.length_append]; omega, fun j c i e1 e2 => ?_⟩; have hj := (List.getElem?_eq_some_iff.1 e1).1; rcases Nat.lt_or_ge j is0.length with a | a
  ·rw [List.getElem?_append_left a] at e2; exact r0 j c i (by rw [List.getElem?_take, if_pos (by omega)]; simpa using e1) e2
  ·rw [List.getElem?_append_right a] at e2; refine r1 (j - is0.length) c i ?_ e2; rw [List.getElem?_take, if_pos (by omega), List.getElem?_drop, show P.cellsOf f0.type + (j - is0.length) = j by omega]; exact e1
theorem RdZ.one {t : TypeId} {v : Value} {d : DataW Hh} {ps : List MemPlace} {S : List IV → Prop} {base : Nat} {spare : Nat → Bool} {held : Bool} (h : RdZ P w enc t S) (hv : v.cells = #[v]) (hd : DataW.Trod enc P w base spare held t v d ps)
    {ts : List TypeId} {ds : List (DataW Hh)} (hw : (DataW.weightsEach P ts ds).all (· ≤ reachBytes) = true) {k : Nat} (h1 : ts[k]? = some t) (h2 : ds[k]? = some d) : ∃ i, S [i] ∧ R w g0 v i := by
 obtain ⟨fuel, hf⟩ := hd; obtain ⟨is, h1, h2, h3⟩ := h _ _ _ _ _ _ hf fun n hn => by simpa using List.all_eq_true.1 hw _ (DataW.weights_mem_each h1 h2 n hn)
 rw [hv] at h2 h3
 match is, h2, h1, h3 with
 | [i], _, h1, h3 => exact ⟨i, h1, (h3 0 v i rfl rfl).2⟩
end Go.Idl
namespace Go.Proofs.YtbgebljjmpklkaaGreatDoor
open Go Go.ChangeShapes Go.WideShapes Go.ChangeAt Go.RowKit Go.Idl
theorem WL : ownKnob Tryz.prog.godebug = none := by kernel_rfl
theorem PB : laidOutB Tryz.prog = true := by kernel_rfl
theorem ak : Tryz.prog.globalNamed "internal/strconv.uint64pow10" = some 1 := by kernel_rfl
section
variable {w : World} {Hh : Type} {enc : TypeId × Value → Hh}
theorem rd9 : RdZ Tryz.prog w enc 9 fun is => ∃ s : List UInt8, s.length ≤ reachBytes ∧ is = [.v (str s)] := PA Tryz.underlying9
end
end Go.Proofs.YtbgebljjmpklkaaGreatDoor
namespace Go.Proofs.YtbgebljjmpklkaaGreatDoor
open Go Go.ChangeShapes Go.WideShapes Go.ChangeAt Go.RowKit Go.Idl
def Hx : List (String × DataW Unit) := Rows.pairsReadsRow.laid
theorem RQ (os : Os) (args : Array Value) : laidMetH Tryz.prog Hx ((World.laidAll Tryz.prog os Hx).forCall (fun _ _ => 0) ⟨#[], args, []⟩).memory := by
 rw [MakeChecks.laidMetH_plain _ _ _ (by kernel_rfl)]; exact laidMet_laidAll _ (by kernel_rfl) (by kernel_rfl)
theorem Oj (os : Os) : (World.laidAll Tryz.prog os Hx).Shaped Tryz.prog := World.shaped_of_ZipB (by kernel_rfl) (by kernel_rfl)
theorem XE : "*" ++ "errors.errorString" = "*errors.errorString" := by decide
theorem UR (u : TypeId) (h : Tryz.prog.typeName? 3 u = some "*errors.errorString") : u = 264 :=
  typeName_ptr_named (nm := "errors.errorString") (by rw [XE]; kernel_rfl) (by kernel_rfl) (by decide) u (by rw [XE]; exact h)
theorem JR : Tryz.prog.cellsOf 266 = 1 := by kernel_rfl
theorem Qr : Tryz.prog.cellsOf 9 = 1 := by kernel_rfl
theorem kV : Tryz.prog.globalNamed "internal/bytealg.MaxLen" = some 0 := by kernel_rfl
theorem an : Tryz.prog.globalNamed "strconv.ErrSyntax" = some 2 := by kernel_rfl
theorem aq : Tryz.prog.globalNamed "strconv.ErrRange" = some 3 := by kernel_rfl
theorem RR {W : World} (hL : laidMetH Tryz.prog Hx W) (hs : W.ShapedOpen Tryz.prog) : ∃ vs : List (Nat × Array Value), (∀ p, p ∈ vs → ∃ el f, W.heap[p.1]? = some (.cells p.2 el f)) ∧ VOK Tryz.prog (HV vs) := by
 have h0 : laidMet Tryz.prog Hx W := hL; have h2 := h0.tail.tail; have hT : Lib.TabIs Tryz.prog W "internal/strconv.uint64pow10" .u64 Lib.pow10Tab :=
  Lib.tabIs_of_head (t := 249) (e := 224) (n := 20) ak (by kernel_rfl) Tryz.underlying249 Tryz.underlying224 (by kernel_rfl) (by kernel_rfl) h2
 obtain ⟨a3, s3, hv3, _, _, _⟩ := laid_sentinel h2.tail.tail aq (by kernel_rfl) Tryz.underlying146 UR Tryz.underlying264 Tryz.underlying266 rfl rfl Tryz.underlying9 JR Qr; obtain ⟨a2, s2, hv2, _, _, _⟩ := laid_sentinel h2.tail.tail.tail an (by kernel_rfl) Tryz.underlying146 UR Tryz.underlying264 Tryz.underlying266 rfl rfl Tryz.underlying9 JR Qr; obtain ⟨m, hm⟩ := Tryz.SV.s1_3 W hs; obtain ⟨x4, el4, f4, hx4, hm4⟩ := WK hm; refine ⟨[(1, (Lib.pow10Tab.map fun z => Value.int .u64 z).toArray), (2, #[.iface 264 (.pointer (some a2))]), (3, #[.iface 264 (.pointer (some a3))]), (0, x4)], ?_, ?_⟩
 ·intro p hp; simp only [List.mem_cons, List.not_mem_nil, or_false] at hp; rcases hp with rfl | rfl | rfl | rfl
  ·exact Pz ak hT
  ·exact Pz an hv2
  ·exact Pz aq hv3
  ·exact ⟨el4, f4, hx4⟩
 ·exact ⟨1, 2, 3, 0, 264, 264, .pointer (some a2), .pointer (some a3), x4, m, ak, an, aq, kV, hm4, List.mem_singleton.2 rfl⟩
section
variable {w : World} {Hh : Type} {enc : TypeId × Value → Hh}
abbrev cR (x : S78) : List IV := [.v (str x.Ba), .v (str x.A7)]
def WM (x : S78) : Prop := x.Ba.length ≤ 140737488355328 ∧ x.A7.length ≤ 140737488355328
theorem kW : RdZ Tryz.prog w enc 79 fun is => ∃ x : { x : S78 // WM x }, is = cR x.1 := by
 refine (Oi (w := w) (enc := enc) Tryz.underlying79 (by rw [OM, M9]) rfl (by rw [OM]) rd9 rd9).mono ?_
 rintro is ⟨i0, i1, ⟨s, hs, rfl⟩, ⟨u, hu, rfl⟩, rfl⟩
 have hr := reachBytes_lt; have e : (2 : Nat) ^ 47 = 140737488355328 := by decide
 rw [e] at hr; exact ⟨⟨⟨s, u⟩, by show s.length ≤ _; omega, by show u.length ≤ _; omega⟩, rfl⟩
theorem kX : RdZ Tryz.prog w enc 74 fun is => ∃ l : List S78, (∀ x ∈ l, WM x) ∧ is = [.sl 2 (l.map cR)] := by
 have h := RP (w := w) (enc := enc) (fun x : { x : S78 // WM x } => cR x.1) Tryz.underlying74 (Nat.lt_of_lt_of_eq (by decide : 0 < 2) M9.symm) kW; rw [M9] at h; refine h.mono ?_
 rintro is ⟨l, rfl⟩
 refine ⟨l.map (·.1), fun x hx => ?_, by rw [List.map_map]; rfl⟩; obtain ⟨y, _, rfl⟩ := List.mem_map.1 hx; exact y.2
end
theorem au (l : List S78) (hb : ∀ x ∈ l, WM x) : F7 l = some true := gq hb
end Go.Proofs.YtbgebljjmpklkaaGreatDoor
namespace Go.Proofs.YtbgebljjmpklkaaGreatDoor
open Go Go.ChangeShapes Go.WideShapes Go.ChangeAt Go.RowKit Go.Idl
set_option maxRecDepth 100000 in
theorem Hy (os : Os) (started : os.Started) (H : Type) (enc : TypeId × Value → H) :
    ReturnsInHanded {} Tryz.checked os 7 .any (fun w args => (Rows.pairsReadsSpec.pre enc Tryz.prog Tryz.f7 [] false w args ∧ laidMetH Tryz.prog Hx w) ∧ sizedMet enc Tryz.prog Tryz.f7 (OpenSpec.ofChange Rows.pairsReadsSpec) false w args)
      (Rows.pairsReadsSpec.post enc Tryz.prog Tryz.f7 false true false false) := by
 refine It (C := Tryz.checked) (X := fun w _ => laidMetH Tryz.prog Hx w) (fun _ _ _ hh h => h.of_heap hh) WL started (by kernel_rfl) Tryz.func7
  (ChangeSpec.witness_shaped (enc := enc) (C := Tryz.checked) (os := os) (X := fun w _ => laidMetH Tryz.prog Hx w) false (World.laidAll Tryz.prog os Hx) #[.slice none 0 0] 8 (World.laidAll_os _ _ _) (Oj os) (by kernel_rfl) (by kernel_rfl) (by kernel_rfl) (RQ os _)) ?_
 intro W base args ds gs before hval0 hW hwt hL hshape; have hval : ∀ (j : Nat) t v, Tryz.f7.params[j]? = some t → args[j]? = some v → Value.okWide Tryz.prog W .any base t v := hval0; have hW' := hW; obtain ⟨p, q, hA0, hV, rfl, hfz, hnd⟩ := hW; have hA : DataW.TrodAll enc Tryz.prog W 0 (fun _ => true) true Tryz.f7.params.toList args.toList ds p := hA0; rw [Tryz.params7] at hA hval; obtain ⟨v0, d0, rfl, rfl, h0⟩ := trodAll_one hA; obtain ⟨rfl, rfl⟩ := trodVars_none hV; simp only [List.append_nil] at hW'; have hlt := hW'.lt; have hwt' : (DataW.weightsEach Tryz.prog [74] [d0]).all (· ≤ reachBytes) = true := hwt; obtain ⟨a0, len0, cap0, rfl⟩ := okWide_slice Tryz.underlying74 (hval 0 74 v0 rfl rfl); obtain ⟨i0, ⟨x0, b0, e0⟩, r0⟩ := kX.one rfl h0 hwt' (k := 0) rfl rfl; simp only [List.cons.injEq, and_true] at e0; subst e0; obtain ⟨vs, hvs, hvok⟩ := RR hL hshape
 have hcall := (fW (H := HV vs) (K := fun e _ => e = .ret (.v (.bool true))) x0 hvok (au x0 b0) rfl).run W g0 #[.slice a0 len0 cap0] (kU W vs hvs) ⟨rfl, fun j x i hx hi => by
   match j, hx, hi with
   | 0, hx, hi => simp at hx hi; subst hx; subst hi; exact r0
   | j + 1, hx, hi => simp at hx⟩
 refine hcall.mono ?_
 rintro e W' ⟨ie, g', H', hm, _, hre, rfl⟩
 have hb := K_ hm; obtain ⟨rfl⟩ : e = .returned (.bool true) := by
  cases hre with
  | ret x i h => rw [h.v_eq]
 refine ⟨_, rfl, ?_⟩; refine ⟨_, _, _, [], p, [], hW', trodAll_mk1 (shut_bool Tryz.underlying4 _), ?_, ?_, hb.frame _, fun h => by cases h⟩
 ·have hl0 : ∀ x ∈ p, x.block < W.heap.size := fun x hx => hlt x (by simp [hx]); have k0 := Below.trod PB (by kernel_rfl) (of_decide_eq_true (by kernel_rfl)) h0 hb hl0; exact ⟨p, [], k0, rfl, by simp⟩
 ·rfl
theorem KM : Rows.PairsReadsSaid :=
  OpenClaim.holds_of_wide 7 Tryz.f7 rfl rfl rfl rfl rfl rfl rfl ⟨rfl, rfl, rfl, rfl, rfl⟩ rfl rfl rfl rfl rfl (by kernel_rfl) Tryz.func7 (by kernel_rfl)
    (of_decide_eq_true (by kernel_rfl)) (by unfold Func.isWrapper; first | (rw [if_pos (by decide +kernel)]; kernel_rfl) | (rw [if_neg (by decide +kernel)]; exact ⟨rfl, rfl⟩))
    (fun os started H enc _ => Hy os started H enc)
theorem pairsReads_holds : Rows.PairsReadsCardSaid :=
  Claim7.holds_tied_plain_at .later [] [.data, .data, .data, .data, .sentinel, .sentinel, .pinned] true (true, "5dbde0cbb162a84d239fd1634710af79b7da20f43e8be4b7c72be86c8a99f6d5") true
    KM (fun _ h => by cases h) (by kernel_rfl) (fun _ h => by cases h) pairsReads_row_tie rfl ⟨rfl, rfl⟩ (by kernel_rfl) rfl
    (fun f fn hf hfn => by
      obtain rfl : f = 7 := Option.some.inj ((show Tryz.prog.funcNamed "cardcase/cardcaselaw20.PairsReads" = some 7 by kernel_rfl).symm.trans hf) |>.symm
      obtain rfl : fn = Tryz.f7 := (Option.some.inj (Tryz.func7.symm.trans hfn)).symm
      exact ⟨by kernel_rfl, fun j t ht => by
        rw [Tryz.params7] at ht
        have hm : t ∈ [74] := by simpa using Array.mem_of_getElem? ht
        have hall : ([74].all fun u => !Tryz.prog.wantsStandIn u) = true := by kernel_rfl
        exact (show Tryz.prog.wantsStandIn t = false by simpa using List.all_eq_true.1 hall t hm)⟩)
    (by kernel_rfl)
end Go.Proofs.YtbgebljjmpklkaaGreatDoor
