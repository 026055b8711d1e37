/- Their rows, and the pairs of these, in whatever order: the saying of the case law 20 Part 7. Conditions: none. -/
import Derived.Test.YtbgebljjmpklkaaGreatDoorPartF
import Derived.ProofKit
import Derived.OpenShut
import Derived.SizedLaws
import Derived.Handed
import Derived.ChangeSame
import Derived.Test.YtbgebljjmpklkaaGreatDoorRows
import Derived.Test.YtbgebljjmpklkaaGreatDoorTie
import Derived.Test.YtbgebljjmpklkaaGreatDoorCards
import Derived.LaidMore
import Derived.Carry
import Derived.Stop.Joined
import Derived.SevenTiedAt
import Derived.Stop.LaidErr
import Derived.Lib.LaidTab
import Derived.Lay
import Derived.MakeChecks
set_option linter.unusedSimpArgs false
set_option linter.unusedVariables false
namespace Go.Idl
set_option maxHeartbeats 8000000
set_option pp.deepTerms false
set_option maxRecDepth 60000
open Go Go.Proofs.Tryz
noncomputable def K4 (v8 : List UInt8) : Option (List UInt8) :=
 some v8
noncomputable def Ig (v7 : Int) (v25 : List UInt8) : Option (((List UInt8) × Int) ⊕ (List UInt8)) :=
 some (.inl ((v25, IntKind.i64.wrap (v7 + 1))))
noncomputable def Dx (a0 : List S89) (v7 : Int) (v23 : List UInt8) (v24 : Int) : Option (((List UInt8) × Int) ⊕ (List UInt8)) :=
 if v24 < ((((a0.getD v7.toNat S89.zero).Aa).length : Int)) then (gd (0 ≤ v24) (gd (v24 ≤ IntKind.i64.wrap (v24 + 1)) (gd (IntKind.i64.wrap (v24 + 1) ≤ ((a0.getD v7.toNat S89.zero).Aa).length) (gd (0 ≤ v24 ∧ v24 < ((a0.getD v7.toNat S89.zero).Aa).length) (if (((((a0.getD v7.toNat S89.zero).Aa).getD v24.toNat 0).toNat : Int)) < 32 then (gd ((v23.length : Int) + (([92]) : List UInt8).length ≤ 9223372036854775807) ((S_ (((((a0.getD v7.toNat S89.zero).Aa).getD v24.toNat 0).toNat : Int))).bind fun (x37 : (List UInt8)) => gd (((v23 ++ ([92])).length : Int) + x37.length ≤ 9223372036854775807) (some (.inl (((v23 ++ ([92])) ++ x37, IntKind.i64.wrap (v24 + 1))))))) else (if 126 < (((((a0.getD v7.toNat S89.zero).Aa).getD v24.toNat 0).toNat : Int)) then (gd ((v23.length : Int) + (([92]) : List UInt8).length ≤ 9223372036854775807) ((S_ (((((a0.getD v7.toNat S89.zero).Aa).getD v24.toNat 0).toNat : Int))).bind fun (x41 : (List UInt8)) => gd (((v23 ++ ([92])).length : Int) + x41.length ≤ 9223372036854775807) (some (.inl (((v23 ++ ([92])) ++ x41, IntKind.i64.wrap (v24 + 1))))))) else ((VE (((((a0.getD v7.toNat S89.zero).Aa).getD v24.toNat 0).toNat : Int))).bind fun (x44 : Bool) => if x44 = true then (gd ((v23.length : Int) + (([92]) : List UInt8).length ≤ 9223372036854775807) (gd (((v23 ++ ([92])).length : Int) + ((((a0.getD v7.toNat S89.zero).Aa).take (IntKind.i64.wrap (v24 + 1)).toNat).drop v24.toNat).length ≤ 9223372036854775807) (some (.inl (((v23 ++ ([92])) ++ ((((a0.getD v7.toNat S89.zero).Aa).take (IntKind.i64.wrap (v24 + 1)).toNat).drop v24.toNat), IntKind.i64.wrap (v24 + 1))))))) else (if v24 = 0 then (if ((((a0.getD v7.toNat S89.zero).Aa).take (IntKind.i64.wrap (v24 + 1)).toNat).drop v24.toNat) = ([32]) then (gd ((v23.length : Int) + (([92]) : List UInt8).length ≤ 9223372036854775807) (gd (((v23 ++ ([92])).length : Int) + ((((a0.getD v7.toNat S89.zero).Aa).take (IntKind.i64.wrap (v24 + 1)).toNat).drop v24.toNat).length ≤ 9223372036854775807) (some (.inl (((v23 ++ ([92])) ++ ((((a0.getD v7.toNat S89.zero).Aa).take (IntKind.i64.wrap (v24 + 1)).toNat).drop v24.toNat), IntKind.i64.wrap (v24 + 1))))))) else (if ((((a0.getD v7.toNat S89.zero).Aa).take (IntKind.i64.wrap (v24 + 1)).toNat).drop v24.toNat) = ([35]) then (gd ((v23.length : Int) + (([92]) : List UInt8).length ≤ 9223372036854775807) (gd (((v23 ++ ([92])).length : Int) + ((((a0.getD v7.toNat S89.zero).Aa).take (IntKind.i64.wrap (v24 + 1)).toNat).drop v24.toNat).length ≤ 9223372036854775807) (some (.inl (((v23 ++ ([92])) ++ ((((a0.getD v7.toNat S89.zero).Aa).take (IntKind.i64.wrap (v24 + 1)).toNat).drop v24.toNat), IntKind.i64.wrap (v24 + 1))))))) else (if v24 = (IntKind.i64.wrap (((((a0.getD v7.toNat S89.zero).Aa).length : Int)) - 1)) then (if ((((a0.getD v7.toNat S89.zero).Aa).take (IntKind.i64.wrap (v24 + 1)).toNat).drop v24.toNat) = ([32]) then (gd ((v23.length : Int) + (([92]) : List UInt8).length ≤ 9223372036854775807) (gd (((v23 ++ ([92])).length : Int) + ((((a0.getD v7.toNat S89.zero).Aa).take (IntKind.i64.wrap (v24 + 1)).toNat).drop v24.toNat).length ≤ 9223372036854775807) (some (.inl (((v23 ++ ([92])) ++ ((((a0.getD v7.toNat S89.zero).Aa).take (IntKind.i64.wrap (v24 + 1)).toNat).drop v24.toNat), IntKind.i64.wrap (v24 + 1))))))) else (gd ((v23.length : Int) + ((((a0.getD v7.toNat S89.zero).Aa).take (IntKind.i64.wrap (v24 + 1)).toNat).drop v24.toNat).length ≤ 9223372036854775807) (some (.inl ((v23 ++ ((((a0.getD v7.toNat S89.zero).Aa).take (IntKind.i64.wrap (v24 + 1)).toNat).drop v24.toNat), IntKind.i64.wrap (v24 + 1))))))) else (gd ((v23.length : Int) + ((((a0.getD v7.toNat S89.zero).Aa).take (IntKind.i64.wrap (v24 + 1)).toNat).drop v24.toNat).length ≤ 9223372036854775807) (some (.inl ((v23 ++ ((((a0.getD v7.toNat S89.zero).Aa).take (IntKind.i64.wrap (v24 + 1)).toNat).drop v24.toNat), IntKind.i64.wrap (v24 + 1))))))))) else (if v24 = (IntKind.i64.wrap (((((a0.getD v7.toNat S89.zero).Aa).length : Int)) - 1)) then (if ((((a0.getD v7.toNat S89.zero).Aa).take (IntKind.i64.wrap (v24 + 1)).toNat).drop v24.toNat) = ([32]) then (gd ((v23.length : Int) + (([92]) : List UInt8).length ≤ 9223372036854775807) (gd (((v23 ++ ([92])).length : Int) + ((((a0.getD v7.toNat S89.zero).Aa).take (IntKind.i64.wrap (v24 + 1)).toNat).drop v24.toNat).length ≤ 9223372036854775807) (some (.inl (((v23 ++ ([92])) ++ ((((a0.getD v7.toNat S89.zero).Aa).take (IntKind.i64.wrap (v24 + 1)).toNat).drop v24.toNat), IntKind.i64.wrap (v24 + 1))))))) else (gd ((v23.length : Int) + ((((a0.getD v7.toNat S89.zero).Aa).take (IntKind.i64.wrap (v24 + 1)).toNat).drop v24.toNat).length ≤ 9223372036854775807) (some (.inl ((v23 ++ ((((a0.getD v7.toNat S89.zero).Aa).take (IntKind.i64.wrap (v24 + 1)).toNat).drop v24.toNat), IntKind.i64.wrap (v24 + 1))))))) else (gd ((v23.length : Int) + ((((a0.getD v7.toNat S89.zero).Aa).take (IntKind.i64.wrap (v24 + 1)).toNat).drop v24.toNat).length ≤ 9223372036854775807) (some (.inl ((v23 ++ ((((a0.getD v7.toNat S89.zero).Aa).take (IntKind.i64.wrap (v24 + 1)).toNat).drop v24.toNat), IntKind.i64.wrap (v24 + 1))))))))))))))) else (some (.inr v23))
noncomputable def Eg (a0 : List S89) (v7 : Int) (v15 : List UInt8) : Option (((List UInt8) × Int) ⊕ (List UInt8)) :=
 gd (0 ≤ v7 ∧ v7 < a0.length) (gd ((v15.length : Int) + ((a0.getD v7.toNat S89.zero).fType).length ≤ 9223372036854775807) (gd (((v15 ++ ((a0.getD v7.toNat S89.zero).fType)).length : Int) + (([61]) : List UInt8).length ≤ 9223372036854775807) ((AE (fun (s : (List UInt8) × Int) => Dx a0 v7 s.1 s.2) (((v15 ++ ((a0.getD v7.toNat S89.zero).fType)) ++ ([61])), 0)).bind fun (e : (List UInt8)) => Ig v7 e)))
noncomputable def EE (a0 : List S89) (v6 : List UInt8) (v7 : Int) : Option (((List UInt8) × Int) ⊕ (List UInt8)) :=
 if v7 < (a0.length : Int) then (if 0 < v7 then (gd ((v6.length : Int) + (([44]) : List UInt8).length ≤ 9223372036854775807) (Eg a0 v7 (v6 ++ ([44])))) else (Eg a0 v7 v6)) else (some (.inr v6))
noncomputable def VF (a0 : List S89) : Option (List UInt8) :=
 (AE (fun (s : (List UInt8) × Int) => EE a0 s.1 s.2) ([], 0)).bind fun (e : (List UInt8)) => K4 e
theorem X_ {H : A2} {K : Aw → A2 → Prop} (a0 : List S89) {r : (List UInt8)} (h : VF a0 = some r) (hK : K (.ret (.v (str r))) H) : Ac prog 108 [.sl 2 (a0.map fun x => [.v (str x.fType), .v (str x.Aa)])] H K := by
 refine Ag (N := 96) func108 (by kernel_rfl) rfl (by kernel_rfl) (by kernel_rfl) fun cb hcb hw hbd hnb => ?_; clear hbd hnb; subst hcb; unfold VF at h; refine wG ?_; refine wG ?_; refine A3 fun cb hc3 => ?_; refine wG ?_; obtain ⟨y5, hl5q, hk5⟩ := A4 h; refine Az (fun tm' H' => ∃ v8 : List UInt8, v8 = y5 ∧ H = H' ∧ tm' 3 = .v (str v8)) ?_ fun cb hc5 => ?_
 ·rintro tm5e H5e ⟨v8, rfl, rfl, t3_5e⟩
  have h : K4 v8 = some r := hk5; unfold K4 at h; simp -implicitDefEqProofs only [go_sem]; subst hc3; refine wF t3_5e ?_; obtain rfl := sI h; refine vS ?_; exact Av (.refl hw) hK
 refine Ak ?_; refine AA (fun (s : (List UInt8) × Int) tm' H' => H = H' ∧ tm' 0 = .sl 2 (a0.map fun x => [.v (str x.fType), .v (str x.Aa)]) ∧ tm' 3 = .v (str s.1) ∧ tm' 4 = .v (.int .i64 s.2)) hl5q ?_ ?_
 ·exact sm
 rintro I5 hI5 ⟨v6, v7⟩ x5 tm5 H5 ⟨rfl, Dg, EP, HT⟩ h hret5
 replace h : EE a0 v6 v7 = some x5 := h; unfold EE at h; refine A3 fun cb hc10 => ?_; refine wF (nd Dg HT) ?_; refine Ab h eA rfl ?_ ?_
 ·intro c12 h; refine vO ?_; subst hc10; refine A3 fun cb hc13 => ?_; refine Ak ?_; refine BE (fun tm' H' => ∃ v15 : List UInt8, H = H' ∧ tm' 0 = .sl 2 (a0.map fun x => [.v (str x.fType), .v (str x.Aa)]) ∧ tm' 3 = .v (str v15) ∧ tm' 4 = .v (.int .i64 v7) ∧ Eg a0 v7 v15 = some x5) ?_ fun cb hc14 => ?_
  ·rintro tm14 H14 ⟨v15, rfl, Jt, jB, VG, h⟩
   unfold Eg at h; obtain ⟨g17, h⟩ := Af.1 h; obtain ⟨g18, h⟩ := gS h; obtain ⟨g19, h⟩ := gS h; refine wF (nd Jt (nd jB VG)) ?_; refine wF (nd Jt VG) ?_; refine wG ?_; obtain ⟨y22, hl22q, hk22⟩ := A4 h; refine Az (fun tm' H' => ∃ v25 : List UInt8, v25 = y22 ∧ H = H' ∧ tm' 0 = .sl 2 (a0.map fun x => [.v (str x.fType), .v (str x.Aa)]) ∧ tm' 3 = .v (str v25) ∧ tm' 4 = .v (.int .i64 v7)) ?_ fun cb hc22 => ?_
   ·rintro tm22e H22e ⟨v25, rfl, rfl, t0_22e, t3_22e, t4_22e⟩
    have h : Ig v7 v25 = some x5 := hk22; unfold Ig at h; simp -implicitDefEqProofs only [go_sem]; subst hc13; refine vF t4_22e ?_; obtain rfl := sI h; refine An hI5 ((v25, IntKind.i64.wrap (v7 + 1))) ?_; exact smF (nd t0_22e t3_22e)
   refine Ak ?_; refine AA (fun (s : (List UInt8) × Int) tm' H' => H = H' ∧ tm' 0 = .sl 2 (a0.map fun x => [.v (str x.fType), .v (str x.Aa)]) ∧ tm' 3 = .v (str s.1) ∧ tm' 4 = .v (.int .i64 v7) ∧ tm' 5 = .v (str ((a0.getD v7.toNat S89.zero).Aa)) ∧ tm' 6 = .v (.int .i64 s.2)) hl22q ?_ ?_
   ·exact smF (nd Jt VG)
   rintro I22 hI22 ⟨v23, v24⟩ x22 tm22 H22 ⟨rfl, EM, EN, EO, Ck, Cb⟩ h hret22
   replace h : Dx a0 v7 v23 v24 = some x22 := h; unfold Dx at h; refine A3 fun cb hc26 => ?_; refine wF (nd Ck Cb) ?_; refine Ab h eA rfl ?_ ?_
   ·intro c28 h; simp (disch := omega) at c28; refine vO ?_; subst hc26; refine A3 fun cb hc29 => ?_; refine Ak ?_; obtain ⟨g31, h⟩ := Af.1 h; obtain ⟨g32, h⟩ := Af.1 h; obtain ⟨g33, h⟩ := gS h; refine wF (nd Ck Cb) ?_; refine Ak ?_; refine A3 fun cb hc34 => ?_; obtain ⟨g35, h⟩ := gS h; refine vF (nd Ck Cb) ?_; refine A6 h eA ?_ ?_
    ·intro c67 h; simp (disch := omega) at c67; refine sG ?_; subst hc34; refine Ao eA rfl ?_; obtain ⟨g36, h⟩ := gS h; refine vF (nd EN (nd Ck Cb)) ?_; obtain ⟨x37, hx37, h⟩ := A4 h; refine Ac.eqA eA (Rx (((((a0.getD v7.toNat S89.zero).Aa).getD v24.toNat 0).toNat : Int)) hx37 ?_); obtain ⟨g38, h⟩ := gS h; refine sG ?_; subst hc29; refine vF Cb ?_; obtain rfl := sI h; refine An hI22 (((v23 ++ ([92])) ++ x37, IntKind.i64.wrap (v24 + 1))) ?_; exact smF (nd EM (nd EO Ck))
    intro c67 h; simp (disch := omega) at c67; refine sF (nd Ck Cb) ?_; subst hc34; refine Ab h eA rfl ?_ ?_
    ·intro c39 h; simp (disch := omega) at c39; obtain ⟨g40, h⟩ := gS h; refine vF (nd EN (nd Ck Cb)) ?_; obtain ⟨x41, hx41, h⟩ := A4 h; refine Ac.eqA eA (Rx (((((a0.getD v7.toNat S89.zero).Aa).getD v24.toNat 0).toNat : Int)) hx41 ?_); obtain ⟨g42, h⟩ := gS h; refine sG ?_; subst hc29; refine vF Cb ?_; obtain rfl := sI h; refine An hI22 (((v23 ++ ([92])) ++ x41, IntKind.i64.wrap (v24 + 1))) ?_; exact smF (nd EM (nd EO Ck))
    intro c39 h; simp (disch := omega) at c39; refine A3 fun cb hc43 => ?_; refine vF (nd Ck Cb) ?_; obtain ⟨x44, hx44, h⟩ := A4 h; refine Ac.eqA eA (XZ (((((a0.getD v7.toNat S89.zero).Aa).getD v24.toNat 0).toNat : Int)) hx44 ?_); refine sG ?_; refine A6 h eA ?_ ?_
    ·intro c66 h; refine sG ?_; subst hc43; refine Ao eA rfl ?_; obtain ⟨g45, h⟩ := gS h; obtain ⟨g46, h⟩ := gS h; refine vF EN ?_; subst hc29; refine vF Cb ?_; obtain rfl := sI h; refine An hI22 (((v23 ++ ([92])) ++ ((((a0.getD v7.toNat S89.zero).Aa).take (IntKind.i64.wrap (v24 + 1)).toNat).drop v24.toNat), IntKind.i64.wrap (v24 + 1))) ?_; exact smF (nd EM (nd EO Ck))
    intro c66 h; simp (disch := omega) at c66; refine sF Cb ?_; refine A6 h rfl ?_ ?_
    ·intro c65 h; refine sG ?_; refine A6 h eA ?_ ?_
     ·intro c58 h; simp (disch := omega) at c58; refine sG ?_; subst hc43; refine Ao eA rfl ?_; obtain ⟨g47, h⟩ := gS h; obtain ⟨g48, h⟩ := gS h; refine v0 ?_; simp -implicitDefEqProofs (disch := omega) [go_sem] at g48; refine sF EN ?_; subst hc29; refine vF Cb ?_; obtain rfl := sI h; refine An hI22 (((v23 ++ ([92])) ++ ((((a0.getD v7.toNat S89.zero).Aa).take (IntKind.i64.wrap (v24 + 1)).toNat).drop v24.toNat), IntKind.i64.wrap (v24 + 1))) ?_; exact smF (nd EM (nd EO Ck))
     intro c58 h; simp (disch := omega) at c58; refine sG ?_; refine A6 h eA ?_ ?_
     ·intro c57 h; simp (disch := omega) at c57; refine sG ?_; subst hc43; refine Ao eA rfl ?_; obtain ⟨g49, h⟩ := gS h; obtain ⟨g50, h⟩ := gS h; refine v0 ?_; simp -implicitDefEqProofs (disch := omega) [go_sem] at g50; refine sF EN ?_; subst hc29; refine vF Cb ?_; obtain rfl := sI h; refine An hI22 (((v23 ++ ([92])) ++ ((((a0.getD v7.toNat S89.zero).Aa).take (IntKind.i64.wrap (v24 + 1)).toNat).drop v24.toNat), IntKind.i64.wrap (v24 + 1))) ?_; exact smF (nd EM (nd EO Ck))
     intro c57 h; simp (disch := omega) at c57; refine sF (nd Ck Cb) ?_; refine A6 h eA ?_ ?_
     ·intro c56 h; simp (disch := omega) at c56; refine sG ?_; subst hc43; refine Ab h eA rfl ?_ ?_
      ·intro c51 h; simp (disch := omega) at c51; obtain ⟨g52, h⟩ := gS h; obtain ⟨g53, h⟩ := gS h; refine v0 ?_; simp -implicitDefEqProofs (disch := omega) [go_sem] at g53; refine sF EN ?_; subst hc29; refine vF Cb ?_; obtain rfl := sI h; refine An hI22 (((v23 ++ ([92])) ++ ((((a0.getD v7.toNat S89.zero).Aa).take (IntKind.i64.wrap (v24 + 1)).toNat).drop v24.toNat), IntKind.i64.wrap (v24 + 1))) ?_; exact smF (nd EM (nd EO Ck))
      intro c51 h; simp (disch := omega) at c51; obtain ⟨g54, h⟩ := gS h; refine v0 ?_; simp -implicitDefEqProofs (disch := omega) [go_sem] at g54; refine sF EN ?_; subst hc29; refine vF Cb ?_; obtain rfl := sI h; refine An hI22 ((v23 ++ ((((a0.getD v7.toNat S89.zero).Aa).take (IntKind.i64.wrap (v24 + 1)).toNat).drop v24.toNat), IntKind.i64.wrap (v24 + 1))) ?_; exact smF (nd EM (nd EO Ck))
     intro c56 h; simp (disch := omega) at c56; refine sG ?_; subst hc43; refine Ap eA rfl ?_; obtain ⟨g55, h⟩ := gS h; refine v0 ?_; simp -implicitDefEqProofs (disch := omega) [go_sem] at g55; refine sF EN ?_; subst hc29; refine vF Cb ?_; obtain rfl := sI h; refine An hI22 ((v23 ++ ((((a0.getD v7.toNat S89.zero).Aa).take (IntKind.i64.wrap (v24 + 1)).toNat).drop v24.toNat), IntKind.i64.wrap (v24 + 1))) ?_; exact smF (nd EM (nd EO Ck))
    intro c65 h; refine sF (nd Ck Cb) ?_; refine A6 h eA ?_ ?_
    ·intro c64 h; simp (disch := omega) at c64; refine sG ?_; subst hc43; refine Ab h eA rfl ?_ ?_
     ·intro c59 h; simp (disch := omega) at c59; obtain ⟨g60, h⟩ := gS h; obtain ⟨g61, h⟩ := gS h; refine vF EN ?_; subst hc29; refine vF Cb ?_; obtain rfl := sI h; refine An hI22 (((v23 ++ ([92])) ++ ((((a0.getD v7.toNat S89.zero).Aa).take (IntKind.i64.wrap (v24 + 1)).toNat).drop v24.toNat), IntKind.i64.wrap (v24 + 1))) ?_; exact smF (nd EM (nd EO Ck))
     intro c59 h; simp (disch := omega) at c59; obtain ⟨g62, h⟩ := gS h; refine vF EN ?_; subst hc29; refine vF Cb ?_; obtain rfl := sI h; refine An hI22 ((v23 ++ ((((a0.getD v7.toNat S89.zero).Aa).take (IntKind.i64.wrap (v24 + 1)).toNat).drop v24.toNat), IntKind.i64.wrap (v24 + 1))) ?_; exact smF (nd EM (nd EO Ck))
    intro c64 h; simp (disch := omega) at c64; refine sG ?_; subst hc43; refine Ap eA rfl ?_; obtain ⟨g63, h⟩ := gS h; refine vF EN ?_; subst hc29; refine vF Cb ?_; obtain rfl := sI h; refine An hI22 ((v23 ++ ((((a0.getD v7.toNat S89.zero).Aa).take (IntKind.i64.wrap (v24 + 1)).toNat).drop v24.toNat), IntKind.i64.wrap (v24 + 1))) ?_; exact smF (nd EM (nd EO Ck))
   intro c28 h; simp (disch := omega) at c28; refine vO ?_; obtain rfl := sI h; have hy22 := hret22 _ rfl; refine hc22 _ _ ?_; refine .same ⟨v23, hy22, rfl, ?_, ?_, ?_⟩ <;> (simp -implicitDefEqProofs (disch := omega) [go_sem, EM, EN, EO] <;> omega)
  refine wF HT ?_; refine Ab h eA rfl ?_ ?_
  ·intro c69 h; obtain ⟨g70, h⟩ := gS h; refine vF EP ?_; refine hc14 _ _ ?_; refine .same ⟨(v6 ++ ([44])), rfl, ?_, ?_, ?_, h⟩ <;> (simp -implicitDefEqProofs (disch := omega) [go_sem, Dg, HT] <;> omega)
  intro c69 h; simp (disch := omega) at c69; refine vO ?_; refine hc14 _ _ ?_; refine .same ⟨v6, rfl, ?_, ?_, ?_, h⟩ <;> (simp -implicitDefEqProofs (disch := omega) [go_sem, Dg, EP, HT] <;> omega)
 intro c12 h; simp (disch := omega) at c12; refine vO ?_; obtain rfl := sI h; have hy5 := hret5 _ rfl; refine hc5 _ _ ?_; refine .same ⟨v6, hy5, rfl, by (simp -implicitDefEqProofs (disch := omega) [go_sem, EP] <;> omega)⟩
end Go.Idl
namespace Go.Idl
set_option maxHeartbeats 8000000
set_option pp.deepTerms false
set_option maxRecDepth 60000
open Go Go.Proofs.Tryz
noncomputable def J2 (a1 : S35) (v27 : Bool) (v28 : Int) : Option Bool :=
 some (decide (v28 = (a1.fL.length : Int)))
noncomputable def J3 (a1 : S35) (el26 : Int × S39) (v24 : Bool) (v25 : Int) : Option ((Bool × Int) ⊕ ((Bool × Int) ⊕ Bool)) :=
 gd (el26.2.A5.length = 8) (if ¬ el26.1 = v25 then (some (.inr (.inr false))) else (if (a1.fL.length : Int) ≤ v25 then (some (.inr (.inr false))) else (gd (0 ≤ v25 ∧ v25 < a1.fL.length) (gd (((a1.fL.getD v25.toNat S39.zero).A5).length = 8) ((F19 el26.2 (a1.fL.getD v25.toNat S39.zero)).bind fun (x38 : Bool) => if ¬ (x38 = true) then (some (.inr (.inr false))) else (some (.inl ((v24, IntKind.i64.wrap (v25 + 1))))))))))
noncomputable def VH (a1 : S35) : Option Bool :=
 gd (a1.fP.A5.length = 8) ((V4 ).bind fun (x5 : (List S39)) => (V2 ).bind fun (x7 : S33 × Bool) => gd (x7.1.A5.length = 8) (if ¬ x7.2 = (decide (¬ a1.fP.Ad = [])) then (some false) else ((F25 x7.1 a1.fP).bind fun (x12 : Bool) => if ¬ (x12 = true) then (some false) else ((V6 ).bind fun (x17 : Int) => if ¬ x17 = (a1.fL.length : Int) then (some false) else (gd (∀ x, x ∈ x5 → DB x.A5) ((Fh (ρ := (Bool × Int) ⊕ Bool) (fun (el26 : Int × S39) (s : Bool × Int) => J3 a1 el26 s.1 s.2) (fun (s : Bool × Int) => .inl (s.1, s.2)) (DN x5) (false, 0)).bind fun y => Sum.elim (fun (e : Bool × Int) => J2 a1 e.1 e.2) (fun (q : Bool) => some q) y))))))
theorem VI {H : A2} {K : Aw → A2 → Prop} (a1 : S35) {r : Bool} (h : VH a1 = some r) (hK : K (.ret (.v (.bool r))) H) : Ac prog 20 [.v (.pointer none), .ag (.sl 10 (a1.fL.map k39) :: .v (str a1.fP.Ad) :: .v (str a1.fP.Am) :: .sl 2 (a1.fP.fDn.map fun x => [.v (str x.fType), .v (str x.Aa)]) :: (a1.fP.A5.map fun x => .sl 1 (x.map fun x => [.v (str x)])))] H K := by
 refine Ag (N := 70) func20 (by kernel_rfl) rfl (by kernel_rfl) (by kernel_rfl) fun cb hcb hw hbd hnb => ?_; clear hbd hnb; subst hcb; unfold VH at h; obtain ⟨g2, h⟩ := Af.1 h; refine wG ?_; refine wF g2 ?_; refine A3 fun cb hc4 => ?_; refine vG ?_; obtain ⟨x5, hx5, h⟩ := A4 h; refine V5  hx5 ?_; refine sG ?_; subst hc4; refine A3 fun cb hc6 => ?_; refine vG ?_; obtain ⟨x7, hx7, h⟩ := A4 h; refine V3  hx7 ?_; obtain ⟨g8, h⟩ := Af.1 h; refine sF g8 ?_; subst hc6; refine A3 fun cb hc9 => ?_; refine A3 fun cb hc10 => ?_; refine vF g2 ?_; refine A6 h eA ?_ ?_
 ·intro c43 h; simp (disch := omega) at c43; refine sG ?_; subst hc10; refine Ao eA rfl ?_; refine wG ?_; obtain rfl := sI h; refine vS ?_; exact Av (.refl hw) hK
 intro c43 h; simp (disch := omega) at c43; refine sF (nd g2 g8) ?_; obtain ⟨x12, hx12, h⟩ := A4 h; refine UY x7.1 a1.fP hx12 ?_; refine sG ?_; subst hc10; refine Ab h eA rfl ?_ ?_
 ·intro c13 h; simp (disch := omega) at c13; refine wG ?_; obtain rfl := sI h; refine vS ?_; exact Av (.refl hw) hK
 intro c13 h; simp (disch := omega) at c13; refine vO ?_; subst hc9; refine A3 fun cb hc15 => ?_; refine A3 fun cb hc16 => ?_; refine Ay [] [0, 1, 2, 3, 5, 6, 4, 7, 8] (by kernel_rfl) (by kernel_rfl) (fun _ _ _ _ h => h) ?_; refine sG ?_; obtain ⟨x17, hx17, h⟩ := A4 h; refine V7  hx17 ?_; refine sG ?_; subst hc16; refine Ab h eA rfl ?_ ?_
 ·intro c18 h; refine wG ?_; obtain rfl := sI h; refine vS ?_; exact Av (.refl hw) hK
 intro c18 h; simp (disch := omega) at c18; refine vO ?_; subst hc15; refine wG ?_; refine A3 fun cb hc21 => ?_; refine wG ?_; obtain ⟨gi23, h⟩ := Af.1 h; obtain ⟨y23, hl23q, hk23⟩ := A4 h; refine Az (fun tm' H' => ∃ v27 : Bool, ∃ v28 : Int, .inl (v27, v28) = y23 ∧ Ext H H' ∧ H.next + 5 ≤ H'.next ∧ tm' 4 = .p (H.next + 1) 0 ∧ tm' 5 = .p (H.next + 2) 0 ∧ tm' 9 = .p (H.next + 4) 0 ∧ H'.obj H.next = some (.cells (.sl 10 (a1.fL.map k39) :: .v (str a1.fP.Ad) :: .v (str a1.fP.Am) :: .sl 2 (a1.fP.fDn.map fun x => [.v (str x.fType), .v (str x.Aa)]) :: (a1.fP.A5.map fun x => .sl 1 (x.map fun x => [.v (str x)])))) ∧ H'.obj (H.next + 1) = some (.cells ([.v (.bool v27)])) ∧ H'.obj (H.next + 2) = some (.cells ([.sl 10 (a1.fL.map k39)])) ∧ H'.obj (H.next + 3) = some (.cells (.v (str x7.1.Ad) :: .v (str x7.1.Am) :: .sl 2 (x7.1.fDn.map fun x => [.v (str x.fType), .v (str x.Aa)]) :: (x7.1.A5.map fun x => .sl 1 (x.map fun x => [.v (str x)])))) ∧ H'.obj (H.next + 4) = some (.cells ([.v (.int .i64 v28)]))) ?_ fun cb hc23 => ?_
 ·rintro tm23e H23e ⟨v27, v28, rfl, he23e, hl23e, t4_23e, t5_23e, t9_23e, ob0_23e, ob1_23e, ob2_23e, ob3_23e, ob4_23e⟩
  have h : J2 a1 v27 v28 = some r := hk23; unfold J2 at h; simp -implicitDefEqProofs only [go_sem]; subst hc21; refine wF (nd t4_23e (nd t5_23e (nd t9_23e (nd ob1_23e (nd ob2_23e ob4_23e))))) ?_; refine vO ?_; obtain rfl := sI h; refine sF t4_23e ?_; refine Ax (Au he23e) rfl nbA hK
 refine Ak ?_; refine Ex (gf := 46) (cap := [.cp [.sl 10 (x5.map k39)]]) (C := []) (enc := fun (el26 : Int × S39) => [.v (.int .i64 el26.1), .ag (.v (str el26.2.Ad) :: .v (str el26.2.Am) :: (el26.2.A5.map fun x => .sl 1 (x.map fun x => [.v (str x)])))]) (fun (s : Bool × Int) _ H' => Ext H H' ∧ H.next + 5 ≤ H'.next ∧ H'.obj H.next = some (.cells (.sl 10 (a1.fL.map k39) :: .v (str a1.fP.Ad) :: .v (str a1.fP.Am) :: .sl 2 (a1.fP.fDn.map fun x => [.v (str x.fType), .v (str x.Aa)]) :: (a1.fP.A5.map fun x => .sl 1 (x.map fun x => [.v (str x)])))) ∧ H'.obj (H.next + 1) = some (.cells ([.v (.bool s.1)])) ∧ H'.obj (H.next + 2) = some (.cells ([.sl 10 (a1.fL.map k39)])) ∧ H'.obj (H.next + 3) = some (.cells (.v (str x7.1.Ad) :: .v (str x7.1.Am) :: .sl 2 (x7.1.fDn.map fun x => [.v (str x.fType), .v (str x.Aa)]) :: (x7.1.A5.map fun x => .sl 1 (x.map fun x => [.v (str x)])))) ∧ H'.obj (H.next + 4) = some (.cells ([.v (.int .i64 s.2)]))) hl23q (by kernel_rfl) (by rfl) (R9 (x5) gi23) ?_ (fun _ _ _ _ hh => hh) (by intro _ _ _ _ p hp; cases hp) (fun _ => rfl) ?_ ?_
 ·exact ⟨by exact Au (Ext.refl hw), by (simp -implicitDefEqProofs (disch := omega) [go_sem] <;> omega), by (simp -implicitDefEqProofs (disch := omega) [go_sem] <;> omega), by (simp -implicitDefEqProofs (disch := omega) [go_sem] <;> omega), by (simp -implicitDefEqProofs (disch := omega) [go_sem] <;> omega), by (simp -implicitDefEqProofs (disch := omega) [go_sem] <;> omega), by (simp -implicitDefEqProofs (disch := omega) [go_sem] <;> omega)⟩
 ·rintro I23 hI23 el26 ⟨v24, v25⟩ x23 H23 ⟨he23, hl23, GN, E1, EA, GO, CN⟩ h hret23
  replace h : J3 a1 el26 v24 v25 = some x23 := h; unfold J3 at h
  skip
  refine wG ?_; obtain ⟨g31, h⟩ := Af.1 h; refine vF g31 ?_; refine Ak ?_; refine A3 fun cb hc32 => ?_; refine A3 fun cb hc33 => ?_; refine Ay [15] [0, 1, 2, 3, 4, 5, 6, 7, 8, 9, 10, 11, 12, 13, 14, 15, 16, 17] (by kernel_rfl) (by kernel_rfl) (fun _ _ _ _ h => h) ?_; refine sF CN ?_; refine A6 h eA ?_ ?_
  ·intro c42 h; refine sG ?_; subst hc33; refine Ao eA rfl ?_; refine wF E1 ?_; refine vO ?_; obtain rfl := sI h; obtain rfl := hret23 _ rfl; replace h : some false = some r := hk23; obtain rfl := sI h; refine sG ?_; refine Ax (Au he23) rfl nbA hK
  intro c42 h; simp (disch := omega) at c42; refine sF (nd EA CN) ?_; refine A6 h rfl ?_ ?_
  ·intro c41 h; refine sG ?_; subst hc33; refine Ao eA rfl ?_; refine wF E1 ?_; refine vO ?_; obtain rfl := sI h; obtain rfl := hret23 _ rfl; replace h : some false = some r := hk23; obtain rfl := sI h; refine sG ?_; refine Ax (Au he23) rfl nbA hK
  intro c41 h; simp (disch := omega) at c41; obtain ⟨g36, h⟩ := Af.1 h; obtain ⟨g37, h⟩ := gS h; refine sF (nd EA (nd CN (nd g31 g37))) ?_; obtain ⟨x38, hx38, h⟩ := A4 h; refine BN.mk _ (fun _ _ hK => Ac.eqA eA (UZ el26.2 (a1.fL.getD v25.toNat S39.zero) hx38 hK)) ?_; refine sG ?_; subst hc33; refine Ab h eA rfl ?_ ?_
  ·intro c39 h; simp (disch := omega) at c39; refine wF E1 ?_; refine vO ?_; obtain rfl := sI h; obtain rfl := hret23 _ rfl; replace h : some false = some r := hk23; obtain rfl := sI h; refine sG ?_; refine Ax (Au he23) rfl nbA hK
  intro c39 h; simp (disch := omega) at c39; refine vO ?_; subst hc32; refine vF CN ?_; obtain rfl := sI h; refine An hI23 ((v24, IntKind.i64.wrap (v25 + 1))) ?_; refine .same ⟨by exact Au he23, by (simp -implicitDefEqProofs (disch := omega) [go_sem] <;> omega), ?_, ?_, ?_, ?_, ?_⟩ <;> (simp -implicitDefEqProofs (disch := omega) [go_sem, GN, E1, EA, GO] <;> omega)
 rintro ⟨v24, v25⟩ H23 ⟨he23, hl23, GN, E1, EA, GO, CN⟩ hy23
 simp -implicitDefEqProofs only [go_sem]; refine hc23 _ _ ?_; refine .same ⟨v24, v25, hy23, by exact Au he23, by (simp -implicitDefEqProofs (disch := omega) [go_sem] <;> omega), ?_, ?_, ?_, ?_, ?_, ?_, ?_, ?_⟩ <;> (simp -implicitDefEqProofs (disch := omega) [go_sem, GN, E1, EA, GO, CN] <;> omega)
end Go.Idl
namespace Go.Idl
open Go Go.Lib
theorem Dy {c : List (List Str)} (hc : c.length = 8) (h : AH c = true) : (∀ l, l ∈ c → l.length ≤ 8) ∧ (∀ l, l ∈ c → ∀ v, v ∈ l → 1 ≤ v.length ∧ v.length ≤ 200) ∧ (c.getD 0 []).length = 1 := by
 have hi := (I_ c hc).1 h; have hv : ∀ l, l ∈ c → l.length ≤ 8 ∧ ∀ v, v ∈ l → 1 ≤ v.length ∧ v.length ≤ 200 := by
  intro l hl; obtain ⟨i, h1, rfl⟩ := List.getElem_of_mem hl; have := hi i h1; unfold C6 BD at this; simp only [Bool.and_eq_true, decide_eq_true_eq, Bool.not_eq_true', List.any_eq_false] at this; refine ⟨?_, fun v hv => ?_⟩
  ·have := this.1.1.1; unfold Gk at this; split at this <;> omega
  ·have := this.1.1.2 v hv; simp [Be] at this; exact ⟨by have := this.2.1; cases v with | nil => simp at * | cons a b => simp, this.2.2⟩
 refine ⟨fun l hl => (hv l hl).1, fun l hl => (hv l hl).2, ?_⟩; unfold AH at h; simp only [Bool.and_eq_true, decide_eq_true_eq] at h; exact h.2
theorem EF {c : List (List Str)} (hc : c.length = 8) (h : AH c = true) : OG c := by
 obtain ⟨h1, h2, _⟩ := Dy hc h; exact ⟨hc, fun l hl => ⟨by have := h1 l hl; omega, fun s hs => by have := h2 l hl s hs; omega⟩⟩
theorem K5 (c : List (List Str)) (hc : c.length = 8) : BO c = Ef c 8 0 := by
 match c, hc with
 | [a, b, d, e, f, g, h, i], _ =>
  have hf : ∀ (i : Nat) (l : List Str), IG i l = BZ i l := fun _ _ => rfl; simp [BO, Ef, hf, List.zipIdx]
theorem Mo (c : List (List Str)) (hc : c.length = 8) (h : AH c = true) : E2 8 0 (BO c) (List.replicate 8 []) = some c := by
 obtain ⟨h1, h2, _⟩ := Dy hc h; rw [K5 c hc]; refine EB c hc h1 h2 8 0 _ 0 _ (by omega) (Nat.le_refl _) (Nat.le_refl _) (by simp) (fun j hj => by omega) (fun j _ => ?_); rw [List.getD_eq_getElem?_getD, List.getElem?_replicate]; split <;> rfl
theorem Mq {c c' : List (List Str)} (hc : c.length = 8) (hc' : c'.length = 8) (h : AH c = true) (h' : AH c' = true) (e : BO c = BO c') : c = c' := by
 have h1 := Mo c hc h; rw [e, Mo c' hc' h'] at h1; exact (Option.some.inj h1).symm
theorem T0 (l : List Str) (h1 : l.length ≤ 8) (h : ∀ s, s ∈ l → s.length ≤ 200) : (l.flatMap GU).length ≤ l.length * 403 := by
 clear h1
 induction l with
 | nil => simp
 | cons s l ih =>
  have h1 := h s (by simp); have h2 := ih fun s hs => h s (by simp [hs]); have h3 := GS s.length 3 (by simp; omega); simp only [List.flatMap_cons, List.length_append, List.length_cons, GU, List.length_nil]; omega
theorem Eh (c : List (List Str)) (hc : c.length = 8) (h : AH c = true) : (BO c).length ≤ 100000 := by
 obtain ⟨h1, h2, _⟩ := Dy hc h; have hf : ∀ (i : Nat) (l : List Str), l ∈ c → (BZ i l).length ≤ 8000 := fun i l hl => by
  have q1 := h1 l hl; have q2 := T0 l q1 (fun s hs => (h2 l hl s hs).2); have q3 := GS l.length 3 (by simp; omega); have q4 : (Ba.getD i []).length ≤ 10 := by
   match i with
   | 0 | 1 | 2 | 3 | 4 | 5 | 6 | 7 => simp [Ba]
   | i + 8 => simp [Ba]
  unfold BZ; split
  ·simp only [List.nil_append]; omega
  ·simp only [List.length_append, List.length_cons, List.length_nil]; omega
 rw [K5 c hc]
 match c, hc, hf with
 | [a, b, d, e, f, g, h, i], _, hf =>
  have := hf 0 a (by simp); have := hf 1 b (by simp); have := hf 2 d (by simp); have := hf 3 e (by simp); have := hf 4 f (by simp); have := hf 5 g (by simp); have := hf 6 h (by simp); have := hf 7 i (by simp); simp only [Ef, List.length_append, List.length_nil, List.getD_cons_zero, List.getD_cons_succ, Nat.zero_add, Nat.reduceAdd]; omega
def jC : Str := [48, 49, 50, 51, 52, 53, 54, 55, 56, 57, 97, 98, 99, 100, 101, 102]
def Ih (n : Nat) : UInt8 := jC.getD n 0
def T3 (x : UInt8) : Option Nat := jC.findIdx? fun y => decide (y = x)
def CF (x : UInt8) : Bool := decide (x = 44 ∨ x = 43 ∨ x = 34 ∨ x = 92 ∨ x = 60 ∨ x = 62 ∨ x = 59 ∨ x = 61)
def QB (x : UInt8) : Bool := decide (x.toNat < 32 ∨ 126 < x.toNat)
def JG (first last : Bool) (x : UInt8) : Str :=
  if QB x = true then [92, Ih (x.toNat / 16), Ih (x.toNat % 16)]
  else if (CF x || (first && decide (x = 32 ∨ x = 35)) || (last && decide (x = 32))) = true then [92, x] else [x]
def BR (first : Bool) : Str → Str
  | [] => []
  | x :: r => JG first r.isEmpty x ++ BR false r
def G_ : Nat → Str → Str × Str
  | 0, s => ([], s)
  | _ + 1, [] => ([], [])
  | n + 1, 92 :: a :: s =>
    match T3 a with
    | some i => match s with
      | b :: s => let r := G_ n s; (UInt8.ofNat (i * 16 + (T3 b).getD 0) :: r.1, r.2)
      | [] => ([], [])
    | none => let r := G_ n s; (a :: r.1, r.2)
  | n + 1, x :: s => if x = 44 then ([], x :: s) else let r := G_ n s; (x :: r.1, r.2)
set_option maxRecDepth 100000 in
theorem T4 : ∀ i : Fin 16, T3 (Ih i.1) = some i.1 := by decide
theorem VJ (i : Nat) (h : i < 16) : T3 (Ih i) = some i := T4 ⟨i, h⟩
theorem T5 {x : UInt8} (h : (decide (x = 44 ∨ x = 43 ∨ x = 34 ∨ x = 92 ∨ x = 60 ∨ x = 62 ∨ x = 59 ∨ x = 61) || decide (x = 32 ∨ x = 35)) = true) : T3 x = none := by
 simp only [Bool.or_eq_true, decide_eq_true_eq] at h; rcases h with (h | h | h | h | h | h | h | h) | (h | h) <;> subst h <;> rfl
theorem VK (n : Nat) (first last : Bool) (x : UInt8) (s : Str) : G_ (n + 1) (JG first last x ++ s) = (x :: (G_ n s).1, (G_ n s).2) := by
 unfold JG; by_cases h1 : QB x = true
 ·rw [if_pos h1]; have hx := x.toNat_lt; simp only [List.cons_append, List.nil_append, G_]; rw [VJ _ (by omega)]; simp only; rw [VJ _ (by omega)]; have e : x.toNat / 16 * 16 + (some (x.toNat % 16)).getD 0 = x.toNat := by simp only [Option.getD_some]; omega
  rw [e]; simp
 ·rw [if_neg h1]; by_cases h2 : (CF x || (first && decide (x = 32 ∨ x = 35)) || (last && decide (x = 32))) = true
  ·rw [if_pos h2]; have h3 : T3 x = none := by
    refine T5 ?_; simp only [CF, Bool.or_eq_true, Bool.and_eq_true, decide_eq_true_eq] at h2 ⊢; rcases h2 with (h | h) | h
    ·exact .inl h
    ·exact .inr h.2
    ·exact .inr (.inl h.2)
   simp only [List.cons_append, List.nil_append, G_]; rw [h3]
  ·rw [if_neg h2]; have hs : CF x = false := by
    simp only [Bool.not_eq_true, Bool.or_eq_false_iff] at h2; exact h2.1.1
   simp only [CF, decide_eq_false_iff_not, not_or] at hs; have e : G_ (n + 1) (x :: s) = if x = 44 then ([], x :: s) else (x :: (G_ n s).1, (G_ n s).2) := by
    rw [G_.eq_def]; split
    ·rename_i h; cases h
    ·rename_i h; cases h
    ·rename_i h; simp only [List.cons.injEq] at h; exact absurd h.1 hs.2.2.2.1
    ·rename_i a b c d h; simp only [List.cons.injEq] at h; obtain ⟨rfl, rfl⟩ := h; obtain rfl := Nat.succ.inj d; rfl
   rw [List.singleton_append, e, if_neg hs.1]
theorem J4 : ∀ (v : Str) (first : Bool) (n : Nat) (s : Str), v.length ≤ n → (s = [] ∨ ∃ r, s = 44 :: r) → G_ (n + 1) (BR first v ++ s) = (v, s)
  | [], first, n, s, _, hs => by
    rcases hs with rfl | ⟨r, rfl⟩
    · simp [BR, G_]
    · simp [BR, G_]
  | x :: v, first, n, s, hn, hs => by
    cases n with
    | zero => simp at hn
    | succ n =>
      rw [BR, List.append_assoc, VK, J4 v false n s (by simpa using hn) hs]
def Bq : List S89 → Str
  | [] => []
  | r :: d => r.fType ++ 61 :: (BR true r.Aa ++ match d with | [] => [] | _ :: _ => 44 :: Bq d)
theorem G1 {c : UInt8} : ∀ {a b x y : Str}, c ∉ a → c ∉ b → a ++ c :: x = b ++ c :: y → a = b ∧ x = y
  | [], [], x, y, _, _, h => by simpa using h
  | [], z :: b, x, y, _, hb, h => by
    simp only [List.nil_append, List.cons_append, List.cons.injEq] at h
    exact absurd h.1 (fun e => hb (by simp [e]))
  | z :: a, [], x, y, ha, _, h => by
    simp only [List.nil_append, List.cons_append, List.cons.injEq] at h
    exact absurd h.1.symm (fun e => ha (by simp [e]))
  | z :: a, w :: b, x, y, ha, hb, h => by
    simp only [List.cons_append, List.cons.injEq] at h
    obtain ⟨e1, e2⟩ := G1 (a := a) (b := b) (fun q => ha (by simp [q])) (fun q => hb (by simp [q])) h.2
    exact ⟨by rw [h.1, e1], e2⟩
theorem J5 {s : Str} (h : BX s = true) : (61 : UInt8) ∉ s := by
 intro hm; simp only [BX, Bool.and_eq_true, List.all_eq_true] at h; have := h.2 _ hm; simp [Cz, Dh] at this
theorem Mr : ∀ {d d' : List S89}, (∀ x ∈ d, B_ x = true) → (∀ x ∈ d', B_ x = true) → Bq d = Bq d' → d = d'
  | [], [], _, _, _ => rfl
  | [], r :: d, _, _, h => by simp [Bq] at h
  | r :: d, [], _, _, h => by simp [Bq] at h
  | r :: d, r' :: d', h, h', e => by
    have hr := h r (by simp)
    have hr' := h' r' (by simp)
    simp only [B_, Bool.and_eq_true, decide_eq_true_eq] at hr hr'
    obtain ⟨e1, e2⟩ := G1 (J5 hr.1.1) (J5 hr'.1.1) e
    have k : ∀ (d : List S89), ((match d with | [] => [] | _ :: _ => 44 :: Bq d : Str) = [] ∨ ∃ r, (match d with | [] => [] | _ :: _ => 44 :: Bq d : Str) = 44 :: r) := fun d => by
      cases d with
      | nil => exact .inl rfl
      | cons a b => exact .inr ⟨_, rfl⟩
    have q1 := J4 r.Aa true (r.Aa.length + r'.Aa.length) _ (by omega) (k d)
    have q2 := J4 r'.Aa true (r.Aa.length + r'.Aa.length) _ (by omega) (k d')
    rw [e2, q2] at q1
    simp only [Prod.mk.injEq] at q1
    have er : r = r' := by
      cases r; cases r'
      simp only at e1 q1
      rw [e1, q1.1]
    have ed : d = d' := by
      have q := q1.2
      cases d with
      | nil => cases d' with
        | nil => rfl
        | cons a b => simp at q
      | cons a b => cases d' with
        | nil => simp at q
        | cons a' b' =>
          simp only [List.cons.injEq, true_and] at q
          exact Mr (fun x hx => h x (by simp [hx])) (fun x hx => h' x (by simp [hx])) q.symm
    rw [er, ed]
theorem T6 (f l : Bool) (x : UInt8) : (10 : UInt8) ∉ JG f l x := by
 unfold JG; have hh : ∀ i, i < 16 → Ih i ≠ 10 := fun i hi => by
  have : ∀ i : Fin 16, Ih i.1 ≠ 10 := by decide
  exact this ⟨i, hi⟩
 have hx := x.toNat_lt; split
 ·simp only [List.mem_cons, List.not_mem_nil, or_false, not_or]; exact ⟨by decide, (hh _ (by omega)).symm, (hh _ (by omega)).symm⟩
 ·rename_i h; have : x ≠ 10 := by
   rintro rfl
   exact h rfl
  split
  ·simp only [List.mem_cons, List.not_mem_nil, or_false, not_or]; exact ⟨by decide, this.symm⟩
  ·simp only [List.mem_cons, List.not_mem_nil, or_false]; exact this.symm
theorem Ms : ∀ (v : Str) (f : Bool), (10 : UInt8) ∉ BR f v
  | [], _ => by simp [BR]
  | x :: v, f => by
    simp only [BR, List.mem_append, not_or]
    exact ⟨T6 _ _ _, Ms v false⟩
theorem EG : ∀ {d : List S89}, (∀ x ∈ d, B_ x = true) → (10 : UInt8) ∉ Bq d
  | [], _ => by simp [Bq]
  | r :: d, h => by
    have hr := h r (by simp)
    simp only [B_, Bool.and_eq_true, BX, List.all_eq_true] at hr
    have h1 : (10 : UInt8) ∉ r.fType := fun hm => by
      have := hr.1.1.2 _ hm
      simp [Cz, Dh] at this
    have h2 := Ms r.Aa true
    have h3 := EG (d := d) fun x hx => h x (by simp [hx])
    cases d with
    | nil => simp [Bq, h1, h2]
    | cons a b =>
      simp only [Bq] at h3 ⊢
      simp only [List.mem_append, List.mem_cons, not_or] at h3 ⊢
      exact ⟨h1, by decide, h2, by decide, h3⟩
theorem Lj (f l : Bool) (x : UInt8) : (JG f l x).length ≤ 3 := by
 unfold JG; split
 ·simp
 ·split <;> simp
theorem FC : ∀ (v : Str) (f : Bool), (BR f v).length ≤ 3 * v.length
  | [], _ => by simp [BR]
  | x :: v, f => by
    have := Lj f v.isEmpty x
    have := FC v false
    simp only [BR, List.length_append, List.length_cons]
    omega
theorem G2 : ∀ {d : List S89}, (∀ x ∈ d, B_ x = true) → (Bq d).length ≤ 1000 * d.length
  | [], _ => by simp [Bq]
  | r :: d, h => by
    have hr := h r (by simp)
    simp only [B_, BX, Bool.and_eq_true, decide_eq_true_eq] at hr
    have h2 := FC r.Aa true
    have h3 := G2 (d := d) fun x hx => h x (by simp [hx])
    have h4 : (Bq (r :: d)).length ≤ r.fType.length + 2 + (BR true r.Aa).length + (Bq d).length := by
      cases d with
      | nil => simp only [Bq, List.length_append, List.length_cons, List.append_nil, List.length_nil]; omega
      | cons a b => simp only [Bq, List.length_append, List.length_cons]; omega
    simp only [List.length_cons]
    omega
end Go.Idl
namespace Go.Idl
open Go Go.Lib
def J6 : List (Int × Bool) := AU (AU (AU (AU (AU (AU (AU (AU [] 44 true) 43 true) 34 true) 92 true) 60 true) 62 true) 59 true) 61 true
theorem T7 : ∀ n : Fin 256, (AY J6 (n.1 : Int)).getD false = CF (UInt8.ofNat n.1) := by decide +kernel
theorem G3 (x : UInt8) : (AY J6 (x.toNat : Int)).getD false = CF x := by
 have := T7 ⟨x.toNat, x.toNat_lt⟩; simpa using this
theorem T8 : ∀ n : Fin 256, ET .u8 (n.1 : Int) 15 = ((n.1 % 16 : Nat) : Int) := by decide +kernel
theorem jD (x : UInt8) : ET .u8 (x.toNat : Int) 15 = ((x.toNat % 16 : Nat) : Int) := T8 ⟨x.toNat, x.toNat_lt⟩
theorem jE (x : UInt8) : ((x.toNat : Nat) : Int).fdiv 16 = ((x.toNat / 16 : Nat) : Int) := by
 rw [Int.fdiv_eq_ediv_of_nonneg _ (by omega)]; omega
theorem dz (s out : Str) (i : Nat) (b : Bool) (hi : i < s.length) (hl : s.length ≤ 1000000) (ho : out.length ≤ 10000000) : Cw s (i : Int) out b = some (.inl (out ++ (if b = true then [92, s[i]] else [s[i]]), ((i + 1 : Nat) : Int))) := by
 have hx := s[i].toNat_lt; unfold Cw; rw [Int.toNat_natCast, getD_some hi, AS (by omega)]; cases b with
 | true =>
  simp only [if_true]; rw [A9 (by simp; omega), A9 (by omega), A9 (by simp; omega)]; simp
 | false =>
  simp only [Bool.false_eq_true, if_false]; rw [A9 (by omega), A9 (by simp; omega)]; simp
set_option maxRecDepth 20000 in
theorem VL (s out : Str) (i : Nat) (hi : i < s.length) (hl : s.length ≤ 1000000) (ho : out.length ≤ 10000000) :
    GK s J6 out (i : Int) = some (.inl (out ++ JG (decide (i = 0)) (decide (i + 1 = s.length)) s[i], ((i + 1 : Nat) : Int))) := by
 have hx := s[i].toNat_lt; have hgd : s.getD i 0 = s[i] := getD_some hi _; have hw : IntKind.i64.wrap ((s.length : Int) - 1) = (s.length : Int) - 1 := wrap_i64 (by omega) (by omega); have hlast : ((i : Int) = (s.length : Int) - 1) ↔ i + 1 = s.length := by omega
 have hk := fun b => dz s out i b hi hl ho; simp only [GK]; rw [if_pos (by omega), A9 (by omega), Int.toNat_natCast, hgd, G3, jD, jE, hw]; simp only [hk, Int.toNat_natCast, UInt8.ofNat_toNat]; generalize s[i] = x at *; have h16 : x.toNat % 16 < 16 := by omega
 have h16' : x.toNat / 16 < 16 := by omega
 have q1 := (([48, 49, 50, 51, 52, 53, 54, 55, 56, 57, 97, 98, 99, 100, 101, 102] : List UInt8).getD (x.toNat / 16) 0).toNat_lt; have q2 := (([48, 49, 50, 51, 52, 53, 54, 55, 56, 57, 97, 98, 99, 100, 101, 102] : List UInt8).getD (x.toNat % 16) 0).toNat_lt; unfold JG QB; by_cases a1 : x.toNat < 32
 ·rw [if_pos (by omega), if_pos (by simp; omega), A9 (by simp; omega), A9 (by simp; omega), A9 (by omega), A9 (by omega), A9 (by simp; omega), AS (by omega)]; rfl
 ·rw [if_neg (by omega)]; by_cases a2 : 126 < x.toNat
  ·rw [if_pos (by omega), if_pos (by simp; omega), A9 (by simp; omega), A9 (by simp; omega), A9 (by omega), A9 (by omega), A9 (by simp; omega), AS (by omega)]; rfl
  ·rw [if_neg (by omega), if_neg (c := decide (x.toNat < 32 ∨ 126 < x.toNat) = true) (by simp; omega)]; by_cases a3 : CF x = true
   ·simp [a3]
   ·have e32 : x = 32 ↔ x.toNat = 32 := by rw [← UInt8.toNat_inj]; rfl
    have e35 : x = 35 ↔ x.toNat = 35 := by rw [← UInt8.toNat_inj]; rfl
    have f32 : ((x.toNat : Int) = 32) ↔ x.toNat = 32 := by omega
    have f35 : ((x.toNat : Int) = 35) ↔ x.toNat = 35 := by omega
    have fi : ((i : Int) = 0) ↔ i = 0 := by omega
    simp only [a3, hlast, e32, e35, f32, f35, fi, Bool.false_eq_true, if_false, Bool.false_or, Bool.or_eq_true, Bool.and_eq_true, decide_eq_true_eq, if_true]; by_cases b1 : i = 0
    ·by_cases b2 : x.toNat = 32
     ·simp [b1, b2]
     ·by_cases b3 : x.toNat = 35
      ·simp [b1, b3]
      ·by_cases b4 : i + 1 = s.length
       ·simp [b1, b2, b3]
       ·simp [b1, b2, b3]
    ·by_cases b4 : i + 1 = s.length
     ·simp [b1, b4]
     ·simp [b1, b4]
theorem P7 (s : Str) (hl : s.length ≤ 1000000) : ∀ (k j : Nat) (out : Str), j + k = s.length → out.length ≤ 3 * j →
    AE (fun (v : Str × Int) => GK s J6 v.1 v.2) (out, (j : Int)) = some (out ++ BR (decide (j = 0)) (s.drop j))
  | 0, j, out, h, ho => by
    refine AG ?_
    simp only [GK]
    rw [if_neg (by omega), List.drop_of_length_le (by omega)]
    simp [BR]
  | k + 1, j, out, h, ho => by
    have hj : j < s.length := by omega
    rw [AZ (VL s out j hj hl (by omega)), P7 s hl k (j + 1) _ (by omega) (by
      have := Lj (decide (j = 0)) (decide (j + 1 = s.length)) s[j]
      rw [List.length_append]; omega)]
    rw [List.drop_eq_getElem_cons hj, BR, List.append_assoc]
    have e1 : (s.drop (j + 1)).isEmpty = decide (j + 1 = s.length) := by
      by_cases q : j + 1 = s.length
      · rw [decide_eq_true q, List.drop_of_length_le (by omega)]; rfl
      · rw [decide_eq_false q, List.drop_eq_getElem_cons (by omega)]; rfl
    rw [e1]
    simp
theorem dA (s : Str) (hl : s.length ≤ 1000000) : F91 s = some (BR true s) := by
 unfold F91; rw [show Qb = some J6 from rfl]; simp only [Option.bind_some]; have := P7 s hl s.length 0 [] (by omega) (by simp); rw [show ((0 : Nat) : Int) = 0 from rfl] at this; rw [A9 (by omega), this]; simp [Ni]
def DT (d : List S89) : Str := match d with | [] => [] | _ :: _ => 44 :: Bq d
theorem CS (r : S89) (d : List S89) : Bq (r :: d) = r.fType ++ 61 :: (BR true r.Aa ++ DT d) := rfl
theorem VM (d : List S89) (i : Nat) (hi : i < d.length) (hl : d.length ≤ 16) (hr : B_ d[i] = true) (out : Str) (ho : out.length ≤ 1000000) : FT d (i : Int) out = some (.inl (out ++ (d[i].fType ++ 61 :: BR true d[i].Aa), ((i + 1 : Nat) : Int))) := by
 simp only [B_, BX, Bool.and_eq_true, decide_eq_true_eq] at hr; have h2 := FC d[i].Aa true; have hg : d.getD i S89.zero = d[i] := getD_some hi _; unfold FT; rw [Int.toNat_natCast, hg, dA _ (by omega), AS (by omega)]; simp only [Option.bind_some]; rw [A9 (by simp; omega), A9 (by simp; omega), A9 (by simp; omega)]; simp
theorem P8 (d : List S89) (hl : d.length ≤ 16) (h : ∀ x ∈ d, B_ x = true) : ∀ (k j : Nat) (out : Str), j + k = d.length → out.length ≤ 1000 * j →
    AE (fun (s : Str × Int) => Ey d s.1 s.2) (out, (j : Int)) = some (out ++ if j = 0 then Bq d else DT (d.drop j))
  | 0, j, out, hk, ho => by
    refine AG ?_
    simp only [Ey]
    rw [if_neg (by omega)]
    by_cases h0 : j = 0
    · have : d = [] := List.length_eq_zero_iff.1 (by omega)
      simp [h0, this, Bq]
    · rw [if_neg h0, List.drop_of_length_le (by omega)]
      simp [DT]
  | k + 1, j, out, hk, ho => by
    have hj : j < d.length := by omega
    have hm := h _ (List.getElem_mem hj)
    have hr := hm
    simp only [B_, BX, Bool.and_eq_true, decide_eq_true_eq] at hr
    have h2 := FC d[j].Aa true
    have key : Ey d out (j : Int) = some (.inl ((out ++ if j = 0 then [] else [44]) ++ (d[j].fType ++ 61 :: BR true d[j].Aa), ((j + 1 : Nat) : Int))) := by
      simp only [Ey]
      rw [if_pos (by omega), A9 (by omega)]
      by_cases h0 : j = 0
      · rw [if_neg (by omega), if_pos h0, List.append_nil, VM d j hj hl hm out (by omega)]
      · rw [if_pos (by omega), if_neg h0, A9 (by simp; omega), VM d j hj hl hm _ (by simp; omega)]
    rw [AZ (s' := ((out ++ if j = 0 then [] else [44]) ++ (d[j].fType ++ 61 :: BR true d[j].Aa), ((j + 1 : Nat) : Int))) key, P8 d hl h k (j + 1) _ (by omega) (by
      simp only [List.length_append, List.length_cons]
      have : (if j = 0 then [] else [44] : Str).length ≤ 1 := by split <;> simp
      omega)]
    have hn : ¬ j + 1 = 0 := by omega
    by_cases h0 : j = 0
    · subst h0
      match d, hj with
      | r :: d, _ => simp [CS]
    · rw [if_neg h0, if_neg h0, if_neg hn, List.drop_eq_getElem_cons hj]
      simp only [DT, CS]
      simp
theorem QC (d : List S89) (h : Bt d = true) : F60 d = some (Bq d, 0) := by
 have h' := h; simp only [Bt, Bool.and_eq_true, decide_eq_true_eq, List.all_eq_true] at h'
 have hb : Qw d := ⟨by omega, fun x hx => by
   have := h'.2 x hx
   simp only [B_, BX, Bool.and_eq_true, decide_eq_true_eq] at this
   omega⟩
 unfold F60; rw [Vr d hb, if_pos h]; simp only [Option.bind_some]; have := P8 d h'.1 h'.2 d.length 0 [] (by omega) (by simp); rw [show ((0 : Nat) : Int) = 0 from rfl] at this; rw [if_neg (by simp), this]; simp [JQ]
end Go.Idl
namespace Go.Idl
open Go Go.Proofs.Tryz
set_option pp.deepTerms false
def Ll (x : UInt8) : Option Nat := if 48 ≤ x.toNat ∧ x.toNat ≤ 57 then some (x.toNat - 48) else if 97 ≤ x.toNat ∧ x.toNat ≤ 102 then some (x.toNat - 87) else if 65 ≤ x.toNat ∧ x.toNat ≤ 70 then some (x.toNat - 55) else none
def NP (y : UInt8) : Bool := CF y || decide (y = 32) || decide (y = 35)
def Ga : Str → Option (UInt8 × Str)
  | [] => none
  | y :: r => if NP y = true then some (y, r) else match r with
    | [] => none
    | z :: r' => (Ll y).bind fun a => (Ll z).bind fun b => some (UInt8.ofNat (16 * a + b), r')
def Lm (first : Bool) (x : UInt8) : Bool := !CF x && decide (32 ≤ x.toNat) && decide (x.toNat ≤ 126) && (!first || (decide (¬ x = 32) && decide (¬ x = 35)))
def NQ (blank : Bool) (out s : Str) : Option (Str × Str) := if blank = false ∧ 1 ≤ out.length ∧ out.length ≤ 200 then some (out, s) else none
def Ei : Nat → Bool → Str → Str → Option (Str × Str)
  | 0, _, _, _ => none
  | n + 1, blank, out, s =>
    match s with
    | [] => NQ blank out []
    | x :: r => if x = 44 then NQ blank out (x :: r) else if x = 92 then (Ga r).bind fun p => Ei n false (out ++ [p.1]) p.2 else if Lm (decide (out = [])) x = true then Ei n (decide (x = 32)) (out ++ [x]) r else none
def FD (s : Str) : Option (S89 × Str) :=
  match B7 s 61 with
  | none => none
  | some p => if BX p.1 = true then (Ei (p.2.length + 1) false [] p.2).map fun q => (⟨p.1.map C8, q.1⟩, q.2) else none
def E3 : Nat → Str → Option (List S89)
  | 0, _ => none
  | n + 1, s => (FD s).bind fun p => match p.2 with | [] => some [p.1] | _ :: r => (E3 n r).map (p.1 :: ·)
def FE (s : Str) : Option (List S89) := if s = [] then some [] else E3 16 s
def At (p r : Str) : AL := ⟨p ++ r, (p.length : Int)⟩
theorem DU {p r : Str} {x : UInt8} (h : (p ++ x :: r).length ≤ 10000000) : (⟨(At p (x :: r)).fs, IntKind.i64.wrap ((At p (x :: r)).fat + 1)⟩ : AL) = At (p ++ [x]) r := by
 simp only [List.length_append, List.length_cons] at h; simp only [At, AS (show p.length < 9223372036854775807 by omega)]; simp
def hdN : Str → Int × Bool
  | [] => (0, false)
  | x :: _ => ((x.toNat : Int), true)
theorem C_ (p r : Str) : JF (At p r) = some (hdN r) := by
 unfold JF At hdN; cases r with
 | nil => simp
 | cons x r =>
  simp only [List.length_append, List.length_cons]; rw [if_neg (by omega)]; refine A9 ⟨by omega, by omega⟩ |>.trans ?_
  simp [List.getD_eq_getElem?_getD]
theorem Mt : ∀ (r p : Str), (p ++ r).length ≤ 10000000 → AE (fun s : Int × Bool × AL => DQ s.1 s.2.1 s.2.2) ((hdN r).1, (hdN r).2, At p r) =
    some (match B7 r 61 with | none => At (p ++ r) [] | some q => At (p ++ q.1) (61 :: q.2))
  | [], p, h => by
    refine AG ?_
    simp [DQ, B7, hdN]
  | y :: r, p, h => by
    by_cases hy : y = 61
    · subst hy
      refine AG ?_
      simp [DQ, B7, hdN]
    · have hn : ¬ (y.toNat : Int) = 61 := fun e => hy ((Lg 61 rfl).1 e)
      have e1 : DQ (y.toNat : Int) true (At p (y :: r)) = some (.inl ((hdN r).1, (hdN r).2, At (p ++ [y]) r)) := by
        unfold DQ
        rw [if_pos rfl, if_pos hn, DU h, C_]
        rfl
      rw [show ((hdN (y :: r)).1, (hdN (y :: r)).2, At p (y :: r)) = ((y.toNat : Int), true, At p (y :: r)) from rfl, AZ e1, Mt r (p ++ [y]) (by simpa using h)]
      have : B7 (y :: r) 61 = (B7 r 61).map fun p => (y :: p.1, p.2) := by rw [B7, if_neg hy]
      rw [this]
      cases B7 r 61 <;> simp
theorem Y0 (p r : Str) (h : (p ++ r).length ≤ 1000000) : Vy (At p r) = some (match B7 r 61 with | none => .error () | some q => if BX q.1 = true then .ok (q.1.map C8, At (p ++ q.1 ++ [61]) q.2) else .error ()) := by
 unfold Vy; rw [C_, Option.bind_some, Mt r p (by omega), Option.bind_some]; have hlen := h; simp only [List.length_append] at hlen; cases hc : B7 r 61 with
 | none =>
  simp only []; unfold Ic; rw [C_, Option.bind_some]; simp only [At, hdN, Bool.false_eq_true, if_false]; rw [A9 (by omega), A9 (by simp; omega), A9 (by simp)]
 | some q =>
  obtain ⟨t, r'⟩ := q; obtain ⟨h1, h2⟩ := Bf.1 hc; subst h1; simp only [List.length_append, List.length_cons] at hlen; simp only []; unfold Ic; rw [C_, Option.bind_some]; have e0 : List.drop p.length (List.take (p ++ t).length (p ++ t ++ 61 :: r')) = t := by
   rw [List.take_left, List.drop_left]
  have e1 : ∀ {α : Type} (f g : α), (if true = true then f else g) = f := fun _ _ => rfl; rw [A9 (by simp [At]), A9 (by simp [At]; omega), A9 (by simp [At]; omega)]; simp only [At, hdN, Int.toNat_natCast, e0, e1]; rw [Vk t (by omega), Option.bind_some]; cases hn : BX t with
  | false => simp
  | true =>
   simp only [if_true]; rw [Vq t (by omega), Option.bind_some, AS (by simp; omega)]; simp; omega
end Go.Idl
namespace Go.Idl
open Go Go.Proofs.Tryz
set_option pp.deepTerms false
theorem Y1 : ∀ n : Fin 256, (if decide (48 ≤ n.1 ∧ n.1 ≤ 57) = true then IntKind.u8.wrap ((n.1 : Int) - 48) else if decide (97 ≤ n.1 ∧ n.1 ≤ 102) = true then IntKind.u8.wrap ((IntKind.u8.wrap ((n.1 : Int) - 97)) + 10) else if decide (65 ≤ n.1 ∧ n.1 ≤ 70) = true then IntKind.u8.wrap ((IntKind.u8.wrap ((n.1 : Int) - 65)) + 10) else 16) = (((Ll (UInt8.ofNat n.1)).getD 16 : Nat) : Int) := by decide +kernel
theorem Ry (x : UInt8) : P4 (x.toNat : Int) = some (((Ll x).getD 16 : Nat) : Int) := by
 have h := Y1 ⟨x.toNat, x.toNat_lt⟩; simp only [UInt8.ofNat_toNat] at h; unfold P4; rw [← h, show G9 (x.toNat : Int) 48 57 = _ from FY x 48 57, Option.bind_some]; split
 ·rfl
 ·rw [show G9 (x.toNat : Int) 97 102 = _ from FY x 97 102, Option.bind_some]; split
  ·rfl
  ·rw [show G9 (x.toNat : Int) 65 70 = _ from FY x 65 70, Option.bind_some]; split <;> rfl
theorem Rz {x : UInt8} {a : Nat} (h : Ll x = some a) : a < 16 := by
 unfold Ll at h; split at h
 ·cases h; omega
 ·split at h
  ·cases h; omega
  ·split at h
   ·cases h; omega
   ·cases h
theorem jF : ∀ a b : Fin 16, orI .u8 (IntKind.u8.wrap ((a.1 : Int) * 16)) (b.1 : Int) = ((16 * a.1 + b.1 : Nat) : Int) := by decide +kernel
theorem VN {r r' : Str} {y : UInt8} (h : Ga r = some (y, r')) : r'.length < r.length := by
 cases r with
 | nil => cases h
 | cons z r =>
  simp only [Ga] at h; split at h
  ·cases h; simp
  ·cases r with
   | nil => cases h
   | cons w r =>
    simp only [Option.bind_eq_some_iff] at h; obtain ⟨a, _, b, _, h⟩ := h; cases h; simp; omega
theorem QD : Qb = some J6 := rfl
theorem Cl {x c : UInt8} {n : Nat} (hc : c.toNat = n) : ((x.toNat : Int) = (n : Int)) ↔ x = c := Lg c hc
theorem Y2 (p r : Str) (h : (p ++ r).length ≤ 10000000) :
    (Ga r = none → SY (At p r) = some (.error ())) ∧ ∀ y r', Ga r = some (y, r') → ∃ p', p' ++ r' = p ++ r ∧ SY (At p r) = some (.ok ((y.toNat : Int), At p' r')) := by
 unfold SY; rw [C_, Option.bind_some]; cases r with
 | nil => exact ⟨fun _ => rfl, fun _ _ h => (by cases h)⟩
 | cons y r =>
  rw [show (hdN (y :: r)).2 = true from rfl, if_pos rfl, QD, Option.bind_some, show (hdN (y :: r)).1 = (y.toNat : Int) from rfl, G3, DU h]; have e32 : ((y.toNat : Int) = 32) ↔ y = 32 := Cl (c := 32) rfl; have e35 : ((y.toNat : Int) = 35) ↔ y = 35 := Cl (c := 35) rfl; by_cases hp : NP y = true
  ·have e1 : Ga (y :: r) = some (y, r) := by rw [Ga.eq_def]; simp only [hp, if_true]
   rw [e1]; refine ⟨fun h => (by cases h), fun y' r' h' => ?_⟩; cases h'; refine ⟨p ++ [y], by simp, ?_⟩; simp only [NP, Bool.or_eq_true, decide_eq_true_eq] at hp; by_cases hs : CF y = true
   ·rw [if_pos hs]
   ·rw [if_neg hs]; by_cases h3 : y = 32
    ·rw [if_pos (e32.2 h3)]
    ·rw [if_neg (fun e => h3 (e32.1 e))]; have h4 : y = 35 := by
      rcases hp with (hp | hp) | hp
      ·exact absurd hp hs
      ·exact absurd hp h3
      ·exact hp
     rw [if_pos (e35.2 h4)]
  ·have hs : ¬ CF y = true := fun e => hp (by simp [NP, e]); have h3 : ¬ y = 32 := fun e => hp (by simp [NP, e]); have h4 : ¬ y = 35 := fun e => hp (by simp [NP, e]); rw [if_neg hs, if_neg (fun e => h3 (e32.1 e)), if_neg (fun e => h4 (e35.1 e)), C_, Option.bind_some]; cases r with
   | nil =>
    have e1 : Ga [y] = none := by rw [Ga.eq_def]; simp only [hp]; rfl
    rw [e1]; exact ⟨fun _ => rfl, fun _ _ h => by cases h⟩
   | cons z r =>
    have e1 : Ga (y :: z :: r) = (Ll y).bind fun a => (Ll z).bind fun b => some (UInt8.ofNat (16 * a + b), r) := by rw [Ga.eq_def]; simp only [hp]; rfl
    rw [e1, show (hdN (z :: r)).2 = true from rfl, if_pos rfl, show (hdN (z :: r)).1 = (z.toNat : Int) from rfl, Ry, Option.bind_some]; cases hy : Ll y with
    | none => exact ⟨fun _ => rfl, fun _ _ h => by cases h⟩
    | some a =>
     have ha := Rz hy; rw [Option.getD_some, if_pos (by omega), Ry, Option.bind_some]; cases hz : Ll z with
     | none => exact ⟨fun _ => rfl, fun _ _ h => by cases h⟩
     | some b =>
      have hb := Rz hz; simp only [Option.getD_some, Option.bind_some]; rw [if_pos (by omega)]; refine ⟨fun h => (by cases h), fun y' r' h' => ?_⟩; cases h'; refine ⟨p ++ [y] ++ [z], by simp, ?_⟩; have e2 := jF ⟨a, ha⟩ ⟨b, hb⟩; simp only at e2; rw [e2]; have e3 : (UInt8.ofNat (16 * a + b)).toNat = 16 * a + b := by
       rw [UInt8.toNat_ofNat']; exact Nat.mod_eq_of_lt (by omega)
      rw [e3]; have h' : (p ++ [y] ++ z :: r).length ≤ 10000000 := by simpa using h
      have e4 := DU h'; have e5 : (At p (y :: z :: r)).fs = (At (p ++ [y]) (z :: r)).fs := by simp [At]
      have e6 : IntKind.i64.wrap ((At p (y :: z :: r)).fat + 1) = (At (p ++ [y]) (z :: r)).fat := by
       have := congrArg AL.fat (DU h); simpa using this
      rw [← e4, e5, e6]
theorem Mu (p r : Str) (x : Int) (out : Str) : D7 x out (At p r) = some (.inl (out, false, decide (x = 32), (hdN r).1, (hdN r).2, At p r)) := by
 unfold D7; rw [C_]; rfl
noncomputable def T9 (y : ((List UInt8) × Bool × AL) ⊕ (Except Unit ((List UInt8) × AL))) : Option (Except Unit ((List UInt8) × AL)) := Sum.elim (fun (e : (List UInt8) × Bool × AL) => Ie e.1 e.2.1 e.2.2) (fun (q : Except Unit ((List UInt8) × AL)) => some q) y
noncomputable abbrev stV := fun (s : (List UInt8) × Bool × Bool × Int × Bool × AL) => CZ s.1 s.2.1 s.2.2.1 s.2.2.2.1 s.2.2.2.2.1 s.2.2.2.2.2
theorem P9 (blank : Bool) (out p r : Str) : (NQ blank out r = none → T9 (.inl (out, blank, At p r)) = some (.error ())) ∧ ∀ v r', NQ blank out r = some (v, r') → r' = r ∧ T9 (.inl (out, blank, At p r)) = some (.ok (v, At p r)) := by
 unfold NQ T9; simp only [Sum.elim_inl]; unfold Ie; cases blank with
 | true => simp
 | false =>
  by_cases h1 : 1 ≤ out.length
  ·by_cases h2 : out.length ≤ 200
   ·have a1 : (1 : Int) ≤ (out.length : Int) := by omega
    have a2 : (out.length : Int) ≤ 200 := by omega
    simp only [Bool.false_eq_true, not_false_eq_true, if_true, a1, a2, h1, h2, and_self, reduceCtorEq, false_implies, true_and, Option.some.injEq, Prod.mk.injEq]
    rintro v r' ⟨rfl, rfl⟩
    exact ⟨rfl, rfl⟩
   ·have a2 : ¬ (out.length : Int) ≤ 200 := by omega
    simp [h1, h2, a2]
  ·have a1 : ¬ (1 : Int) ≤ (out.length : Int) := by omega
   simp [h1, a1]
theorem J7 : ∀ (n : Nat) (p r out : Str) (blank : Bool), r.length < n → (p ++ r).length ≤ 10000000 → out.length + r.length ≤ 10000000 →
    (Ei n blank out r = none → (AE stV (out, decide (out = []), blank, (hdN r).1, (hdN r).2, At p r)).bind T9 = some (.error ())) ∧
    ∀ v r', Ei n blank out r = some (v, r') → ∃ p', p' ++ r' = p ++ r ∧ (AE stV (out, decide (out = []), blank, (hdN r).1, (hdN r).2, At p r)).bind T9 = some (.ok (v, At p' r'))
  | 0, _, _, _, _ => fun h => absurd h (Nat.not_lt_zero _)
  | n + 1, p, [], out, blank => fun _ _ _ => by
    have e : AE stV (out, decide (out = []), blank, (hdN []).1, (hdN []).2, At p []) = some (.inl (out, blank, At p [])) := by
      refine AG ?_
      simp [stV, CZ, hdN]
    rw [e, Option.bind_some]
    have := P9 blank out p []
    refine ⟨fun h => this.1 h, fun v r' h => ?_⟩
    obtain ⟨h1, h2⟩ := this.2 v r' h
    exact ⟨p, by rw [h1], by rw [h1]; exact h2⟩
  | n + 1, p, x :: r, out, blank => fun hn hp ho => by
    have e44 : ((x.toNat : Int) = 44) ↔ x = 44 := Cl (c := 44) rfl
    have e92 : ((x.toNat : Int) = 92) ↔ x = 92 := Cl (c := 92) rfl
    have e32 : ((x.toNat : Int) = 32) ↔ x = 32 := Cl (c := 32) rfl
    have e35 : ((x.toNat : Int) = 35) ↔ x = 35 := Cl (c := 35) rfl
    simp only [List.length_cons] at hn ho
    rw [Ei]
    rw [show (hdN (x :: r)).1 = (x.toNat : Int) from rfl, show (hdN (x :: r)).2 = true from rfl]
    by_cases h44 : x = 44
    · subst h44
      have e : AE stV (out, decide (out = []), blank, ((44 : UInt8).toNat : Int), true, At p (44 :: r)) = some (.inl (out, blank, At p (44 :: r))) := by
        refine AG ?_
        simp [stV, CZ]
      rw [e, Option.bind_some, if_pos rfl]
      have := P9 blank out p (44 :: r)
      refine ⟨fun h => this.1 h, fun v r' h => ?_⟩
      obtain ⟨h1, h2⟩ := this.2 v r' h
      exact ⟨p, by rw [h1], by rw [h1]; exact h2⟩
    · rw [if_neg h44]
      have h44' : ¬ (x.toNat : Int) = 44 := fun e => h44 (e44.1 e)
      have hp' : (p ++ [x] ++ r).length ≤ 10000000 := by simpa using hp
      by_cases h92 : x = 92
      · subst h92
        rw [if_pos rfl]
        obtain ⟨t1, t2⟩ := Y2 (p ++ [92]) r hp'
        cases he : Ga r with
        | none =>
          have e : stV (out, decide (out = []), blank, ((92 : UInt8).toNat : Int), true, At p (92 :: r)) = some (.inr (.inr (.error ()))) := by
            simp only [stV, CZ, if_true]
            rw [if_pos (by decide), if_pos (by decide), DU hp, t1 he]
            rfl
          rw [AG e]
          exact ⟨fun _ => rfl, fun v r' h => (by cases h)⟩
        | some q =>
          obtain ⟨y, r1⟩ := q
          obtain ⟨p1, hp1, t3⟩ := t2 y r1 he
          have hl := VN he
          have e : stV (out, decide (out = []), blank, ((92 : UInt8).toNat : Int), true, At p (92 :: r)) = some (.inl (out ++ [y], decide (out ++ [y] = []), false, (hdN r1).1, (hdN r1).2, At p1 r1)) := by
            simp only [stV, CZ, if_true]
            rw [if_pos (by decide), if_pos (by decide), DU hp, t3, Option.bind_some]
            simp only [orP]
            have hy := y.toNat_lt
            rw [A9 (by omega), A9 (by simp; omega), Int.toNat_natCast, Mu]
            simp
          rw [AZ e, Option.bind_some]
          have ih := J7 n p1 r1 (out ++ [y]) false (by omega) (by rw [hp1]; simpa using hp) (by simp; omega)
          refine ⟨ih.1, fun v r' h => ?_⟩
          obtain ⟨p2, h1, h2⟩ := ih.2 v r' h
          exact ⟨p2, by rw [h1, hp1]; simp, h2⟩
      · rw [if_neg h92]
        have h92' : ¬ (x.toNat : Int) = 92 := fun e => h92 (e92.1 e)
        have hx := x.toNat_lt
        by_cases hf : Lm (decide (out = [])) x = true
        · have e : stV (out, decide (out = []), blank, (x.toNat : Int), true, At p (x :: r)) = some (.inl (out ++ [x], decide (out ++ [x] = []), decide (x = 32), (hdN r).1, (hdN r).2, At (p ++ [x]) r)) := by
            simp only [stV, CZ, if_true]
            rw [if_pos h44', if_neg h92', QD, Option.bind_some, G3, DU hp]
            simp only [Lm, Bool.and_eq_true, Bool.or_eq_true, Bool.not_eq_true', decide_eq_true_eq, decide_eq_false_iff_not] at hf
            obtain ⟨⟨⟨f1, f2⟩, f3⟩, f4⟩ := hf
            rw [f1]
            have g2 : (32 : Int) ≤ (x.toNat : Int) := by omega
            have g3 : (x.toNat : Int) ≤ 126 := by omega
            have gp : gd (0 ≤ (x.toNat : Int) ∧ (x.toNat : Int) ≤ 255) (gd ((out.length + [UInt8.ofNat ((x.toNat : Int)).toNat].length) * 1 ≤ 140737488355328) (D7 (x.toNat : Int) (out ++ [UInt8.ofNat ((x.toNat : Int)).toNat]) (At (p ++ [x]) r))) = some (.inl (out ++ [x], decide (out ++ [x] = []), decide (x = 32), (hdN r).1, (hdN r).2, At (p ++ [x]) r)) := by
              rw [A9 (by omega), A9 (by simp; omega), Int.toNat_natCast, Mu]
              simp [e32]
            simp only [Bool.false_eq_true, not_false_eq_true, if_true, g2, g3]
            by_cases ho' : out = []
            · rcases f4 with f4 | ⟨f4, f5⟩
              · exact absurd ho' f4
              · have f4' : ¬ (x.toNat : Int) = 32 := fun e => f4 (e32.1 e)
                have f5' : ¬ (x.toNat : Int) = 35 := fun e => f5 (e35.1 e)
                simp only [ho', decide_true, not_true_eq_false, if_false, f4', f5', not_false_eq_true, if_true]
                rw [ho'] at gp
                exact gp
            · simp only [ho', decide_false, Bool.false_eq_true, not_false_eq_true, if_true]
              simp only [List.append_eq_nil_iff, ho', false_and, decide_false] at gp ⊢
              exact gp
          rw [AZ e, if_pos hf]
          have ih := J7 n (p ++ [x]) r (out ++ [x]) (decide (x = 32)) (by omega) hp' (by simp; omega)
          refine ⟨ih.1, fun v r' h => ?_⟩
          obtain ⟨p2, h1, h2⟩ := ih.2 v r' h
          exact ⟨p2, by rw [h1]; simp, h2⟩
        · rw [if_neg hf]
          have e : stV (out, decide (out = []), blank, (x.toNat : Int), true, At p (x :: r)) = some (.inr (.inr (.error ()))) := by
            simp only [stV, CZ, if_true]
            rw [if_pos h44', if_neg h92', QD, Option.bind_some, G3]
            by_cases f1 : CF x = true
            · rw [if_neg (by simp [f1])]
            · rw [if_pos (by simpa using f1)]
              by_cases f2 : 32 ≤ x.toNat
              · rw [if_pos (by omega)]
                by_cases f3 : x.toNat ≤ 126
                · rw [if_pos (by omega)]
                  by_cases f0 : out = []
                  · rw [if_neg (by simp [f0])]
                    by_cases f4 : x = 32
                    · rw [if_neg (by simp [f4])]
                    · rw [if_pos (fun e => f4 (e32.1 e))]
                      have f5 : x = 35 := by
                        apply Classical.byContradiction
                        intro f5
                        exact hf (by simp [Lm, f1, f2, f3, f4, f5])
                      rw [if_neg (by simp [f5])]
                  · exact absurd (by simp [Lm, f1, f2, f3, f0]) hf
                · rw [if_neg (by omega)]
              · rw [if_neg (by omega)]
          rw [AG e]
          exact ⟨fun _ => rfl, fun v r' h => (by cases h)⟩
theorem Y3 (p r : Str) (h : (p ++ r).length ≤ 1000000) : (Ei (r.length + 1) false [] r = none → QA (At p r) = some (.error ())) ∧ ∀ v r', Ei (r.length + 1) false [] r = some (v, r') → ∃ p', p' ++ r' = p ++ r ∧ QA (At p r) = some (.ok (v, At p' r')) := by
 have := J7 (r.length + 1) p r [] false (by omega) (by omega) (by simp only [List.length_append] at h; simp; omega); have e : QA (At p r) = (AE stV ([], true, false, (hdN r).1, (hdN r).2, At p r)).bind T9 := by
  unfold QA; rw [C_, Option.bind_some]; rfl
 rw [e]; exact this
end Go.Idl
namespace Go.Idl
open Go Go.Proofs.Tryz
set_option pp.deepTerms false
theorem RB (p r : Str) (h : (p ++ r).length ≤ 1000000) : (FD r = none → SZ (At p r) = some (.error ())) ∧ ∀ v r', FD r = some (v, r') → ∃ p', p' ++ r' = p ++ r ∧ SZ (At p r) = some (.ok (v, At p' r')) := by
 unfold SZ FD; rw [Y0 p r h, Option.bind_some]; cases hc : B7 r 61 with
 | none => exact ⟨fun _ => rfl, fun _ _ h => (by cases h)⟩
 | some q =>
  obtain ⟨t, r1⟩ := q; obtain ⟨h1, _⟩ := Bf.1 hc; simp only []; cases hn : BX t with
  | false => exact ⟨fun _ => rfl, fun _ _ h => (by cases h)⟩
  | true =>
   simp only [if_true]; have hp : (p ++ t ++ [61]) ++ r1 = p ++ r := by rw [h1]; simp
   obtain ⟨v1, v2⟩ := Y3 (p ++ t ++ [61]) r1 (by rw [hp]; exact h); cases hv : Ei (r1.length + 1) false [] r1 with
   | none =>
    refine ⟨fun _ => ?_, fun _ _ h => (by cases h)⟩; simp only [orP, v1 hv, Option.bind_some]
   | some w =>
    obtain ⟨v, r2⟩ := w; obtain ⟨p2, h3, h4⟩ := v2 v r2 hv; refine ⟨fun h => (by cases h), fun v' r' h' => ?_⟩; cases h'; refine ⟨p2, by rw [h3, hp], ?_⟩; simp only [orP, h4, Option.bind_some]
noncomputable abbrev stP (s : Str) := fun (x : (List S89) × AL) => ED s x.1 x.2
noncomputable def endP (y : ((List S89) × AL) ⊕ ((List S89) × Int)) : Option ((List S89) × Int) := Sum.elim (fun (e : (List S89) × AL) => NN e.1 e.2) (fun (q : (List S89) × Int) => some q) y
def VO (d : List S89) : Option (List S89) → (List S89) × Int
  | some l => (d ++ l, 0)
  | none => ([], 160)
theorem Pa (s : Str) (hs : s ≠ []) (hl : s.length ≤ 1000000) : ∀ (n : Nat) (p r : Str) (d : List S89), p ++ r = s → d.length + n = 16 → (AE (stP s) (d, At p r)).bind endP = some (VO d (E3 n r))
  | 0, p, r, d, hp, hd => by
    obtain ⟨v1, v2⟩ := RB p r (by rw [hp]; exact hl)
    have e : stP s (d, At p r) = some (.inr (.inr ([], 160))) := by
      simp only [stP, ED]
      rw [if_pos hs]
      cases hq : FD r with
      | none => rw [v1 hq]; rfl
      | some q =>
        obtain ⟨p', _, h2⟩ := v2 q.1 q.2 hq
        rw [h2, Option.bind_some]
        simp only [orP]
        rw [A9 (by simp; omega), if_neg (by simp; omega)]
    rw [AG e]
    rfl
  | n + 1, p, r, d, hp, hd => by
    obtain ⟨v1, v2⟩ := RB p r (by rw [hp]; exact hl)
    rw [E3]
    cases hq : FD r with
    | none =>
      have e : stP s (d, At p r) = some (.inr (.inr ([], 160))) := by
        simp only [stP, ED]
        rw [if_pos hs, v1 hq]; rfl
      rw [AG e]
      rfl
    | some q =>
      obtain ⟨v, r1⟩ := q
      obtain ⟨p1, h1, h2⟩ := v2 v r1 hq
      rw [Option.bind_some]
      cases r1 with
      | nil =>
        have e : stP s (d, At p r) = some (.inr (.inl (d ++ [v], At p1 []))) := by
          simp only [stP, ED]
          rw [if_pos hs, h2, Option.bind_some]
          simp only [orP]
          rw [A9 (by simp; omega), if_pos (by simp; omega), C_]
          rfl
        rw [AG e]
        rfl
      | cons x r2 =>
        have hpl : (p1 ++ x :: r2).length ≤ 10000000 := by rw [h1, hp]; omega
        have e : stP s (d, At p r) = some (.inl (d ++ [v], At (p1 ++ [x]) r2)) := by
          simp only [stP, ED]
          rw [if_pos hs, h2, Option.bind_some]
          simp only [orP]
          rw [A9 (by simp; omega), if_pos (by simp; omega), C_, Option.bind_some, DU hpl]
          rfl
        rw [AZ e, Pa s hs hl n (p1 ++ [x]) r2 (d ++ [v]) (by rw [← hp, ← h1]; simp) (by simp; omega)]
        simp only []
        cases E3 n r2 <;> simp [VO]
theorem dB (s : Str) (hl : s.length ≤ 1000000) : F99 s = some (VO [] (FE s)) := by
 have e : F99 s = (AE (stP s) ([], (⟨s, 0⟩ : AL))).bind endP := rfl; rw [e]; unfold FE; by_cases hs : s = []
 ·rw [if_pos hs]; have e1 : stP s ([], (⟨s, 0⟩ : AL)) = some (.inr (.inl ([], (⟨s, 0⟩ : AL)))) := by
   simp [stP, ED, hs]
  rw [AG e1]; rfl
 ·rw [if_neg hs]; have := Pa s hs hl 16 [] s [] rfl rfl; simpa [At] using this
end Go.Idl
namespace Go.Idl
open Go Go.Proofs.Tryz
set_option pp.deepTerms false
theorem VP : ∀ n : Fin 256, VE (n.1 : Int) = some (CF (UInt8.ofNat n.1)) := by decide +kernel
theorem Y4 (x : UInt8) : VE (x.toNat : Int) = some (CF x) := by
 have := VP ⟨x.toNat, x.toNat_lt⟩; simpa using this
end Go.Idl
namespace Go.Idl
open Go Go.Proofs.Tryz
set_option pp.deepTerms false
theorem Y5 (x : UInt8) : C8 (C8 x) = C8 x := by
 have : ∀ n : Fin 256, C8 (C8 (UInt8.ofNat n.1)) = C8 (UInt8.ofNat n.1) := by decide +kernel
 have := this ⟨x.toNat, x.toNat_lt⟩; simpa using this
theorem Y6 (x : UInt8) : Dh (C8 x) = Dh x := by
 have : ∀ n : Fin 256, Dh (C8 (UInt8.ofNat n.1)) = Dh (UInt8.ofNat n.1) := by decide +kernel
 have := this ⟨x.toNat, x.toNat_lt⟩; simpa using this
theorem Y7 (x : UInt8) : Cz (C8 x) = Cz x := by
 have : ∀ n : Fin 256, Cz (C8 (UInt8.ofNat n.1)) = Cz (UInt8.ofNat n.1) := by decide +kernel
 have := this ⟨x.toNat, x.toNat_lt⟩; simpa using this
theorem Ta (t : Str) (h : BX t = true) : BX (t.map C8) = true := by
 unfold BX at h ⊢; simp only [Bool.and_eq_true, decide_eq_true_eq, List.all_eq_true, List.length_map, List.mem_map, forall_exists_index, and_imp, forall_apply_eq_imp_iff₂] at h ⊢; refine ⟨⟨h.1.1, ?_⟩, fun x hx => by rw [Y7]; exact h.2 x hx⟩; cases t with
 | nil => exact h.1.2
 | cons c t => simpa [Y6] using h.1.2
theorem Ln : ∀ (n : Nat) (blank : Bool) (out s v r : Str), Ei n blank out s = some (v, r) → 1 ≤ v.length ∧ v.length ≤ 200
  | 0, _, _, _, _, _ => fun h => by cases h
  | n + 1, blank, out, [], v, r => fun h => by
    simp only [Ei, NQ] at h
    split at h
    · rename_i h1; cases h; exact h1.2
    · cases h
  | n + 1, blank, out, x :: s, v, r => fun h => by
    simp only [Ei] at h
    split at h
    · simp only [NQ] at h
      split at h
      · rename_i h1; cases h; exact h1.2
      · cases h
    · split at h
      · obtain ⟨q, _, h2⟩ := Option.bind_eq_some_iff.1 h
        exact Ln n _ _ _ _ _ h2
      · split at h
        · exact Ln n _ _ _ _ _ h
        · cases h
theorem Tb {s r : Str} {p : S89} (h : FD s = some (p, r)) : B_ p = true := by
 unfold FD at h; split at h
 ·cases h
 ·rename_i q hq; split at h
  ·rename_i hn; obtain ⟨q2, h1, h2⟩ := Option.map_eq_some_iff.1 h; cases h2; have hv := Ln _ _ _ _ _ _ (show Ei _ _ _ _ = some (q2.1, q2.2) from h1); simp only [B_, Ta _ hn, Bool.true_and, Bool.and_eq_true, decide_eq_true_eq, List.map_map]; refine ⟨?_, hv⟩; congr 1; funext x; exact Y5 x
  ·cases h
theorem Mv : ∀ (n : Nat) (s : Str) (d : List S89), E3 n s = some d → d.length ≤ n ∧ (∀ x ∈ d, B_ x = true) ∧ ¬ d = []
  | 0, _, _, h => by cases h
  | n + 1, s, d, h => by
    rw [E3] at h
    obtain ⟨q, h1, h2⟩ := Option.bind_eq_some_iff.1 h
    have hr := Tb (show FD s = some (q.1, q.2) from h1)
    split at h2
    · cases h2
      exact ⟨by simp, by simpa using hr, by simp⟩
    · obtain ⟨d', h3, h4⟩ := Option.map_eq_some_iff.1 h2
      subst h4
      obtain ⟨i1, i2, _⟩ := Mv n _ d' h3
      refine ⟨by simp; omega, ?_, by simp⟩
      intro x hx
      rcases List.mem_cons.1 hx with rfl | hx
      · exact hr
      · exact i2 x hx
theorem Ii {s : Str} {d : List S89} (h : FE s = some d) : Bt d = true := by
 unfold FE at h; split at h
 ·cases h; simp [Bt]
 ·obtain ⟨h1, h2, _⟩ := Mv 16 s d h; simp only [Bt, Bool.and_eq_true, decide_eq_true_eq, List.all_eq_true]; exact ⟨h1, h2⟩
end Go.Idl
namespace Go.Idl
open Go Go.Proofs.Tryz
set_option pp.deepTerms false
theorem VQ : ∀ n : Fin 256, S_ (n.1 : Int) = some [Ih (n.1 / 16), Ih (n.1 % 16)] := by decide +kernel
theorem RC (x : UInt8) : S_ (x.toNat : Int) = some [Ih (x.toNat / 16), Ih (x.toNat % 16)] := VQ ⟨x.toNat, x.toNat_lt⟩
theorem dD {s : Str} {i : Nat} (h : i < s.length) : (s.take (i + 1)).drop i = [s[i]] := by
 rw [List.drop_take, Nat.add_sub_cancel_left, List.drop_eq_getElem_cons h]; rfl
theorem one_eq {x c : UInt8} : ([x] : Str) = [c] ↔ x = c := by simp
set_option maxRecDepth 20000 in
theorem Tc (d : List S89) (k : Nat) (hk : k < d.length) (out : Str) (i : Nat) (hi : i < d[k].Aa.length) (hl : d[k].Aa.length ≤ 1000000) (ho : out.length ≤ 10000000) :
    Dx d (k : Int) out (i : Int) = some (.inl (out ++ JG (decide (i = 0)) (decide (i + 1 = d[k].Aa.length)) d[k].Aa[i], ((i + 1 : Nat) : Int))) := by
 have hd : d.getD k S89.zero = d[k] := getD_some hk _; unfold Dx; rw [Int.toNat_natCast, hd]; generalize d[k].Aa = s at *; have hgd : s.getD i 0 = s[i] := getD_some hi _; have hw : IntKind.i64.wrap ((s.length : Int) - 1) = (s.length : Int) - 1 := wrap_i64 (by omega) (by omega); have hlast : ((i : Int) = (s.length : Int) - 1) ↔ i + 1 = s.length := by omega
 have htd := dD hi; have hx := s[i].toNat_lt; rw [if_pos (by omega), A9 (by omega), AS (by omega), A9 (by omega), A9 (by omega), A9 (by omega), Int.toNat_natCast, Int.toNat_natCast, hgd, hw, htd]; generalize s[i] = x at *; unfold JG QB; by_cases a1 : x.toNat < 32
 ·rw [if_pos (by omega), if_pos (by simp; omega), A9 (by simp; omega), RC, Option.bind_some, A9 (by simp; omega)]; simp
 ·rw [if_neg (by omega)]; by_cases a2 : 126 < x.toNat
  ·rw [if_pos (by omega), if_pos (by simp; omega), A9 (by simp; omega), RC, Option.bind_some, A9 (by simp; omega)]; simp
  ·rw [if_neg (by omega), if_neg (c := decide (x.toNat < 32 ∨ 126 < x.toNat) = true) (by simp; omega), Y4, Option.bind_some]; by_cases a3 : CF x = true
   ·rw [if_pos a3, A9 (by simp; omega), A9 (by simp; omega)]; simp [a3]
   ·rw [if_neg a3]; have n1 : ∀ {α : Type} (y : Option α), gd ((out.length : Int) + (([92] : List UInt8).length : Int) ≤ 9223372036854775807) y = y := fun y => A9 (by simp; omega); have n2 : ∀ {α : Type} (y : Option α), gd (((out ++ [92]).length : Int) + (([x] : List UInt8).length : Int) ≤ 9223372036854775807) y = y := fun y => A9 (by simp; omega); have n3 : ∀ {α : Type} (y : Option α), gd ((out.length : Int) + (([x] : List UInt8).length : Int) ≤ 9223372036854775807) y = y := fun y => A9 (by simp; omega); by_cases b1 : i = 0
    ·rw [if_pos (show (i : Int) = 0 by omega)]; by_cases b2 : x = 32
     ·rw [if_pos (one_eq.2 b2), n1, n2]; simp [b1, b2]
     ·rw [if_neg (fun e => b2 (one_eq.1 e))]; by_cases b3 : x = 35
      ·rw [if_pos (one_eq.2 b3), n1, n2]; simp [b1, b3]
      ·rw [if_neg (fun e => b3 (one_eq.1 e))]; by_cases b4 : i + 1 = s.length
       ·rw [if_pos (hlast.2 b4), n3]; simp [a3, b1, b2, b3]
       ·rw [if_neg (fun e => b4 (hlast.1 e)), n3]; simp [a3, b1, b2, b3]
    ·rw [if_neg (show ¬ (i : Int) = 0 by omega)]; by_cases b4 : i + 1 = s.length
     ·rw [if_pos (hlast.2 b4)]; by_cases b2 : x = 32
      ·rw [if_pos (one_eq.2 b2), n1, n2]; simp [b1, b4, b2]
      ·rw [if_neg (fun e => b2 (one_eq.1 e)), n3]; simp [a3, b1, b4, b2]
     ·rw [if_neg (fun e => b4 (hlast.1 e)), n3]; simp [a3, b1, b4]
theorem Lo (d : List S89) (q : Nat) (hq : q < d.length) (hl : d[q].Aa.length ≤ 1000000) : ∀ (k j : Nat) (out : Str), j + k = d[q].Aa.length → out.length + 3 * k ≤ 8000000 →
    AE (fun (v : Str × Int) => Dx d (q : Int) v.1 v.2) (out, (j : Int)) = some (out ++ BR (decide (j = 0)) (d[q].Aa.drop j))
  | 0, j, out, h, ho => by
    refine AG ?_
    have hd : d.getD q S89.zero = d[q] := getD_some hq _
    simp only [Dx, Int.toNat_natCast, hd]
    rw [if_neg (by omega), List.drop_of_length_le (by omega)]
    simp [BR]
  | k + 1, j, out, h, ho => by
    have hj : j < d[q].Aa.length := by omega
    rw [AZ (Tc d q hq out j hj hl (by omega)), Lo d q hq hl k (j + 1) _ (by omega) (by
      have := Lj (decide (j = 0)) (decide (j + 1 = d[q].Aa.length)) d[q].Aa[j]
      rw [List.length_append]; omega)]
    rw [List.drop_eq_getElem_cons hj, BR, List.append_assoc]
    have e1 : (d[q].Aa.drop (j + 1)).isEmpty = decide (j + 1 = d[q].Aa.length) := by
      by_cases q' : j + 1 = d[q].Aa.length
      · rw [decide_eq_true q', List.drop_of_length_le (by omega)]; rfl
      · rw [decide_eq_false q', List.drop_eq_getElem_cons (by omega)]; rfl
    rw [e1]
    simp
theorem RD (d : List S89) (i : Nat) (hi : i < d.length) (hl : d.length ≤ 16) (hr : B_ d[i] = true) (out : Str) (ho : out.length ≤ 1000000) : Eg d (i : Int) out = some (.inl (out ++ (d[i].fType ++ 61 :: BR true d[i].Aa), ((i + 1 : Nat) : Int))) := by
 simp only [B_, BX, Bool.and_eq_true, decide_eq_true_eq] at hr; have hg : d.getD i S89.zero = d[i] := getD_some hi _; unfold Eg; rw [Int.toNat_natCast, hg, A9 (by omega), A9 (by omega), A9 (by simp; omega)]; have := Lo d i hi (by omega) d[i].Aa.length 0 ((out ++ d[i].fType) ++ [61]) (by omega) (by simp; omega); rw [show ((0 : Nat) : Int) = 0 from rfl] at this; rw [this, Option.bind_some, Ig, AS (by omega)]; simp
theorem Mw (d : List S89) (hl : d.length ≤ 16) (h : ∀ x ∈ d, B_ x = true) : ∀ (k j : Nat) (out : Str), j + k = d.length → out.length ≤ 1000 * j →
    AE (fun (s : Str × Int) => EE d s.1 s.2) (out, (j : Int)) = some (out ++ if j = 0 then Bq d else DT (d.drop j))
  | 0, j, out, hk, ho => by
    refine AG ?_
    simp only [EE]
    rw [if_neg (by omega)]
    by_cases h0 : j = 0
    · have : d = [] := List.length_eq_zero_iff.1 (by omega)
      simp [h0, this, Bq]
    · rw [if_neg h0, List.drop_of_length_le (by omega)]
      simp [DT]
  | k + 1, j, out, hk, ho => by
    have hj : j < d.length := by omega
    have hm := h _ (List.getElem_mem hj)
    have hr := hm
    simp only [B_, BX, Bool.and_eq_true, decide_eq_true_eq] at hr
    have h2 := FC d[j].Aa true
    have key : EE d out (j : Int) = some (.inl ((out ++ if j = 0 then [] else [44]) ++ (d[j].fType ++ 61 :: BR true d[j].Aa), ((j + 1 : Nat) : Int))) := by
      simp only [EE]
      rw [if_pos (by omega)]
      by_cases h0 : j = 0
      · rw [if_neg (by omega), if_pos h0, List.append_nil, RD d j hj hl hm out (by omega)]
      · rw [if_pos (by omega), if_neg h0, A9 (by simp; omega), RD d j hj hl hm _ (by simp; omega)]
    rw [AZ (s' := ((out ++ if j = 0 then [] else [44]) ++ (d[j].fType ++ 61 :: BR true d[j].Aa), ((j + 1 : Nat) : Int))) key, Mw d hl h k (j + 1) _ (by omega) (by
      simp only [List.length_append, List.length_cons]
      have : (if j = 0 then [] else [44] : Str).length ≤ 1 := by split <;> simp
      omega)]
    have hn : ¬ j + 1 = 0 := by omega
    by_cases h0 : j = 0
    · subst h0
      match d, hj with
      | r :: d, _ => simp [CS]
    · rw [if_neg h0, if_neg h0, if_neg hn, List.drop_eq_getElem_cons hj]
      simp only [DT, CS]
      simp
theorem Y8 (d : List S89) (h : Bt d = true) : VF d = some (Bq d) := by
 simp only [Bt, Bool.and_eq_true, decide_eq_true_eq, List.all_eq_true] at h; unfold VF; have := Mw d h.1 h.2 d.length 0 [] (by omega) (by simp); rw [show ((0 : Nat) : Int) = 0 from rfl] at this; rw [this]; simp [K4]
end Go.Idl
namespace Go.Idl
open Go
abbrev Mp := List (Str × S39)
abbrev Np := List (Str × Str)
def Cx (x : S39) : Bool := BF x.Ad && BQ x.Am && AH x.A5
def Gb (L : List S39) (x : S39) : List S39 × Int :=
  if Cx x = true then (if 0 ≤ Bz L x.Ad then (L, 300) else if 0 ≤ H_ L x.Am then (L, 300) else if 64 ≤ (L.length : Int) then (L, 3) else (ES (·.Ad) x L, 0)) else (L, 2)
def QE (L : List S39) (h : Str) (c : List (List Str)) : List S39 × Int :=
  if AH c = true then (if Bz L h < 0 then (L, 5) else (L.set (Bz L h).toNat ⟨(L.getD (Bz L h).toNat S39.zero).Ad, (L.getD (Bz L h).toNat S39.zero).Am, c⟩, 0)) else (L, 2)
def Lp (L : List S39) (h : Str) : List S39 × Int :=
  if Bz L h < 0 then (L, 5) else (L.take (Bz L h).toNat ++ L.drop ((Bz L h).toNat + 1), 0)
def A_ (y : S33) : Bool := ((BQ y.Am && decide (y.fDn = [])) || (decide (y.Am = []) && (decide (¬ y.fDn = []) && Bt y.fDn))) && (BF y.Ad && AH y.A5)
def JH (a : S41) : S33 := ⟨a.Ai.Ad, a.Ai.Am, a.fDn, a.Ai.A5⟩
def CG (d : S35) (a : S41) : S35 × Int :=
  if a.Cu = 1 then (⟨(Gb d.fL a.Ai).1, d.fP⟩, (Gb d.fL a.Ai).2)
  else if a.Cu = 2 then (⟨(QE d.fL a.Ai.Ad a.Ai.A5).1, d.fP⟩, (QE d.fL a.Ai.Ad a.Ai.A5).2)
  else if a.Cu = 3 then (⟨(Lp d.fL a.Ai.Ad).1, d.fP⟩, (Lp d.fL a.Ai.Ad).2)
  else if a.Cu = 4 then (if A_ (JH a) = true then (⟨d.fL, JH a⟩, 0) else (d, 2))
  else if a.Cu = 5 then (⟨d.fL, S33.zero⟩, 0)
  else (d, 0)
def okX (x : S39) : Prop := x.Ad.length ≤ 1000000 ∧ x.Am.length ≤ 1000000 ∧ DB x.A5
def okA (a : S41) : Prop := okX a.Ai ∧ Qw a.fDn
theorem Ej (L : List S39) (h : Str) : (0 ≤ Bz L h ∧ ∃ hk : (Bz L h).toNat < L.length, L[(Bz L h).toNat].Ad = h) ∨ (Bz L h = -1 ∧ ∀ x ∈ L, ¬ x.Ad = h) := by
 unfold Bz; rcases Lf (fun x : S39 => decide (x.Ad = h)) L with ⟨h1, h2⟩ | ⟨k, hk, h1, h2⟩
 ·exact .inr ⟨h1, fun x hx => by simpa using h2 x hx⟩
 ·refine .inl ⟨by omega, ?_⟩; have e : (Le (fun x : S39 => decide (x.Ad = h)) L).toNat = k := by omega
  simp only [e]; exact ⟨hk, by simpa using h2⟩
theorem Pb (L : List S39) (u : Str) : (0 ≤ H_ L u ∧ ∃ hk : (H_ L u).toNat < L.length, L[(H_ L u).toNat].Am = u) ∨ (H_ L u = -1 ∧ ∀ x ∈ L, ¬ x.Am = u) := by
 unfold H_; rcases Lf (fun x : S39 => decide (x.Am = u)) L with ⟨h1, h2⟩ | ⟨k, hk, h1, h2⟩
 ·exact .inr ⟨h1, fun x hx => by simpa using h2 x hx⟩
 ·refine .inl ⟨by omega, ?_⟩; have e : (Le (fun x : S39 => decide (x.Am = u)) L).toNat = k := by omega
  simp only [e]; exact ⟨hk, by simpa using h2⟩
theorem VR (L : List S39) (x : S39) (hl : L.length ≤ 1000000) : AE (fun (s : Int) => Ez L x s) 0 = some ((GW (·.Ad) x.Ad L : Nat) : Int) := by
 obtain ⟨r, h1, h2⟩ := Dj (step := fun (s : Int) => Ez L x s) (Post := fun y => y = ((GW (·.Ad) x.Ad L : Nat) : Int)) L.length (fun i => GW (·.Ad) x.Ad L = i + GW (·.Ad) x.Ad (L.drop i)) (by simp)
  (fun i hi hI => by
    have hw := AS (i := i) (by omega)
    simp only [Ez]
    rw [if_pos (by omega), A9 (by omega), Int.toNat_natCast, getD_some hi, hw]
    rw [List.drop_eq_getElem_cons hi] at hI
    simp only [GW] at hI
    by_cases h : Op.bytesLess L[i].Ad x.Ad = true
    · rw [if_pos h]
      rw [if_pos (show lt8 L[i].Ad x.Ad from h)] at hI
      exact .inl ⟨rfl, by rw [hI]; omega⟩
    · rw [if_neg h]
      rw [if_neg (show ¬ lt8 L[i].Ad x.Ad from h)] at hI
      exact .inr ⟨_, rfl, by rw [hI]; simp⟩)
  (fun hI => by
    simp only [Ez]
    rw [if_neg (by omega)]
    refine ⟨_, rfl, ?_⟩
    rw [hI, List.drop_length]
    simp [GW])
 rw [h1, h2]
theorem dF (L : List S39) (x : S39) (hl : L.length ≤ 1000000) (hx : okX x) : F38 L x = some (Gb L x) := by
 obtain ⟨h1, h2, h3⟩ := hx; unfold F38 Gb Cx; rw [A9 h3.1, Vj _ h1, Vh _ h2, Qu _ h3, Qx _ _ hl, bX _ _ hl, VR L x hl]; simp only [Option.bind_some]; by_cases a1 : BF x.Ad = true
 ·rw [if_neg (by simpa using a1)]; by_cases a2 : BQ x.Am = true
  ·rw [if_neg (by simpa using a2)]; by_cases a3 : AH x.A5 = true
   ·rw [if_neg (by simpa using a3), if_pos (c := (BF x.Ad && BQ x.Am && AH x.A5) = true) (by simp [a1, a2, a3])]; by_cases a4 : 0 ≤ Bz L x.Ad
    ·rw [if_pos a4, if_pos a4]
    ·rw [if_neg a4, if_neg a4]; by_cases a5 : 0 ≤ H_ L x.Am
     ·rw [if_pos a5, if_pos a5]
     ·rw [if_neg a5, if_neg a5]; by_cases a6 : (64 : Int) ≤ L.length
      ·rw [if_pos a6, if_pos a6]
      ·rw [if_neg a6, if_neg a6]; have hc := NL (hf := fun x : S39 => x.Ad) x.Ad L; unfold JW; rw [A9 (by omega), A9 (by omega), Int.toNat_natCast, A9 (by simp; omega), A9 (by simp; omega), A9 (by simp; omega)]; simp [ES]
   ·rw [if_pos a3, if_neg (c := (BF x.Ad && BQ x.Am && AH x.A5) = true) (by simp [a3])]
  ·rw [if_pos a2, if_neg (c := (BF x.Ad && BQ x.Am && AH x.A5) = true) (by simp [a2])]
 ·rw [if_pos a1, if_neg (c := (BF x.Ad && BQ x.Am && AH x.A5) = true) (by simp [a1])]
theorem dG (L : List S39) (h : Str) (c : List (List Str)) (hl : L.length ≤ 1000000) (hL : ∀ x ∈ L, x.A5.length = 8) (hc : DB c) : F39 L h c = some (QE L h c) := by
 unfold F39 QE; rw [A9 hc.1, Qx _ _ hl, Qu _ hc]; simp only [Option.bind_some]; by_cases a1 : AH c = true
 ·rw [if_neg (by simpa using a1), if_pos a1]; by_cases a2 : Bz L h < 0
  ·rw [if_pos a2, if_pos a2]
  ·rw [if_neg a2, if_neg a2]; rcases Ej L h with ⟨q, hk, _⟩ | ⟨q, _⟩
   ·rw [A9 (by omega), A9 (by omega), A9 (by rw [getD_some hk]; exact hL _ (List.getElem_mem _))]
   ·omega
 ·rw [if_pos a1, if_neg a1]
theorem Y9 (L : List S39) (h : Str) (hl : L.length ≤ 1000000) : F40 L h = some (Lp L h) := by
 unfold F40 Lp; rw [Qx _ _ hl]; simp only [Option.bind_some]; by_cases a2 : Bz L h < 0
 ·rw [if_pos a2, if_pos a2]
 ·rw [if_neg a2, if_neg a2]; rcases Ej L h with ⟨q, hk, _⟩ | ⟨q, _⟩
  ·have hw : IntKind.i64.wrap (Bz L h + 1) = (((Bz L h).toNat + 1 : Nat) : Int) := by
    rw [wrap_i64 (by omega) (by omega)]; omega
   rw [hw, A9 (by omega), A9 (by omega), A9 (by omega), A9 (by omega), Int.toNat_natCast, A9 (by simp; omega), A9 (by simp; omega)]
  ·omega
theorem dH (y : S33) (h1 : y.Ad.length ≤ 1000000) (h2 : y.Am.length ≤ 1000000) (hd : Qw y.fDn) (hc : DB y.A5) : F41 y = some (A_ y) := by
 unfold F41 A_; rw [A9 hc.1, Vh _ h2, Vj _ h1, Qu _ hc, bT _ hd]; simp only [Option.bind_some]; have hz : ((y.fDn.length : Int) = 0) ↔ y.fDn = [] := by rw [← List.length_eq_zero_iff]; omega
 have hp : ((0 : Int) < y.fDn.length) ↔ ¬ y.fDn = [] := by rw [← List.length_eq_zero_iff]; omega
 by_cases a1 : BQ y.Am = true
 ·rw [if_pos a1, a1]; by_cases a2 : y.fDn = []
  ·rw [if_pos (hz.2 a2)]; by_cases a3 : BF y.Ad = true
   ·rw [if_pos a3]; simp [a2, a3]
   ·rw [if_neg a3]; simp [a2, a3]
  ·rw [if_neg (fun e => a2 (hz.1 e))]; have hu : ¬ y.Am = [] := by
    intro e; rw [e] at a1; simp [BQ] at a1
   rw [if_neg hu]; simp [a2, hu]
 ·rw [if_neg a1]; by_cases a2 : y.Am = []
  ·rw [if_pos a2]; by_cases a3 : y.fDn = []
   ·rw [if_neg (fun e => hp.1 e a3)]; simp [a1, a3]
   ·rw [if_pos (hp.2 a3)]; by_cases a4 : Bt y.fDn = true
    ·rw [if_pos a4]; by_cases a5 : BF y.Ad = true
     ·rw [if_pos a5]; simp [a1, a2, a3, a4, a5]
     ·rw [if_neg a5]; simp [a5]
    ·rw [if_neg a4]; simp [a1, a4]
  ·rw [if_neg a2]; simp [a1, a2]
end Go.Idl
namespace Go.Idl
open Go
def okP (y : S33) : Prop := y.Ad.length ≤ 1000000 ∧ y.Am.length ≤ 1000000 ∧ Qw y.fDn ∧ DB y.A5
structure Inv (m : Mp) (n : Np) (pr : Option S33) (d : S35) : Prop where
  tabs : C9 (fun x : S39 => x.Ad) (fun x : S39 => x.Am) m n d.fL
  good : ∀ x ∈ d.fL, Cx x = true ∧ okX x
  len : d.fL.length ≤ 64
  pro : (pr = none ∧ d.fP = S33.zero) ∨ (pr = some d.fP ∧ A_ d.fP = true ∧ okP d.fP)
theorem Inv.nil : Inv [] [] none ⟨[], S33.zero⟩ := ⟨C9.nil, by simp, by simp, .inl ⟨rfl, rfl⟩⟩
variable {m : Mp} {n : Np} {pr : Option S33} {d : S35}
theorem Inv.shape (I : Inv m n pr d) (h : Str) : ((AY m h).getD S39.zero).A5.length = 8 := by
 cases e : AY m h with
 | none => rfl
 | some x => exact (I.good x ((I.tabs.mg h x).1 e).1).2.2.2.1
theorem Inv.big (I : Inv m n pr d) (h : Str) : DB ((AY m h).getD S39.zero).A5 := by
 cases e : AY m h with
 | none => exact ⟨rfl, by simp [S39.zero]⟩
 | some x => exact (I.good x ((I.tabs.mg h x).1 e).1).2.2.2
theorem Inv.dI (I : Inv m n pr d) (h : Str) : (AY m h).isSome = decide (0 ≤ Bz d.fL h) := by
 rcases Ej d.fL h with ⟨q, hk, e⟩ | ⟨q, e⟩
 ·rw [decide_eq_true q]; have := I.tabs.get (List.getElem_mem hk); rw [e] at this; rw [this]; rfl
 ·rw [q]; rw [(I.tabs.nothing (h := h)).2 e]; rfl
theorem Inv.ent (I : Inv m n pr d) (u : Str) : (AY n u).isSome = decide (0 ≤ H_ d.fL u) := by
 rcases Pb d.fL u with ⟨q, hk, e⟩ | ⟨q, e⟩
 ·rw [decide_eq_true q]; have := I.tabs.jt (List.getElem_mem hk); rw [e] at this; rw [this]; rfl
 ·rw [q]; rw [(I.tabs.Vo (u := u)).2 e]; rfl
theorem Inv.at_ (I : Inv m n pr d) {h : Str} (q : 0 ≤ Bz d.fL h) : ∃ hk : (Bz d.fL h).toNat < d.fL.length, AY m h = some d.fL[(Bz d.fL h).toNat] ∧ d.fL[(Bz d.fL h).toNat].Ad = h := by
 rcases Ej d.fL h with ⟨_, hk, e⟩ | ⟨q', _⟩
 ·have := I.tabs.get (List.getElem_mem hk); rw [e] at this; exact ⟨hk, this, e⟩
 ·omega
theorem QF (I : Inv m n pr d) : F14 m n pr = some d.fL := by
 have hl := I.len; have hm := I.tabs.len; have hk : ∀ p, p ∈ m → p.1.length ≤ 1000000 := fun p hp => by
  have : p.1 ∈ d.fL.map fun x : S39 => x.Ad := (I.tabs.keys p.1).1 (List.mem_map_of_mem hp); obtain ⟨x, hx, e⟩ := List.mem_map.1 this; rw [← e]; exact (I.good x hx).2.1
 unfold F14 F42 F43; rw [A9 ⟨by omega, hk⟩, I.tabs.sort]; simp only [Option.bind_some]; obtain ⟨r, h1, h2⟩ := Qr (step := fun (s : Int × List S39) => IL m (d.fL.map fun x : S39 => x.Ad) s.1 s.2) (Post := fun y => y = d.fL) d.fL.length (fun i a => a = d.fL.take i) (a := []) (by simp)
  (fun i a hi hI => by
    have hw := AS (i := i) (by omega)
    have hi' : i < (d.fL.map fun x : S39 => x.Ad).length := by simpa using hi
    have hx := List.getElem_mem hi
    simp only [IL]
    rw [if_pos (by simp; omega), A9 (by simp; omega), Int.toNat_natCast, getD_some hi', List.getElem_map, I.tabs.get hx]
    simp only [Option.getD_some]
    rw [JP _ (I.good _ hx).2.2.2]
    simp only [Option.bind_some]
    have hal : a.length ≤ 64 := by rw [hI]; simp; omega
    rw [A9 (I.good _ hx).2.2.2.1, A9 (by simp; omega), hw]
    exact .inl ⟨_, rfl, by rw [hI, List.take_succ_eq_append_getElem hi]⟩)
  (fun a hI => by
    simp only [IL]
    rw [if_neg (by simp)]
    exact ⟨_, rfl, by rw [hI, List.take_of_length_le (Nat.le_refl _)]⟩)
 rw [h1, h2]; rfl
theorem VS (y : S33) (h : okP y) : F52 y = some y := by
 unfold F52 F78 F58; rw [A9 h.2.2.2.1, A9 h.2.2.1.1, A9 h.2.2.2]; simp only [Option.bind_some]; rw [A9 h.2.2.2.1]
theorem RF {s : Str} (h : BF s = true) : ¬ s = [] := by
 rintro rfl
 simp [BF, HZ] at h
theorem Inv.prs (I : Inv m n pr d) : pr.isSome = decide (¬ d.fP.Ad = []) := by
 rcases I.pro with ⟨e1, e2⟩ | ⟨e1, e2, e3⟩
 ·rw [e1, e2]; rfl
 ·rw [e1]; have : BF d.fP.Ad = true := by
   simp only [A_, Bool.and_eq_true] at e2; exact e2.2.1
  simp [RF this]
theorem Inv.RG (I : Inv m n pr d) : okP d.fP := by
 rcases I.pro with ⟨_, e2⟩ | ⟨_, _, e3⟩
 ·rw [e2]; exact ⟨by simp [S33.zero], by simp [S33.zero], ⟨by simp [S33.zero], by simp [S33.zero]⟩, ⟨rfl, by simp [S33.zero]⟩⟩
 ·exact e3
theorem QG (I : Inv m n pr d) : F26 m n pr = some (d.fP, pr.isSome) := by
 unfold F26 F42; simp only [Option.bind_some]; rcases I.pro with ⟨e1, e2⟩ | ⟨e1, e2, e3⟩
 ·rw [e1, e2]; rfl
 ·rw [e1]; simp only [Option.isNone_some, Bool.false_eq_true, if_false, Option.isSome_some, Option.getD_some]; rw [A9 trivial, A9 e3.2.2.2.1, VS _ e3]; simp only [Option.bind_some]; rw [A9 e3.2.2.2.1]
theorem dJ (I : Inv m n pr d) : F34 m n pr = some (d.fL.length : Int) := by
 unfold F34 F42; simp only [Option.bind_some]; rw [I.tabs.len]
theorem dK (I : Inv m n pr d) (h : Str) : F21 m n pr h = some ((AY m h).getD S39.zero, (AY m h).isSome) := by
 unfold F21 F42; simp only [Option.bind_some]; rw [A9 (I.shape h), JP _ (I.big h)]; simp only [Option.bind_some]; rw [A9 (I.shape h)]
theorem dL (I : Inv m n pr d) (u : Str) : F18 m n pr u = some ((AY m ((AY n u).getD [])).getD S39.zero, (AY m ((AY n u).getD [])).isSome) := by
 unfold F18 F42; simp only [Option.bind_some]; rw [dK I]; simp only [Option.bind_some]; rw [A9 (I.shape _)]
theorem K6 (I : Inv m n pr d) (x : S39) (hx : okX x) : ∃ m' n', F29 m n pr x = some ((Gb d.fL x).2, m', n') ∧ Inv m' n' pr ⟨(Gb d.fL x).1, d.fP⟩ := by
 have hl := I.len; have hm := I.tabs.len; unfold F29 F42 F57 F56 Gb Cx; rw [A9 hx.2.2.1, Vi _ hx.1, Vg _ hx.2.1, A9 hx.2.2, A9 (I.shape _), I.dI, I.ent, JP _ hx.2.2]; simp only [Option.bind_some]; by_cases a1 : BF x.Ad = true
 ·rw [if_neg (c := ¬ BF x.Ad = true) (by simpa using a1)]; by_cases a2 : BQ x.Am = true
  ·rw [if_neg (c := ¬ BQ x.Am = true) (by simpa using a2)]; by_cases a3 : AH x.A5 = true
   ·rw [if_pos (c := AH x.A5 = true) a3, if_neg (c := ¬ (0 : Int) = 0) (by simp), if_pos (c := (BF x.Ad && BQ x.Am && AH x.A5) = true) (by simp [a1, a2, a3])]; by_cases a4 : 0 ≤ Bz d.fL x.Ad
    ·rw [if_pos a4, decide_eq_true a4]; exact ⟨m, n, by simp, I⟩
    ·rw [if_neg a4, decide_eq_false a4]; by_cases a5 : 0 ≤ H_ d.fL x.Am
     ·rw [if_pos a5, decide_eq_true a5]; exact ⟨m, n, by simp, I⟩
     ·rw [if_neg a5, decide_eq_false a5]; by_cases a6 : (64 : Int) ≤ d.fL.length
      ·rw [if_pos a6]; exact ⟨m, n, by simp [hm, a6], I⟩
      ·rw [if_neg a6]; refine ⟨AU m x.Ad x, AU n x.Am x.Ad, by simp [F49, A9 hx.2.2.1, hm]; omega, ?_⟩; have q1 : ∀ y ∈ d.fL, ¬ y.Ad = x.Ad := by
        rcases Ej d.fL x.Ad with ⟨q, _⟩ | ⟨_, q⟩
        ·exact absurd q a4
        ·exact q
       have q2 : ∀ y ∈ d.fL, ¬ y.Am = x.Am := by
        rcases Pb d.fL x.Am with ⟨q, _⟩ | ⟨_, q⟩
        ·exact absurd q a5
        ·exact q
       refine ⟨I.tabs.add q1 q2, fun y hy => ?_, by rw [Vp]; omega, I.pro⟩; rcases Dv.1 hy with e | e
       ·subst e; exact ⟨by simp [Cx, a1, a2, a3], hx⟩
       ·exact I.good y e
   ·rw [if_neg a3, if_pos (c := ¬ (2 : Int) = 0) (by simp), if_neg (c := (BF x.Ad && BQ x.Am && AH x.A5) = true) (by simp [a3])]; exact ⟨m, n, rfl, I⟩
  ·rw [if_pos a2, if_neg (c := (BF x.Ad && BQ x.Am && AH x.A5) = true) (by simp [a2])]; exact ⟨m, n, rfl, I⟩
 ·rw [if_pos a1, if_neg (c := (BF x.Ad && BQ x.Am && AH x.A5) = true) (by simp [a1])]; exact ⟨m, n, rfl, I⟩
theorem Ya (I : Inv m n pr d) (h : Str) (c : List (List Str)) (hc : DB c) : ∃ m' n', F30 m n pr h c = some ((QE d.fL h c).2, m', n') ∧ Inv m' n' pr ⟨(QE d.fL h c).1, d.fP⟩ := by
 unfold F30 F42 F56 F58 QE; rw [A9 hc.1, A9 hc, A9 (I.shape _), A9 hc, I.dI]; simp only [Option.bind_some]; by_cases a1 : AH c = true
 ·rw [if_pos (c := AH c = true) a1, if_neg (c := ¬ (0 : Int) = 0) (by simp), if_pos a1]; by_cases a2 : 0 ≤ Bz d.fL h
  ·rw [decide_eq_true a2, if_neg (by simp), if_neg (by omega)]; obtain ⟨hk, e1, e2⟩ := I.at_ a2; have hg := I.good _ (List.getElem_mem hk); rw [e1, getD_some hk]; simp only [Option.getD_some]; rw [A9 hc.1]; unfold F49; rw [A9 hc.1]; refine ⟨_, _, rfl, ?_⟩; refine ⟨I.tabs.set hk rfl rfl, fun y hy => ?_, by simp; exact I.len, I.pro⟩; rcases List.mem_or_eq_of_mem_set hy with q | q
   ·exact I.good y q
   ·subst q; refine ⟨?_, hg.2.1, hg.2.2.1, hc⟩; have := hg.1; simp only [Cx, Bool.and_eq_true] at this ⊢; exact ⟨this.1, a1⟩
  ·rw [decide_eq_false a2, if_pos (by simp), if_pos (by omega)]; exact ⟨m, n, rfl, I⟩
 ·rw [if_neg a1, if_pos (c := ¬ (2 : Int) = 0) (by simp), if_neg a1]; exact ⟨m, n, rfl, I⟩
theorem Yb (I : Inv m n pr d) (h : Str) : ∃ m' n', F32 m n pr h = some ((Lp d.fL h).2, m', n') ∧ Inv m' n' pr ⟨(Lp d.fL h).1, d.fP⟩ := by
 unfold F32 F42 Lp F59; rw [A9 (I.shape _), I.dI]; simp only [Option.bind_some]; by_cases a2 : 0 ≤ Bz d.fL h
 ·rw [decide_eq_true a2, if_neg (by simp), if_neg (by omega)]; obtain ⟨hk, e1, e2⟩ := I.at_ a2; rw [e1]; simp only [Option.getD_some]; refine ⟨_, _, rfl, ?_⟩; have ht := I.tabs.drop hk; rw [e2] at ht; refine ⟨ht, fun y hy => ?_, by have := I.len; simp; omega, I.pro⟩; rcases List.mem_append.1 hy with q | q
  ·exact I.good y (List.mem_of_mem_take q)
  ·exact I.good y (List.mem_of_mem_drop q)
 ·rw [decide_eq_false a2, if_pos (by simp), if_pos (by omega)]; exact ⟨m, n, rfl, I⟩
theorem RH (I : Inv m n pr d) (y : S33) (hy : okP y) : ∃ pr', F27 m n pr y = some (if A_ y = true then 0 else 2, pr') ∧ Inv m n pr' ⟨d.fL, if A_ y = true then y else d.fP⟩ := by
 have key : F27 m n pr y = some (if A_ y = true then (0, some y) else (2, pr)) := by
  have hz : ((y.fDn.length : Int) = 0) ↔ y.fDn = [] := by rw [← List.length_eq_zero_iff]; omega
  have hp : ((0 : Int) < y.fDn.length) ↔ ¬ y.fDn = [] := by rw [← List.length_eq_zero_iff]; omega
  unfold F27 F42 F56 A_; rw [A9 hy.2.2.2.1, Vg _ hy.2.1, Vi _ hy.1, A9 hy.2.2.2, Vr _ hy.2.2.1, VS _ hy]; simp only [Option.bind_some]; have hs : y.A5.length = 8 := hy.2.2.2.1; have hgd : ∀ {α : Type} (z : Option α), gd (y.A5.length = 8) z = z := fun z => A9 hs; simp only [hgd]; by_cases a1 : BQ y.Am = true
  ·have hu : ¬ y.Am = [] := by
    intro e; rw [e] at a1; simp [BQ] at a1
   by_cases a2 : y.fDn = []
   ·by_cases a3 : BF y.Ad = true <;> by_cases a4 : AH y.A5 = true <;> simp [a1, a2, a3, a4, hu]
   ·have q1 : ¬ ((y.fDn.length : Int) = 0) := fun e => a2 (hz.1 e); simp [a1, a2, q1, hu]
  ·by_cases a2 : y.Am = []
   ·by_cases a3 : y.fDn = []
    ·have hu0 : BQ [] = false := rfl; simp [a2, a3, hu0]
    ·have hu0 : BQ [] = false := rfl; have q1 := hp.2 a3; by_cases b1 : Bt y.fDn = true <;> by_cases b2 : BF y.Ad = true <;> by_cases b3 : AH y.A5 = true <;> simp [a2, a3, q1, b1, b2, b3, hu0]
   ·simp [a1, a2]
 rw [key]; by_cases h : A_ y = true
 ·exact ⟨some y, by simp [h], ⟨I.tabs, I.good, I.len, .inr (by simp only [h, if_true]; exact ⟨trivial, trivial, hy⟩)⟩⟩
 ·exact ⟨pr, by simp [h], by simp only [h]; exact I⟩
end Go.Idl
namespace Go.Idl
open Go
variable {m : Mp} {n : Np} {pr : Option S33} {d : S35}
theorem Pc : (⟨[], [], [], [[], [], [], [], [], [], [], []]⟩ : S33) = S33.zero := rfl
theorem Yc (I : Inv m n pr d) (a : S41) (ha : okA a) : ∃ m' n' pr', Inv m' n' pr' (CG d a).1 ∧ ∀ d0 : S35, d0.fL.length ≤ 1000 → (∀ x ∈ d0.fL, x.A5.length = 8) → d0.fP.A5.length = 8 →
    F13 m n pr d0 a = some ((CG d0 a).1, decide ((CG d a).2 = (CG d0 a).2), pr', m', n') := by
 have hp : okP (JH a) := ⟨ha.1.1, ha.1.2.1, ha.2, ha.1.2.2⟩; have h8 : a.Ai.A5.length = 8 := ha.1.2.2.1; by_cases k1 : a.Cu = 1
 ·obtain ⟨m', n', e, I'⟩ := K6 I a.Ai ha.1; refine ⟨m', n', pr, by simpa [CG, k1] using I', fun d0 hl hx hq => ?_⟩; unfold F13; rw [A9 hq, A9 h8, if_pos k1, dF _ _ (by omega) ha.1, e]; simp [CG, k1]
 by_cases k2 : a.Cu = 2
 ·obtain ⟨m', n', e, I'⟩ := Ya I a.Ai.Ad a.Ai.A5 ha.1.2.2; refine ⟨m', n', pr, by simpa [CG, k2] using I', fun d0 hl hx hq => ?_⟩; unfold F13; rw [A9 hq, A9 h8, if_neg k1, if_pos k2, dG _ _ _ (by omega) hx ha.1.2.2, e]; simp [CG, k2]
 by_cases k3 : a.Cu = 3
 ·obtain ⟨m', n', e, I'⟩ := Yb I a.Ai.Ad; refine ⟨m', n', pr, by simpa [CG, k3] using I', fun d0 hl hx hq => ?_⟩; unfold F13; rw [A9 hq, A9 h8, if_neg k1, if_neg k2, if_pos k3, Y9 _ _ (by omega), e]; simp [CG, k3]
 by_cases k4 : a.Cu = 4
 ·obtain ⟨pr', e, I'⟩ := RH I (JH a) hp; refine ⟨m, n, pr', ?_, fun d0 hl hx hq => ?_⟩
  ·by_cases hr : A_ (JH a) = true
   ·simpa [CG, k4, hr] using I'
   ·simpa [CG, k4, hr] using I'
  ·have e41 : F41 (JH a) = some (A_ (JH a)) := dH _ hp.1 hp.2.1 hp.2.2.1 hp.2.2.2; unfold JH at e e41; unfold F13; rw [A9 hq, A9 h8, if_neg k1, if_neg k2, if_neg k3, if_pos k4, e, e41]; simp only [Option.bind_some]; by_cases hr : A_ (JH a) = true
   ·have hr' := hr; unfold JH at hr'; simp [CG, k4, hr, hr', JH]
   ·have hr' := hr; unfold JH at hr'; simp [CG, k4, hr, hr']
 by_cases k5 : a.Cu = 5
 ·refine ⟨m, n, none, ?_, fun d0 hl hx hq => ?_⟩
  ·have : Inv m n none ⟨d.fL, S33.zero⟩ := ⟨I.tabs, I.good, I.len, .inl ⟨rfl, rfl⟩⟩; simpa [CG, k5] using this
  ·unfold F13; rw [A9 hq, A9 h8, if_neg k1, if_neg k2, if_neg k3, if_neg k4, if_pos k5]; simp [F28, F42, CG, k5, Pc]
 ·refine ⟨m, n, pr, by simpa [CG, k1, k2, k3, k4, k5] using I, fun d0 hl hx hq => ?_⟩; unfold F13; rw [A9 hq, A9 h8, if_neg k1, if_neg k2, if_neg k3, if_neg k4, if_neg k5]; simp [CG, k1, k2, k3, k4, k5]
theorem Inv.sh (I : Inv m n pr d) : ∀ x ∈ d.fL, x.A5.length = 8 := fun x hx => (I.good x hx).2.2.2.1
theorem Inv.dM (I : Inv m n pr d) : ∀ x ∈ d.fL, DB x.A5 := fun x hx => (I.good x hx).2.2.2
theorem Inv.psh (I : Inv m n pr d) : d.fP.A5.length = 8 := I.RG.2.2.2.1
theorem He {σ ρ α : Type} {step : α → σ → Option (σ ⊕ ρ)} (J : Nat → σ → Prop) : ∀ (l : List α) (k : Nat) (s : σ), J k s → (∀ (i : Nat) (h : i < l.length) (s : σ), J (k + i) s → ∃ s', step l[i] s = some (.inl s') ∧ J (k + i + 1) s') → ∃ s', GI step l s = some (.inl s') ∧ J (k + l.length) s'
  | [], k, s, h0, _ => ⟨s, rfl, h0⟩
  | a :: l, k, s, h0, h => by
    obtain ⟨s1, h1, h2⟩ := h 0 (by simp) s (by simpa using h0)
    obtain ⟨s2, h3, h4⟩ := He J l (k + 1) s1 (by simpa using h2) fun i hi s hs => by
      obtain ⟨s', q1, q2⟩ := h (i + 1) (by simpa using hi) s (by rw [show k + (i + 1) = k + 1 + i by omega]; exact hs)
      exact ⟨s', by simpa using q1, by rw [show k + 1 + i + 1 = k + (i + 1) + 1 by omega]; exact q2⟩
    have h1' : step a s = some (.inl s1) := by simpa using h1
    refine ⟨s2, ?_, by rw [List.length_cons, show k + (l.length + 1) = k + 1 + l.length by omega]; exact h4⟩
    rw [Fg, h1']
    simpa using h3
theorem Pd {α : Type} {l : List α} {i : Nat} (h : i < (DN l).length) : (DN l)[i] = ((i : Int), l[i]'(by rwa [BU] at h)) := by
 have h' : i < l.length := by rwa [BU] at h
 have := Mh h'; rw [List.getElem?_eq_getElem h] at this; exact Option.some.inj this
theorem dN (I : Inv m n pr d) : F20 m n pr d = some true := by
 have hl := I.len; unfold F20; rw [A9 I.psh, QF I, QG I, dJ I]; simp only [Option.bind_some]; rw [A9 I.psh, if_neg (by rw [I.prs]; simp), bW _ _ I.psh I.psh I.RG.2.2.1.1]; simp only [Option.bind_some, decide_true]; rw [if_neg (by simp), if_neg (by simp), A9 I.dM]; obtain ⟨s', h1, h2⟩ := He (step := fun (el26 : Int × S39) (s : Bool × Int) => HU d el26 s.1 s.2) (fun k s => s.2 = (k : Int)) (DN d.fL) 0 (false, 0) rfl
  (fun i hi s hs => by
    have hi' : i < d.fL.length := by rwa [BU] at hi
    have hw := AS (i := i) (by omega)
    have hx := I.sh _ (List.getElem_mem hi')
    rw [Nat.zero_add] at hs
    rw [Pd hi]
    simp only [HU, hs]
    rw [A9 hx, if_neg (by simp), if_neg (by omega), A9 (by omega), Int.toNat_natCast, getD_some hi', A9 hx, bV _ _ hx hx]
    simp only [Option.bind_some, decide_true]
    rw [if_neg (by simp), hw]
    exact ⟨_, rfl, by simp⟩)
 unfold Fh; rw [h1]; simp only [Option.map_some, Sum.elim_inl, Option.bind_some, JY]; rw [h2, BU]; simp
def VT (a : S41) : Prop := a.Ai.A5.length = 8 ∧ a.Ai.Ad.length ≤ 1000000000000000 ∧ a.Ai.Am.length ≤ 1000000000000000 ∧ ∀ x ∈ a.fDn, x.fType.length ≤ 1000000000000000 ∧ x.Aa.length ≤ 1000000000000000
def dnA (x : S89) : Bool := decide (x.fType.length + x.Aa.length ≤ 400)
def Lq (l : List Str) : Bool := decide (l.length ≤ 20) && l.all fun s => decide (s.length ≤ 300)
def QH (a : S41) : Bool := decide (a.Ai.Ad.length + a.Ai.Am.length ≤ 400) && decide (a.fDn.length ≤ 20) && a.fDn.all dnA && a.Ai.A5.all Lq
theorem Yd {a : S41} (h : QH a = true) (h8 : a.Ai.A5.length = 8) : okA a := by
 simp only [QH, Bool.and_eq_true, decide_eq_true_eq, List.all_eq_true, dnA, Lq] at h; obtain ⟨⟨⟨h1, h2⟩, h3⟩, h4⟩ := h; refine ⟨⟨by omega, by omega, h8, fun l hl => ⟨by have := (h4 l hl).1; omega, fun s hs => by have := (h4 l hl).2 s hs; omega⟩⟩, by omega, fun x hx => by have := h3 x hx; omega⟩
theorem dO (l : List S41) (most : Int) (hm : most ≤ 1000) (h : ∀ a ∈ l, VT a) : F10 l most = some (decide ((l.length : Int) ≤ most) && l.all QH) := by
 unfold F10; by_cases h0 : most < (l.length : Int)
 ·rw [if_pos h0, decide_eq_false (by omega)]; rfl
 ·rw [if_neg h0, decide_eq_true (by omega), BP l QH (by omega)
    (fun i hi => by
      obtain ⟨h8, m1, m2, m3⟩ := h _ (List.getElem_mem hi)
      have hg : l.getD i S41.zero = l[i] := getD_some hi _
      have hw : IntKind.i64.wrap ((l[i].Ai.Ad.length : Int) + (l[i].Ai.Am.length : Int)) = (l[i].Ai.Ad.length : Int) + (l[i].Ai.Am.length : Int) := wrap_i64 (by omega) (by omega)
      simp only [L0, Int.toNat_natCast, hg]
      rw [if_pos (by omega), A9 (by omega), A9 h8, hw]
      unfold QH
      by_cases a1 : (400 : Int) < (l[i].Ai.Ad.length : Int) + (l[i].Ai.Am.length : Int)
      · rw [if_pos a1, decide_eq_false (p := _ + _ ≤ 400) (by omega)]; simp
      · rw [if_neg a1, decide_eq_true (p := _ + _ ≤ 400) (by omega)]
        by_cases a2 : (20 : Int) < l[i].fDn.length
        · rw [if_pos a2, decide_eq_false (p := l[i].fDn.length ≤ 20) (by omega)]; simp
        · rw [if_neg a2, decide_eq_true (p := l[i].fDn.length ≤ 20) (by omega), BP l[i].fDn dnA (by omega)
            (fun j hj => by
              have hgj : l[i].fDn.getD j S89.zero = l[i].fDn[j] := getD_some hj _
              obtain ⟨q1, q2⟩ := m3 _ (List.getElem_mem hj)
              have hwj : IntKind.i64.wrap ((l[i].fDn[j].fType.length : Int) + (l[i].fDn[j].Aa.length : Int)) = (l[i].fDn[j].fType.length : Int) + (l[i].fDn[j].Aa.length : Int) := wrap_i64 (by omega) (by omega)
              simp only [HQ, Int.toNat_natCast, hg, hgj]
              rw [if_pos (by omega), A9 (by omega), hwj]
              unfold dnA
              by_cases b1 : (400 : Int) < (l[i].fDn[j].fType.length : Int) + (l[i].fDn[j].Aa.length : Int)
              · rw [if_pos b1, decide_eq_false (by omega)]; simp
              · rw [if_neg b1, decide_eq_true (by omega)]; simp)
            (by simp only [HQ, Int.toNat_natCast, hg]; rw [if_neg (by omega)])]
          by_cases a3 : l[i].fDn.all dnA = true
          · rw [if_pos a3, a3]
            simp only [Option.bind_some, Sum.elim_inl, JT]
            rw [BP l[i].Ai.A5 Lq (by omega)
              (fun j hj => by
                have hgj : l[i].Ai.A5.getD j [] = l[i].Ai.A5[j] := getD_some hj _
                simp only [HP, Int.toNat_natCast, hg, hgj]
                rw [if_pos (by omega), A9 (by omega)]
                unfold Lq
                generalize hv : l[i].Ai.A5[j] = v at *
                by_cases b1 : (20 : Int) < v.length
                · rw [if_pos b1, decide_eq_false (p := v.length ≤ 20) (by omega)]; simp
                · rw [if_neg b1, decide_eq_true (p := v.length ≤ 20) (by omega), BP v (fun s => decide (s.length ≤ 300)) (by omega)
                    (fun q hq => by
                      have hgq : v.getD q [] = v[q] := getD_some hq _
                      simp only [HN, Int.toNat_natCast, hg, hgj, hgq]
                      rw [if_pos (by omega), A9 (by omega)]
                      by_cases c1 : (300 : Int) < v[q].length
                      · rw [if_pos c1, decide_eq_false (by omega)]; simp
                      · rw [if_neg c1, decide_eq_true (by omega)]; simp)
                    (by simp only [HN, Int.toNat_natCast, hg, hgj]; rw [if_neg (by omega)])]
                  by_cases b2 : (v.all fun s => decide (s.length ≤ 300)) = true
                  · simp [b2, JS]
                  · rw [if_neg b2, Bool.eq_false_iff.2 b2]; simp)
              (by simp only [HP]; rw [if_neg (by omega)])]
            by_cases a4 : l[i].Ai.A5.all Lq = true
            · simp [a4, JR]
            · rw [if_neg a4, Bool.eq_false_iff.2 a4]; simp
          · rw [if_neg a3, Bool.eq_false_iff.2 a3]; simp)
    (by simp only [L0]; rw [if_neg (by omega)])]
  by_cases h1 : l.all QH = true
  ·simp [h1, No]
  ·rw [if_neg h1, Bool.eq_false_iff.2 h1]; simp
end Go.Idl
namespace Go.Idl
open Go
variable {m : Mp} {n : Np} {pr : Option S33} {d : S35}
def Gc : List (List Str) := [[[65, 110, 110]], [], [], [], [], [], [], []]
def CA : S39 := ⟨[47, 98, 111, 111, 107, 47, 97], [117, 49], Gc⟩
def QI : S39 := ⟨[47, 98, 111, 111, 107, 47, 98], [117, 49], Gc⟩
theorem jG : DB Gc := by decide
theorem nN : okX CA := ⟨by decide, by decide, jG⟩
theorem nO : okX QI := ⟨by decide, by decide, jG⟩
theorem VU : AH Gc = true := by decide
theorem nP : Gb [] CA = ([CA], 0) := by
 have h : Cx CA = true := by decide
 unfold Gb; rw [if_pos h]; rfl
theorem nQ : Gb [CA] QI = ([CA], 300) := by
 have h : Cx QI = true := by decide
 have e1 : Bz [CA] QI.Ad = -1 := by decide
 have e2 : H_ [CA] QI.Am = 0 := by decide
 unfold Gb; rw [if_pos h, e1, e2]; rfl
theorem Z6 : BO Gc = [102, 117, 108, 108, 32, 49, 10, 51, 32, 65, 110, 110, 10] := by
 have d1 : Lib.decDigits 1 = [49] := by unfold Lib.decDigits; rfl
 have d3 : Lib.decDigits 3 = [51] := by unfold Lib.decDigits; rfl
 have e : BO Gc = (Da.getD 0 [] ++ 32 :: Lib.decDigits 1 ++ [10]) ++ (Lib.decDigits 3 ++ 32 :: [65, 110, 110] ++ [10]) := by
  simp [BO, IG, Gc]
 rw [e, d1, d3]; rfl
theorem VV : F11 = some true := by
 obtain ⟨m1, n1, e1, I1⟩ := K6 Inv.nil CA nN; rw [show (⟨[], S33.zero⟩ : S35).fL = [] from rfl, nP] at e1 I1; obtain ⟨m2, n2, e2, I2⟩ := K6 I1 QI nO; rw [show (⟨[CA], S33.zero⟩ : S35).fL = [CA] from rfl, nQ] at e2 I2; have h31 : F31 = some Gc := rfl; have h8 : Gc.length = 8 := rfl; have g1 : AY n2 [117, 49] = some CA.Ad := I2.tabs.jt (x := CA) (by simp); have g2 : AY m2 CA.Ad = some CA := I2.tabs.get (x := CA) (by simp); have h18 : F18 m2 n2 none [117, 49] = some (CA, true) := by
  rw [dL I2, g1]; simp only [Option.getD_some]; rw [g2]; rfl
 have h61 : F61 Gc = some (BO Gc, 0) := by
  unfold F61; rw [A9 (by decide), if_pos VU, if_pos VU]
 have h33 : F33 m2 n2 none = some [(⟨[112] ++ CA.Ad, (CA.Am ++ [10]) ++ BO Gc⟩ : S78)] := by
  unfold F33; rw [QG I2]; simp only [Option.bind_some, Option.isSome_none, Bool.false_eq_true, if_false]; rw [A9 I2.psh]; unfold GM; rw [QF I2]; simp only [Option.bind_some]; rw [A9 I2.dM]; unfold Fh; have hen : DN [CA] = [((0 : Int), CA)] := rfl; rw [hen, Fg]; have hs : GL ((0 : Int), CA) [] = some (.inl [(⟨[112] ++ CA.Ad, (CA.Am ++ [10]) ++ BO Gc⟩ : S78)]) := by
   unfold GL; rw [A9 (show ((0 : Int), CA).2.A5.length = 8 from rfl), show ((0 : Int), CA).2.A5 = Gc from rfl, h61]; simp only [Option.bind_some]; rw [Z6]; rw [A9 (by decide), A9 (by decide), A9 (by decide), A9 (by decide)]; rfl
  rw [hs]; rfl
 unfold F11; rw [show F12 = some ([], [], none) from rfl, h31]; simp only [Option.bind_some]; rw [A9 h8, show (⟨[47, 98, 111, 111, 107, 47, 97], [117, 49], Gc⟩ : S39) = CA from rfl, e1]; simp only [Option.bind_some]; rw [A9 h8, show (⟨[47, 98, 111, 111, 107, 47, 98], [117, 49], Gc⟩ : S39) = QI from rfl, e2]; simp only [Option.bind_some]; rw [h18]; simp only [Option.bind_some]; rw [A9 (show CA.A5.length = 8 from rfl), h33, Z6]; rfl
end Go.Idl
namespace Go.Idl
open Go
variable {m : Mp} {n : Np} {pr : Option S33} {d : S35}
end Go.Idl
namespace Go.Idl
open Go Go.Lib
variable {m : Mp} {n : Np} {pr : Option S33} {d : S35}
def Co (x : S39) : S78 := ⟨[112] ++ x.Ad, (x.Am ++ [10]) ++ BO x.A5⟩
def Gd (y : S33) : S78 := ⟨[105], Lib.join [y.Ad, y.Am, Bq y.fDn, BO y.A5] [10]⟩
def D8 (d : S35) : List S78 := (if d.fP.Ad = [] then [] else [Gd d.fP]) ++ d.fL.map Co
theorem Pe (a b c e : Str) : Lib.join [a, b, c, e] [10] = a ++ 10 :: (b ++ 10 :: (c ++ 10 :: e)) := by
 simp [Lib.join, List.intercalate, List.intersperse]
theorem Dz {y : S33} (h : A_ y = true) : Bt y.fDn = true := by
 simp only [A_, Bool.and_eq_true, Bool.or_eq_true, decide_eq_true_eq] at h; rcases h.1 with h1 | h1
 ·rw [h1.2]; rfl
 ·exact h1.2.2
theorem Dk {d : List S89} (h : Bt d = true) : ∀ x ∈ d, B_ x = true := by
 simp only [Bt, Bool.and_eq_true, List.all_eq_true] at h; exact h.2
theorem Td {s : Str} (h : BF s = true) : (10 : UInt8) ∉ s := by
 intro hm; simp only [BF, Jx, Bool.and_eq_true, decide_eq_true_eq, List.all_eq_true] at h; rw [← List.take_append_drop 6 s, List.mem_append] at hm; rcases hm with hm | hm
 ·rw [h.1] at hm; simp [HZ] at hm
 ·have := h.2.1 _ hm; simp [Du] at this
theorem G4 {s : Str} (h : BQ s = true) : (10 : UInt8) ∉ s := by
 intro hm; simp only [BQ, Bool.and_eq_true, List.all_eq_true] at h; have := h.1 _ hm; simp [Jw] at this
theorem BH {y : S33} (h : A_ y = true) : (10 : UInt8) ∉ y.Ad ∧ (10 : UInt8) ∉ y.Am ∧ AH y.A5 = true := by
 have h' := h; simp only [A_, Bool.and_eq_true, Bool.or_eq_true, decide_eq_true_eq] at h'; refine ⟨Td h'.2.1, ?_, h'.2.2⟩; rcases h'.1 with h1 | h1
 ·exact G4 h1.1
 ·rw [h1.1]; simp
theorem VW {y y' : S33} (h : A_ y = true) (h' : A_ y' = true) (h8 : y.A5.length = 8) (h8' : y'.A5.length = 8) (e : Gd y = Gd y') : y = y' := by
 obtain ⟨a1, a2, a3⟩ := BH h; obtain ⟨b1, b2, b3⟩ := BH h'; have q1 := Dk (Dz h); have q2 := Dk (Dz h'); simp only [Gd, S78.mk.injEq, true_and, Pe] at e; obtain ⟨e1, e⟩ := G1 a1 b1 e; obtain ⟨e2, e⟩ := G1 a2 b2 e; obtain ⟨e3, e⟩ := G1 (EG q1) (EG q2) e; have e4 := Mr q1 q2 e3; have e5 := Mq h8 h8' a3 b3 e; cases y; cases y'; simp only at e1 e2 e4 e5; rw [e1, e2, e4, e5]
theorem VX {x x' : S39} (h : Cx x = true) (h' : Cx x' = true) (h8 : x.A5.length = 8) (h8' : x'.A5.length = 8) (e : Co x = Co x') : x = x' := by
 simp only [Cx, Bool.and_eq_true] at h h'; simp only [Co, S78.mk.injEq, List.append_assoc, List.cons_append, List.nil_append, List.cons.injEq, true_and] at e; obtain ⟨e2, e3⟩ := G1 (G4 h.1.2) (G4 h'.1.2) e.2; have e4 := Mq h8 h8' h.2 h'.2 e3; have e1 := e.1; cases x; cases x'; simp only at e1 e2 e4; rw [e1, e2, e4]
theorem VY {l l' : List S39} (h : ∀ x ∈ l, Cx x = true ∧ okX x) (h' : ∀ x ∈ l', Cx x = true ∧ okX x) (e : l.map Co = l'.map Co) : l = l' := by
 induction l generalizing l' with
 | nil => cases l' with
  | nil => rfl
  | cons a b => simp at e
 | cons a l ih => cases l' with
  | nil => simp at e
  | cons b l' =>
   simp only [List.map_cons, List.cons.injEq] at e; have q := h a (by simp); have q' := h' b (by simp); rw [VX q.1 q'.1 q.2.2.2.1 q'.2.2.2.1 e.1, ih (fun x hx => h x (by simp [hx])) (fun x hx => h' x (by simp [hx])) e.2]
theorem RI {y : S33} {l : List S39} {l' : List S78} : ¬ Gd y :: l' = l.map Co := by
 intro e; cases l with
 | nil => simp at e
 | cons a b =>
  simp only [List.map_cons, List.cons.injEq, Gd, Co, S78.mk.injEq] at e; have := e.1.1; simp at this
theorem Inv.Mx (I : Inv m n pr d) : (d.fP.Ad = [] ∧ pr = none ∧ d.fP = S33.zero) ∨ (¬ d.fP.Ad = [] ∧ pr = some d.fP ∧ A_ d.fP = true) := by
 rcases I.pro with ⟨e1, e2⟩ | ⟨e1, e2, e3⟩
 ·exact .inl ⟨by rw [e2]; rfl, e1, e2⟩
 ·have : BF d.fP.Ad = true := by
   simp only [A_, Bool.and_eq_true] at e2; exact e2.2.1
  exact .inr ⟨RF this, e1, e2⟩
theorem Te {m' : Mp} {n' : Np} {pr' : Option S33} {d' : S35} (I : Inv m n pr d) (I' : Inv m' n' pr' d') : D8 d = D8 d' ↔ d = d' := by
 refine ⟨fun e => ?_, fun e => by rw [e]⟩; unfold D8 at e; have fin : d.fP = d'.fP → d.fL.map Co = d'.fL.map Co → d = d' := fun e1 e2 => by
  have e3 := VY I.good I'.good e2; cases d; cases d'; simp only at e1 e3; rw [e1, e3]
 rcases I.Mx with ⟨a1, _, a3⟩ | ⟨a1, _, a3⟩ <;> rcases I'.Mx with ⟨b1, _, b3⟩ | ⟨b1, _, b3⟩
 ·rw [if_pos a1, if_pos b1, List.nil_append, List.nil_append] at e; exact fin (by rw [a3, b3]) e
 ·rw [if_pos a1, if_neg b1, List.nil_append] at e; exact absurd e.symm RI
 ·rw [if_neg a1, if_pos b1, List.nil_append] at e; exact absurd e RI
 ·rw [if_neg a1, if_neg b1] at e; simp only [List.cons_append, List.nil_append, List.cons.injEq] at e; exact fin (VW a3 b3 I.psh I'.psh e.1) e.2
theorem Lr {x : S39} (h : Cx x = true ∧ okX x) : F61 x.A5 = some (BO x.A5, 0) ∧ (BO x.A5).length ≤ 100000 := by
 have hc : AH x.A5 = true := by
  have := h.1; simp only [Cx, Bool.and_eq_true] at this; exact this.2
 have h8 := h.2.2.2.1; refine ⟨?_, Eh _ h8 hc⟩; unfold F61; rw [A9 (EF h8 hc), if_pos hc, if_pos hc]
theorem Pf (I : Inv m n pr d) (l : List S78) (hl : l.length ≤ 1) : GM m n pr l = some (l ++ d.fL.map Co) := by
 have h64 := I.len; unfold GM; rw [QF I]; simp only [Option.bind_some]; rw [A9 I.dM]; obtain ⟨s', h1, h2⟩ := He (ρ := List S78) (step := fun (el12 : Int × S39) (s : List S78) => GL el12 s) (fun k s => s = l ++ (d.fL.take k).map Co) (DN d.fL) 0 l (by simp)
  (fun i hi s hs => by
    have hi' : i < d.fL.length := by rwa [BU] at hi
    have hg := I.good _ (List.getElem_mem hi')
    have hx := I.sh _ (List.getElem_mem hi')
    obtain ⟨t1, t2⟩ := Lr hg
    have o1 := hg.2.1
    have o2 := hg.2.2.1
    have hsl : s.length ≤ 100 := by rw [hs]; simp; omega
    rw [Pd hi]
    simp only [GL]
    rw [A9 hx, t1]
    simp only [Option.bind_some]
    rw [A9 (by simp; omega), A9 (by simp; omega), A9 (by simp; omega), A9 (by simp; omega)]
    refine ⟨_, rfl, ?_⟩
    rw [hs, Nat.zero_add, List.take_succ_eq_append_getElem hi', List.map_append, List.append_assoc]
    rfl)
 unfold Fh; rw [h1]; simp only [Option.map_some, Sum.elim_inl, Option.bind_some, Nn]; rw [h2, Nat.zero_add, BU, List.take_of_length_le (Nat.le_refl _)]
theorem QJ (I : Inv m n pr d) : F33 m n pr = some (D8 d) := by
 unfold F33 D8; rw [QG I, I.prs]; simp only [Option.bind_some]; rw [A9 I.psh]; rcases I.Mx with ⟨a1, _, _⟩ | ⟨a1, _, a3⟩
 ·rw [if_pos a1, if_neg (by simpa using a1), Pf I [] (by simp)]
 ·obtain ⟨p1, p2, p3⟩ := BH a3; have hd := Dz a3; have h8 := I.psh; have hb := I.RG; have t := Eh _ h8 p3; have hd16 : d.fP.fDn.length ≤ 16 := by
   simp only [Bt, Bool.and_eq_true, decide_eq_true_eq] at hd; exact hd.1
  have td := G2 (Dk hd); have e61 : F61 d.fP.A5 = some (BO d.fP.A5, 0) := by
   unfold F61; rw [A9 (EF h8 p3), if_pos p3, if_pos p3]
  have o1 := hb.1; have o2 := hb.2.1; rw [if_neg a1, if_pos (by simpa using a1), QC _ hd, e61]; simp only [Option.bind_some]; have e62 : F62 [d.fP.Ad, d.fP.Am, Bq d.fP.fDn, BO d.fP.A5] [10] = some (Gd d.fP).Aa := by
   unfold F62; refine A9 ⟨by simp, ?_⟩; rw [Pe]; simp only [List.length_append, List.length_cons]; omega
  rw [e62]; simp only [Option.bind_some]; rw [A9 (by simp), Pf I _ (by simp)]; rfl
theorem dP (a b : List S78) (hl : a.length ≤ 1000000) : F50 a b = some (decide (a = b)) := by
 unfold F50; by_cases h : a.length = b.length
 ·rw [if_neg (by omega), BP (a.zip b) (fun p => decide (p.1 = p.2)) (by simp; omega)
    (fun i hi => by
      have hi1 : i < a.length := by simp at hi; omega
      have hi2 : i < b.length := by simp at hi; omega
      simp only [L8]
      rw [if_pos (by omega), A9 (by omega), A9 (by omega), Int.toNat_natCast, getD_some hi1, getD_some hi2, List.getElem_zip]
      have e : (a[i].Bb = b[i].Bb ∧ a[i].Aa = b[i].Aa) ↔ a[i] = b[i] := by
        generalize a[i] = x
        generalize b[i] = y
        cases x; cases y
        simp
      simp only [e, decide_eq_true_eq]
      by_cases q : a[i] = b[i]
      · rw [if_neg (by simpa using q), if_pos q]
      · rw [if_pos q, if_neg q])
    (by simp only [L8]; rw [if_neg (by simp; omega)])]
  have key : (a.zip b).all (fun p => decide (p.1 = p.2)) = decide (a = b) := by
   clear hl
   induction a generalizing b with
   | nil => cases b with
    | nil => rfl
    | cons x y => simp at h
   | cons x a ih => cases b with
    | nil => simp at h
    | cons y b =>
     simp only [List.zip_cons_cons, List.all_cons]; rw [ih b (by simpa using h)]; by_cases q : x = y <;> simp [q]
  rw [key]; by_cases q : a = b
  ·simp [q, Nz]
  ·simp [q]
 ·rw [if_pos (by omega), decide_eq_false (by rintro rfl; exact h rfl)]
theorem dQ {m' : Mp} {n' : Np} {pr' : Option S33} {d' : S35} (I : Inv m n pr d) (I' : Inv m' n' pr' d') : F23 m n pr m' n' pr' = some (decide (d = d')) := by
 unfold F23 F42; simp only [Option.bind_some]; rw [QJ I, QJ I']; have h64 := I.len; simp only [Option.bind_some]
 rw [dP _ _ (by
   unfold D8
   split <;> simp <;> omega)]
 simp only [Option.bind_some]; rw [decide_eq_decide.2 (Te I I')]
theorem jH (l : List S41) (hl : l.length ≤ 1000) (h : ∀ a ∈ l, okA a) {step : Int × (Option S33) × Mp × Np × S35 → Option ((Int × (Option S33) × Mp × Np × S35) ⊕ ((Option S33) × Mp × Np × S35))}
    (hs : ∀ s, step s = if s.1 < (l.length : Int) then (gd (s.2.2.2.2.fP.A5.length = 8) (gd (0 ≤ s.1 ∧ s.1 < l.length) (gd ((((l.getD s.1.toNat S41.zero).Ai).A5).length = 8) ((F13 s.2.2.1 s.2.2.2.1 s.2.1 s.2.2.2.2 (l.getD s.1.toNat S41.zero)).bind fun (x66 : S35 × Bool × (Option S33) × (List (List UInt8 × S39)) × (List (List UInt8 × (List UInt8)))) => gd (x66.1.fP.A5.length = 8) (some (.inl ((IntKind.i64.wrap (s.1 + 1), x66.2.2.1, x66.2.2.2.1, x66.2.2.2.2, x66.1)))))))) else (some (.inr (s.2.1, s.2.2.1, s.2.2.2.1, s.2.2.2.2))))
    (I0 : Inv m n pr d) : ∃ m' n' pr' d', AE step (0, pr, m, n, d) = some (pr', m', n', d') ∧ Inv m' n' pr' d' := by
 obtain ⟨r, h1, h2⟩ := Eb (step := step) (Post := fun y => ∃ m n pr d, y = (pr, m, n, d) ∧ Inv m n pr d)
  (fun s => ∃ i : Nat, i ≤ l.length ∧ s.1 = (i : Int) ∧ Inv s.2.2.1 s.2.2.2.1 s.2.1 s.2.2.2.2) (fun s => l.length - s.1.toNat)
  (by
    rintro ⟨k, pr, m, n, d⟩ ⟨i, hi, hk, I⟩
    simp only at hk I
    subst hk
    rw [hs]
    simp only
    by_cases hlt : i < l.length
    · have hw := AS (i := i) (by omega)
      have hl64 := I.len
      obtain ⟨m', n', pr', I', hf⟩ := Yc I l[i] (h _ (List.getElem_mem _))
      left
      rw [if_pos (by omega), A9 I.psh, A9 (by omega), Int.toNat_natCast, getD_some hlt, A9 (h _ (List.getElem_mem hlt)).1.2.2.1, hf d (by omega) I.sh I.psh]
      simp only [Option.bind_some]
      rw [A9 I'.psh, hw]
      exact ⟨_, rfl, ⟨i + 1, by omega, rfl, I'⟩, by simp; omega⟩
    · right
      rw [if_neg (by omega)]
      exact ⟨_, rfl, _, _, _, _, rfl, I⟩)
  (s := (0, pr, m, n, d)) ⟨0, by omega, rfl, I0⟩
 obtain ⟨m, n, pr, d, rfl, I⟩ := h2; exact ⟨m, n, pr, d, h1, I⟩
end Go.Idl
namespace Go.Idl
open Go Go.Proofs.Tryz Go.Lib
set_option pp.deepTerms false
theorem Ye : ∀ (f k : Nat) (s : Str) (c d : List (List Str)), E2 f k s c = some d → (∀ l, l ∈ c → l.length ≤ 1000000) → d.length = c.length ∧ ∀ l, l ∈ d → l.length ≤ 1000000 := by
 intro f
 induction f with
 | zero => intro k s c d h hc; unfold E2 at h; split at h <;> cases h; exact ⟨rfl, hc⟩
 | succ f ih =>
  intro k s c d h hc; unfold E2 at h; split at h
  ·cases h; exact ⟨rfl, hc⟩
  ·obtain ⟨p, h1, h⟩ := Option.bind_eq_some_iff.1 h; split at h
   ·cases h
   ·have hp : p.2.1.length ≤ 1000000 := by
     obtain ⟨q1, _, h1⟩ := Option.bind_eq_some_iff.1 h1; obtain ⟨q2, _, h1⟩ := Option.bind_eq_some_iff.1 h1; obtain ⟨i, _, h1⟩ := Option.bind_eq_some_iff.1 h1; obtain ⟨n, hn, h1⟩ := Option.bind_eq_some_iff.1 h1; obtain ⟨r, hr, rfl⟩ := Option.map_eq_some_iff.1 h1; have := (Cj.1 hn).2.1; have := (SN hr).2; simp only; omega
    obtain ⟨q1, q2⟩ := ih _ _ _ _ h (fun l hl => by
      rcases List.mem_or_eq_of_mem_set hl with hl | rfl
      · exact hc l hl
      · exact hp)
    exact ⟨by simpa using q1, q2⟩
theorem Tf (s : Str) (hs : s.length ≤ 4294967280) : ∀ (k i : Nat), i + k = s.length → AE (fun v => K3 s v) (i : Int) = some (match B7 (s.drop i) 10 with | some p => .inr (s.take i ++ p.1, p.2, true) | none => .inl ())
  | 0, i, h => by
    rw [List.drop_of_length_le (by omega)]
    refine AG ?_
    simp only [K3]
    rw [if_neg (by omega)]
    rfl
  | k + 1, i, h => by
    have hi : i < s.length := by omega
    have hg : s.getD i 0 = s[i] := by rw [List.getD_eq_getElem?_getD, List.getElem?_eq_getElem hi]; rfl
    have hw : IntKind.i64.wrap ((i : Int) + 1) = ((i + 1 : Nat) : Int) := AS (by omega)
    rw [List.drop_eq_getElem_cons hi]
    unfold B7
    by_cases hc : s[i] = 10
    · rw [if_pos hc]
      refine AG ?_
      simp only [K3]
      rw [if_pos (by omega), A9 (by omega), Int.toNat_natCast, hg, if_pos (Qy.2 hc), A9 (by omega), A9 (by omega), hw, A9 (by omega), A9 (by omega), Int.toNat_natCast]
      simp
    · rw [if_neg hc]
      rw [AZ (s' := ((i + 1 : Nat) : Int)), Tf s hs k (i + 1) (by omega)]
      · cases B7 (s.drop (i + 1)) 10 with
        | none => rfl
        | some p =>
          simp only [Option.map_some]
          rw [List.take_succ_eq_append_getElem hi]
          simp only [List.append_assoc, List.singleton_append]
      · simp only [K3]
        rw [if_pos (by omega), A9 (by omega), Int.toNat_natCast, hg, if_neg (fun e => hc (Qy.1 e)), hw]
theorem Cf {s : Str} {p : Str × Str} (h : B7 s 10 = some p) : p.1.length + p.2.length + 1 = s.length := by
 obtain ⟨h1, _⟩ := Bf.1 (show B7 s 10 = some (p.1, p.2) from h); rw [h1]; simp; omega
theorem EH (k : Nat) (s : Str) : splitK [10] 0 (k + 1) s = match B7 s 10 with | some p => p.1 :: splitK [10] 0 k p.2 | none => [s] := by
 rw [splitK, index_one]; cases h : B7 s 10 with
 | none => simp
 | some p =>
  obtain ⟨h1, _⟩ := Bf.1 (show B7 s 10 = some (p.1, p.2) from h); simp only; rw [if_neg (by simp)]; simp [h1]
def FF (s : Str) : Option (Str × Str × Str × Str) := (B7 s 10).bind fun a => (B7 a.2 10).bind fun b => (B7 b.2 10).map fun c => (a.1, b.1, c.1, c.2)
theorem VZ (s : Str) : (∃ a b c e, FF s = some (a, b, c, e) ∧ splitN s [10] 4 = [a, b, c, e]) ∨ (FF s = none ∧ (splitN s [10] 4).length < 4) := by
 have short : ∀ (k : Nat) (s : Str), (splitK [10] 0 k s).length ≤ k + 1 := by
  intro k
  induction k with
  | zero => intro s; simp [splitK]
  | succ k ih =>
   intro s; rw [EH]; cases B7 s 10 with
   | none => simp
   | some p => have := ih p.2; simp; omega
 unfold splitN FF; by_cases hl : s.length < 3
 ·right; have : min 4 (s.length + 1) - 1 ≤ 2 := by omega
  refine ⟨?_, by have := short (min 4 (s.length + 1) - 1) s; omega⟩; cases h1 : B7 s 10 with
  | none => rfl
  | some a =>
   have l1 := Cf h1; rw [Option.bind_some]; cases h2 : B7 a.2 10 with
   | none => rfl
   | some b =>
    have l2 := Cf h2; rw [Option.bind_some]; cases h3 : B7 b.2 10 with
    | none => rfl
    | some c =>
     have l3 := Cf h3; omega
 ·rw [show min 4 (s.length + 1) - 1 = 3 by omega, EH]; cases h1 : B7 s 10 with
  | none => right; simp
  | some a =>
   simp only [Option.bind_some]; rw [EH]; cases h2 : B7 a.2 10 with
   | none => right; simp
   | some b =>
    simp only [Option.bind_some]; rw [EH]; cases h3 : B7 b.2 10 with
    | none => right; simp
    | some c => left; exact ⟨a.1, b.1, c.1, c.2, rfl, rfl⟩
noncomputable def JI (s : Str) : Option (List (List Str)) := (Ib s).bind fun c => if AH c = true then some c else none
theorem NR (s : Str) : GX s = match JI s with | some c => (c, 0) | none => (BS, 260) := by
 unfold GX JI; cases Ib s with
 | none => rfl
 | some c => simp only [Option.bind_some]; split <;> rfl
theorem Ij {s : Str} {c : List (List Str)} (h : JI s = some c) : AH c = true ∧ c.length = 8 ∧ DB c := by
 unfold JI at h; obtain ⟨d, h1, h2⟩ := Option.bind_eq_some_iff.1 h; have h8 := (Ye _ _ _ _ _ h1 (by intro l hl; simp [BS] at hl; simp [hl])).1; have h8 : d.length = 8 := by rw [h8]; rfl
 split at h2
 ·rename_i hc; cases h2; obtain ⟨v1, v2, _⟩ := Dy h8 hc; exact ⟨hc, h8, h8, fun l hl => ⟨by have := v1 l hl; omega, fun s hs => by have := v2 l hl s hs; omega⟩⟩
 ·cases h2
noncomputable def Gr (v : Str) : Option S33 := (FF v).bind fun q => (FE q.2.2.1).bind fun d => (JI q.2.2.2).bind fun c => if Bq d = q.2.2.1 ∧ A_ ⟨q.1, q.2.1, d, c⟩ = true then some ⟨q.1, q.2.1, d, c⟩ else none
theorem Ls {v a b c e : Str} (h : FF v = some (a, b, c, e)) : a.length + b.length + c.length + e.length + 3 = v.length := by
 unfold FF at h; obtain ⟨p, h1, h⟩ := Option.bind_eq_some_iff.1 h; obtain ⟨q, h2, h⟩ := Option.bind_eq_some_iff.1 h; obtain ⟨r, h3, h⟩ := Option.map_eq_some_iff.1 h; have l1 := Cf h1; have l2 := Cf h2; have l3 := Cf h3; cases h; omega
theorem gx {v : Str} {y : S33} (h : Gr v = some y) (hv : v.length ≤ 1000000) : A_ y = true ∧ okP y := by
 unfold Gr at h; obtain ⟨⟨a, b, c, e⟩, h1, h⟩ := Option.bind_eq_some_iff.1 h; obtain ⟨d, h2, h⟩ := Option.bind_eq_some_iff.1 h; obtain ⟨s, h3, h⟩ := Option.bind_eq_some_iff.1 h; have hl := Ls h1; split at h
 ·rename_i hr; cases h; have hd := Ii h2; simp only [Bt, Bool.and_eq_true, decide_eq_true_eq, List.all_eq_true] at hd; refine ⟨hr.2, by simp only; omega, by simp only; omega, ⟨by simp only; omega, fun x hx => ?_⟩, (Ij h3).2.2⟩; have := hd.2 x hx; simp only [B_, BX, Bool.and_eq_true, decide_eq_true_eq] at this; omega
 ·cases h
theorem dR {m : Mp} {n : Np} {pr : Option S33} {d : S35} (I : Inv m n pr d) (v : Str) (hv : v.length ≤ 1000000) :
    (Gr v = none → ∃ w, F63 m n pr v = some (false, w)) ∧ ∀ y, Gr v = some y → ∃ pr', F63 m n pr v = some (true, pr') ∧ Inv m n pr' ⟨d.fL, y⟩ := by
 have e98 : F98 v [10] 4 = some (splitN v [10] 4) := by
  unfold F98; rw [A9 (by omega), A9 (by simp), A9 (by omega)]; rfl
 generalize hX : Gr v = X; unfold Gr at hX; unfold F63; rw [e98, Option.bind_some]; rcases VZ v with ⟨a, b, c, e, h1, h2⟩ | ⟨h1, h2⟩
 ·have hl := Ls h1; rw [h1, Option.bind_some] at hX; simp only at hX; rw [h2]; rw [if_neg (by simp), A9 (by simp)]; simp only [List.getD_cons_succ, List.getD_cons_zero]; rw [dB c (by omega), Option.bind_some]; have e66 : F66 e = some (GX e) := A9 (by omega); have hr8 : (GX e).1.length = 8 := by
   rw [NR]; cases h : JI e with
   | none => rfl
   | some c => exact (Ij h).2.1
  cases h4 : FE c with
  | none =>
   rw [h4] at hX; subst hX; simp only [VO]; rw [QC [] (by simp [Bt]), Option.bind_some, A9 (by simp), e66, Option.bind_some, A9 hr8]; exact ⟨fun _ => ⟨pr, by first | rfl | simp⟩, fun y h => (by cases h)⟩
  | some dn =>
   have hd := Ii h4; rw [h4, Option.bind_some] at hX; simp only [VO, List.nil_append]; rw [QC dn hd, Option.bind_some, A9 (by simp), e66, Option.bind_some, A9 hr8, if_pos trivial]; by_cases ht : Bq dn = c
   ·rw [if_pos ht, NR]; cases h5 : JI e with
    | none =>
     rw [h5] at hX; subst hX; exact ⟨fun _ => ⟨pr, by first | rfl | simp⟩, fun y h => (by cases h)⟩
    | some s =>
     rw [h5, Option.bind_some] at hX; simp only []; rw [if_pos trivial, A9 (by simp), A9 (by simp)]; obtain ⟨hc, h8, hb⟩ := Ij h5; have hdd := hd; simp only [Bt, Bool.and_eq_true, decide_eq_true_eq, List.all_eq_true] at hdd
     have hy : okP ⟨a, b, dn, s⟩ := ⟨by simp only; omega, by simp only; omega, ⟨by simp only; omega, fun x hx => by
       have := hdd.2 x hx
       simp only [B_, BX, Bool.and_eq_true, decide_eq_true_eq] at this
       omega⟩, hb⟩
     obtain ⟨pr', h6, h7⟩ := RH I ⟨a, b, dn, s⟩ hy; rw [h6, Option.bind_some]; cases hr : A_ ⟨a, b, dn, s⟩ with
     | false =>
      rw [if_neg (by simp [hr])] at hX; subst hX; exact ⟨fun _ => ⟨_, rfl⟩, fun y h => (by cases h)⟩
     | true =>
      rw [hr] at h7; rw [if_pos ⟨ht, hr⟩] at hX; subst hX; refine ⟨fun h => (by cases h), fun y h => ?_⟩; cases h; exact ⟨pr', rfl, h7⟩
   ·rw [if_neg ht]; refine ⟨fun _ => ⟨_, rfl⟩, fun y h => ?_⟩; rw [h] at hX; obtain ⟨s, _, hX⟩ := Option.bind_eq_some_iff.1 hX; rw [if_neg (fun h => ht h.1)] at hX; cases hX
 ·rw [h1] at hX; subst hX; rw [if_pos (by omega)]; exact ⟨fun _ => ⟨_, rfl⟩, fun y h => (by cases h)⟩
end Go.Idl
namespace Go.Idl
open Go Go.Proofs.Tryz Go.Lib
set_option pp.deepTerms false
noncomputable def EI (r : S78) (L : List S39) : Option (List S39) :=
  match r.Bb with
  | 112 :: h => (B7 r.Aa 10).bind fun q => (JI q.2).bind fun c => if (Gb L ⟨h, q.1, c⟩).2 = 0 then some (Gb L ⟨h, q.1, c⟩).1 else none
  | _ => none
noncomputable def ofS : List S78 → S35 → Option S35
  | [], d => some d
  | r :: l, d => if r.Bb = [105] ∧ d.fP.Ad = [] then (Gr r.Aa).bind fun y => ofS l ⟨d.fL, y⟩ else (EI r d.fL).bind fun L => ofS l ⟨L, d.fP⟩
def V_ : Str → Str × Bool
  | 112 :: t => (t, true)
  | s => (s, false)
def QK (s : Str) : Str × Str × Bool := match B7 s 10 with | some p => (p.1, p.2, true) | none => (s, [], false)
theorem jI (s : Str) : cut s [10] = QK s := Ro s 10
theorem RJ {x : UInt8} {t : Str} (h : ¬ x = 112) : V_ (x :: t) = (x :: t, false) := by
 unfold V_; split
 ·rename_i h' e; exact absurd (by cases e; rfl) h
 ·rfl
theorem jJ (s : Str) : F64 s [112] = some (V_ s) := by
 unfold F64 Ux Uw; cases s with
 | nil => rfl
 | cons x t =>
  rw [if_pos (by simp; omega), A9 (by simp), A9 (by simp; omega)]; simp only [Option.bind_some, List.length_cons, List.length_nil]; by_cases h : x = 112
  ·subst h; rw [decide_eq_true (by rfl), if_neg (by simp), A9 (by omega), A9 (by simp; omega)]; rfl
  ·have h3 : ¬ List.take (((0 + 1 : Nat) : Int)).toNat (x :: t) = [112] := by simpa using h
   rw [decide_eq_false h3, if_pos (by simp), RJ h]; rfl
theorem dS : DB BS := ⟨rfl, by intro l hl; simp [BS] at hl; simp [hl]⟩
theorem W3 (s : Str) : DB (GX s).1 := by
 rw [NR]; cases h : JI s with
 | none => exact dS
 | some c => exact (Ij h).2.2
section
variable {m : Mp} {n : Np} {pr : Option S33} {d : S35} {l : List S78}
theorem Yf (I : Inv m n pr d) (i : Nat) (hi : i < l.length) (hl : l.length ≤ 1000000) (h : ∀ r ∈ l, r.Bb.length ≤ 1000000 ∧ r.Aa.length ≤ 1000000) :
    (EI l[i] d.fL = none → DS l (i : Int) pr m n = some (.inr (.inr (none, 301)))) ∧ ∀ L, EI l[i] d.fL = some L → ∃ m' n', DS l (i : Int) pr m n = some (.inl (((i + 1 : Nat) : Int), pr, m', n')) ∧ Inv m' n' pr ⟨L, d.fP⟩ := by
 have hr := h _ (List.getElem_mem hi); have hg : l.getD i S78.zero = l[i] := getD_some hi _; generalize hX : EI l[i] d.fL = X; unfold EI at hX; unfold DS; rw [Int.toNat_natCast, hg]; generalize l[i] = r at *; have e65 : F65 r.Aa [10] = some (cut r.Aa [10]) := A9 (by omega); rw [jJ, Option.bind_some, e65, Option.bind_some, jI]; have e66 : ∀ s : Str, s.length ≤ 1000000 → F66 s = some (GX s) := fun s hs => A9 (by omega); have hc2 : ∀ q, B7 r.Aa 10 = some q → q.1.length ≤ r.Aa.length ∧ q.2.length ≤ r.Aa.length := fun q hq => by have := Cf hq; omega
 have hlen : (QK r.Aa).2.1.length ≤ 1000000 := by
  unfold QK; cases hq : B7 r.Aa 10 with
  | none => simp
  | some q => have := hc2 q hq; simp only; omega
 rw [e66 _ hlen, Option.bind_some, A9 (W3 _).1]; cases hk : r.Bb with
 | nil =>
  rw [hk] at hX; subst hX; rw [if_pos (by simp [V_])]; exact ⟨fun _ => rfl, fun L h => (by cases h)⟩
 | cons x t =>
  by_cases hx : x = 112
  ·subst hx; rw [hk] at hX; simp only at hX; rw [show V_ (112 :: t) = (t, true) from rfl, if_neg (by simp)]; cases hq : B7 r.Aa 10 with
   | none =>
    rw [hq] at hX; subst hX; have e1 : QK r.Aa = (r.Aa, [], false) := by rw [QK, hq]
    rw [e1, if_pos (by simp)]; exact ⟨fun _ => rfl, fun L h => (by cases h)⟩
   | some q =>
    rw [hq, Option.bind_some] at hX; have hcl := hc2 q hq; have e1 : QK r.Aa = (q.1, q.2, true) := by rw [QK, hq]
    rw [e1, if_neg (by simp)]; simp only; rw [NR]; cases hc : JI q.2 with
    | none =>
     rw [hc] at hX; subst hX; rw [if_pos (by decide)]; exact ⟨fun _ => rfl, fun L h => (by cases h)⟩
    | some c =>
     rw [hc, Option.bind_some] at hX; rw [if_neg (by simp)]; have hkl : t.length ≤ 1000000 := by have := hr.1; rw [hk] at this; simp at this; omega
     obtain ⟨m', n', h1, h2⟩ := K6 I ⟨t, q.1, c⟩ ⟨hkl, by simp only; omega, (Ij hc).2.2⟩; simp only; rw [h1, Option.bind_some]; by_cases h0 : (Gb d.fL ⟨t, q.1, c⟩).2 = 0
     ·rw [if_pos h0] at hX; subst hX; rw [if_neg (by simpa using h0), AS (by omega)]; refine ⟨fun h => (by cases h), fun L h => ?_⟩; cases h; exact ⟨m', n', rfl, h2⟩
     ·rw [if_neg h0] at hX; subst hX; rw [if_pos (by simpa using h0)]; exact ⟨fun _ => rfl, fun L h => (by cases h)⟩
  ·have : X = none := by
    rw [← hX, hk]; split
    ·rename_i h' e; exact absurd (by cases e; rfl) hx
    ·rfl
   subst this; rw [RJ hx, if_pos (by simp)]; exact ⟨fun _ => rfl, fun L h => (by cases h)⟩
noncomputable abbrev stO (l : List S78) := fun (s : Int × (Option S33) × Mp × Np) => GZ l s.1 s.2.1 s.2.2.1 s.2.2.2
noncomputable def dU (y : ((Option S33) × Mp × Np) ⊕ ((Option (Mp × Np × (Option S33))) × Int)) : Option ((Option (Mp × Np × (Option S33))) × Int) := Sum.elim (fun e => NO e.1 e.2.1 e.2.2) (fun q => some q) y
theorem Lt (hl : l.length ≤ 1000000) (h : ∀ r ∈ l, r.Bb.length ≤ 1000000 ∧ r.Aa.length ≤ 1000000) : ∀ (k i : Nat) (m : Mp) (n : Np) (pr : Option S33) (d : S35), i + k = l.length → Inv m n pr d →
    (ofS (l.drop i) d = none → (AE (stO l) ((i : Int), pr, m, n)).bind dU = some (none, 301)) ∧ ∀ d', ofS (l.drop i) d = some d' → ∃ m' n' pr', (AE (stO l) ((i : Int), pr, m, n)).bind dU = some (some (m', n', pr'), 0) ∧ Inv m' n' pr' d'
  | 0, i, m, n, pr, d, hk, I => by
    rw [List.drop_of_length_le (by omega)]
    have e : stO l ((i : Int), pr, m, n) = some (.inr (.inl (pr, m, n))) := by
      simp only [stO, GZ]
      rw [if_neg (by omega)]
    rw [AG e]
    refine ⟨fun h => (by cases h), fun d' h => ?_⟩
    cases h
    exact ⟨m, n, pr, rfl, I⟩
  | k + 1, i, m, n, pr, d, hk, I => by
    have hi : i < l.length := by omega
    have hg : l.getD i S78.zero = l[i] := getD_some hi _
    have hr := h _ (List.getElem_mem hi)
    rw [List.drop_eq_getElem_cons hi, ofS]
    have hpr := I.prs
    have row : ¬ (l[i].Bb = [105] ∧ d.fP.Ad = []) → stO l ((i : Int), pr, m, n) = DS l (i : Int) pr m n := by
      intro hc
      simp only [stO, GZ]
      rw [if_pos (by omega), A9 (by omega), Int.toNat_natCast, hg]
      by_cases h1 : l[i].Bb = [105]
      · rw [if_pos h1]
        have h2 : pr.isSome = true := by rw [hpr]; simpa using fun e => hc ⟨h1, e⟩
        rw [if_neg (by cases pr <;> simp at h2 ⊢)]
      · rw [if_neg h1]
    by_cases hc : l[i].Bb = [105] ∧ d.fP.Ad = []
    · rw [if_pos hc]
      have h2 : pr.isNone = true := by
        cases pr with
        | none => rfl
        | some y => rw [hc.2] at hpr; simp at hpr
      have e0 : stO l ((i : Int), pr, m, n) = (F63 m n pr l[i].Aa).bind fun (x43 : Bool × (Option S33)) => if ¬ (x43.1 = true) then (some (.inr (.inr (none, 301)))) else (some (.inl ((IntKind.i64.wrap ((i : Int) + 1), x43.2, m, n)))) := by
        simp only [stO, GZ]
        rw [if_pos (by omega), A9 (by omega), Int.toNat_natCast, hg, if_pos hc.1, if_pos h2]
      obtain ⟨f1, f2⟩ := dR I l[i].Aa hr.2
      cases hp : Gr l[i].Aa with
      | none =>
        obtain ⟨w, hw⟩ := f1 hp
        rw [hw, Option.bind_some, if_pos (by simp)] at e0
        rw [AG e0]
        exact ⟨fun _ => rfl, fun d' h => (by cases h)⟩
      | some y =>
        obtain ⟨pr', hw, I'⟩ := f2 y hp
        rw [hw, Option.bind_some, if_neg (by simp), AS (by omega)] at e0
        rw [AZ e0, Option.bind_some]
        exact Lt hl h k (i + 1) m n pr' ⟨d.fL, y⟩ (by omega) I'
    · rw [if_neg hc]
      obtain ⟨f1, f2⟩ := Yf I i hi hl h
      cases hp : EI l[i] d.fL with
      | none =>
        rw [AG ((row hc).trans (f1 hp))]
        exact ⟨fun _ => rfl, fun d' h => (by cases h)⟩
      | some L =>
        obtain ⟨m', n', hw, I'⟩ := f2 L hp
        rw [AZ ((row hc).trans hw), Option.bind_some]
        exact Lt hl h k (i + 1) m' n' pr ⟨L, d.fP⟩ (by omega) I'
theorem dV (hl : l.length ≤ 1000000) (h : ∀ r ∈ l, r.Bb.length ≤ 1000000 ∧ r.Aa.length ≤ 1000000) :
    (ofS l ⟨[], S33.zero⟩ = none → F35 l = some (none, 301)) ∧ ∀ d', ofS l ⟨[], S33.zero⟩ = some d' → ∃ m' n' pr', F35 l = some (some (m', n', pr'), 0) ∧ Inv m' n' pr' d' := by
 have := Lt hl h l.length 0 [] [] none ⟨[], S33.zero⟩ (by omega) Inv.nil; rw [List.drop_zero] at this; have e : F35 l = (AE (stO l) (((0 : Nat) : Int), none, [], [])).bind dU := rfl; rw [e]; exact this
end
end Go.Idl
namespace Go.Idl
open Go Go.Proofs.Tryz Go.Lib
set_option pp.deepTerms false
section
variable {l : List S78}
abbrev z33 : S33 := ⟨[], [], [], [[], [], [], [], [], [], [], []]⟩
end
end Go.Idl
namespace Go.Idl
open Go Go.RowKit Go.ChangeShapes Go.WideShapes
def g0 : Gs := { oth := fun _ => False, mu := fun _ => undef, sh := fun _ => none, nx := 0 }
def H0 : A2 := { next := 0, obj := fun _ => none, sn := [] }
theorem ow0 (b : Nat) : ¬ g0.ow b := by
 rintro (h | ⟨k, h, _⟩)
 ·exact h
 ·cases h
theorem LN {w w' : World} {g' : Gs} (m : AI w g0 w' g') : Below w.heap.size w w' :=
  ⟨m.os, m.tape, m.output, m.size, fun k hk => m.keep k hk fun ⟨i, h, _⟩ => by cases h⟩
variable {P : Program} {w : World} {Hh : Type} {enc : TypeId × Value → Hh}
def Rd (P : Program) (w : World) {Hh : Type} (enc : TypeId × Value → Hh) (t : TypeId) (S : List IV → Prop) : Prop :=
  ∀ (base : Nat) (spare : Nat → Bool) (held : Bool) (fuel : Nat) (cs : List Value) (x : DataW Hh × List MemPlace), DataW.trod enc P w base spare held fuel t cs = some x →
    ∃ is, S is ∧ is.length = cs.length ∧ ∀ (j : Nat) (c : Value) (i : IV), cs[j]? = some c → is[j]? = some i → c.oneCell' = true ∧ R w g0 c i
theorem Hf {c : Value} {i : IV} (ho : c.oneCell' = true) (hr : R w g0 c i) : ∀ (j : Nat) (c' : Value) (i' : IV), [c][j]? = some c' → [i][j]? = some i' → c'.oneCell' = true ∧ R w g0 c' i' := by
 intro j c' i' h1 h2; cases j with
 | zero => simp at h1 h2; subst h1; subst h2; exact ⟨ho, hr⟩
 | succ j => simp at h1
theorem W4 {t : TypeId} {k : IntKind} (hu : P.underlying t = some (.int k)) : Rd P w enc t fun is => ∃ n : Int, is = [.v (.int k n)] := by
 intro base spare held fuel cs x h; obtain ⟨n, rfl, _, _⟩ := DataW.trod_int hu h; exact ⟨_, ⟨n, rfl⟩, rfl, Hf rfl (.v _)⟩
theorem Tg {t : TypeId} (hu : P.underlying t = some .string) : Rd P w enc t fun is => ∃ s : List UInt8, is = [.v (str s)] := by
 intro base spare held fuel cs x h; obtain ⟨s, rfl, _, _⟩ := DataW.trod_string hu h; refine ⟨_, ⟨bytes s, rfl⟩, rfl, Hf rfl ?_⟩; rw [show str (bytes s) = .string s by rw [str, Hj]]; exact .v _
theorem DV {E : Type} (Pr : Nat → E → Prop) : ∀ n : Nat, (∀ i, i < n → ∃ x, Pr i x) → ∃ l : List E, l.length = n ∧ ∀ (i : Nat) (x : E), l[i]? = some x → Pr i x
  | 0, _ => ⟨[], rfl, by simp⟩
  | n + 1, h => by
    obtain ⟨l, h1, h2⟩ := DV Pr n fun i hi => h i (by omega)
    obtain ⟨x, hx⟩ := h n (by omega)
    refine ⟨l ++ [x], by simp [h1], fun i y hy => ?_⟩
    rcases Nat.lt_or_ge i n with hi | hi
    · rw [List.getElem?_append_left (by omega)] at hy
      exact h2 i y hy
    · rw [List.getElem?_append_right (by omega)] at hy
      have e : i = n := by
        have := (List.getElem?_eq_some_iff.1 hy).1
        simp at this; omega
      subst e
      simp [h1] at hy
      subst hy
      exact hx
theorem My {base : Nat} {a : Addr} : ∀ {n : Nat} {cs : List Value}, w.cells? base a n = some cs → cs.length = n ∧ ∀ j, j < n → w.cell? (a.add j) = cs[j]? := by
 intro n cs h; unfold World.cells? at h; split at h
 ·refine ⟨?_, fun j hj => ?_⟩
  ·have := mapM_some_length h; simpa using this
  ·exact mapM_some_get h j j (by simp [hj])
 ·cases h
theorem Pg {t e : TypeId} {E : Type} (cells : E → List IV) (hu : P.underlying t = some (.slice e)) (h0 : 0 < P.cellsOf e) (he : Rd P w enc e fun is => ∃ x : E, is = cells x) :
    Rd P w enc t fun is => ∃ l : List E, is = [.sl (P.cellsOf e) (l.map cells)] := by
 intro base spare held fuel cs x h; rcases DataW.trod_slice hu h with ⟨rfl, _⟩ | ⟨a, len, cap, elems, rest, n, _, rfl, _, hb, hl, hm, hlen, hel, _, _⟩
 ·exact ⟨_, ⟨[], rfl⟩, rfl, Hf rfl (.sl0 _ _ _)⟩
 ·obtain ⟨l, l1, l2⟩ := DV (fun i (y : E) => (cells y).length = P.cellsOf e ∧ ∀ (j : Nat) (i' : IV), (cells y)[j]? = some i' → ∃ c, w.cell? ((a.add (i * P.cellsOf e)).add j) = some c ∧ c.oneCell' = true ∧ R w g0 c i') len (fun i hi => by
    have hei := hel i hi
    have hne : elems[i]? = some elems[i] := List.getElem?_eq_getElem (by omega)
    rw [hne, Option.bind_eq_some_iff] at hei
    obtain ⟨ci, hc, ht⟩ := hei
    obtain ⟨q1, q2⟩ := My hc
    obtain ⟨is, ⟨y, rfl⟩, q3, q4⟩ := he _ _ _ _ _ _ ht
    refine ⟨y, by rw [q3, q1], fun j i' hj => ?_⟩
    have hjl : j < ci.length := by rw [← q3]; exact (List.getElem?_eq_some_iff.1 hj).1
    have := q4 j ci[j] i' (List.getElem?_eq_getElem hjl) hj
    exact ⟨ci[j], by rw [q2 j (by omega)]; exact List.getElem?_eq_getElem hjl, this⟩)
  refine ⟨_, ⟨l, rfl⟩, rfl, Hf rfl ?_⟩; by_cases hz : len = 0
  ·subst hz; have : l = [] := List.eq_nil_of_length_eq_zero l1; subst this; exact .sl0 _ _ _
  ·have hlm : (l.map cells).length = len := by simp [l1]
   have h0l : 0 < l.length := by omega
   obtain ⟨q1, q2⟩ := l2 0 l[0] (List.getElem?_eq_getElem h0l); have hpos : 0 < (cells l[0]).length := by omega
   obtain ⟨c0, q3, _⟩ := q2 0 _ (List.getElem?_eq_getElem hpos); obtain ⟨b, off, spot⟩ := a; have hsp : spot = none ∧ b < w.heap.size := by
    have e0 : ((⟨b, off, spot⟩ : Addr).add (0 * P.cellsOf e)).add 0 = ⟨b, off, spot⟩ := by simp [Addr.add]
    rw [e0] at q3; unfold World.cell? at q3; split at q3
    ·rename_i hh; refine ⟨?_, (Array.getElem?_eq_some_iff.1 hh).1⟩; split at q3
     ·cases q3
     ·rename_i hs; simpa using hs
    ·cases q3
   obtain ⟨rfl, hlt⟩ := hsp; rw [← hlm]; refine .sl b off cap _ _ (fun i j => (w.cell? ⟨b, off + i * P.cellsOf e + j, none⟩).getD undef) (ow0 b) hlt (by rw [hlm]; have hm' : cap ≤ 9223372036854775807 := hm; unfold Cm; omega) (by omega) ?_ ?_ ?_ ?_
   ·intro c hc; obtain ⟨y, hy, rfl⟩ := List.mem_map.1 hc; obtain ⟨i, hi⟩ := List.getElem?_of_mem hy; exact (l2 i y hi).1
   all_goals
    intro i ee j c h1 h2; simp only [List.getElem?_map, Option.map_eq_some_iff] at h1; obtain ⟨y, hy, rfl⟩ := h1; obtain ⟨c', r1, r2, r3⟩ := (l2 i y hy).2 j c h2; rw [addr_add, addr_add] at r1
    first | (rw [r1]; rfl) | (simp only [r1, Option.getD_some]; first | exact r2 | exact r3)
theorem W5 {t e : TypeId} {E : Type} {n : Nat} (cell : E → IV) (hu : P.underlying t = some (.array n e)) (hc : P.cellsOf e = 1) (hct : P.cellsOf t = n) (he : Rd P w enc e fun is => ∃ x : E, is = [cell x]) :
    Rd P w enc t fun is => ∃ l : List E, l.length = n ∧ is = l.map cell := by
 intro base spare held fuel cs x h; obtain ⟨xs, m, _, _, h1, h2, h3⟩ := DataW.trod_array hu h; rw [hct] at h1
 obtain ⟨l, l1, l2⟩ := DV (fun i (y : E) => ∃ c, cs[i]? = some c ∧ c.oneCell' = true ∧ R w g0 c (cell y)) n (fun i hi => by
   have := h3 i hi
   rw [hc, Nat.mul_one] at this
   have hci : cs[i]? = some cs[i] := List.getElem?_eq_getElem (by omega)
   have hd : (cs.drop i).take 1 = [cs[i]] := by rw [List.drop_eq_getElem_cons (by omega)]; rfl
   rw [hd, List.getElem?_eq_getElem (by omega)] at this
   obtain ⟨is, ⟨y, rfl⟩, _, q4⟩ := he _ _ _ _ _ _ this
   exact ⟨y, cs[i], hci, q4 0 _ _ rfl rfl⟩)
 refine ⟨_, ⟨l, l1, rfl⟩, by simp [l1, h1], fun j c i h4 h5 => ?_⟩; simp only [List.getElem?_map, Option.map_eq_some_iff] at h5; obtain ⟨y, hy, rfl⟩ := h5; obtain ⟨c', r1, r2, r3⟩ := l2 j y hy; rw [h4] at r1; cases r1; exact ⟨r2, r3⟩
end Go.Idl
namespace Go.Idl
open Go Go.RowKit Go.ChangeShapes Go.WideShapes
def HV (vs : List (Nat × Array Value)) : A2 := { next := 0, obj := fun _ => none, sn := [HF vs] }
theorem nR (w : World) (vs : List (Nat × Array Value)) (h : ∀ p, p ∈ vs → ∃ el f, w.heap[p.1]? = some (.cells p.2 el f)) : Sim w g0 (HV vs) where
  nx := rfl
  sh := fun _ => rfl
  lt := fun k h => by cases h
  bk := fun k b h => by cases h
  inj := fun k k' b h => by cases h
  obj := fun k o h => by cases h
  old := fun b h => h.elim
  snap := fun p hp i hi => by
    obtain rfl : p = HF vs := by simpa [HV] using hp
    have hl : i < vs.length := by simpa [HF] using hi
    obtain ⟨el, f, h1⟩ := h _ (List.getElem_mem hl)
    simp only [HF, List.getElem?_eq_getElem hl]
    exact .blk _ _ el f _ (ow0 _) h1
theorem QL {P : Program} {w : World} {name : String} {b : Nat} {xs : Array Value} (hg : P.globalNamed name = some b) (h : w.var? P name = some xs) : ∃ el f, w.heap[b]? = some (.cells xs el f) := by
 unfold World.var? at h; rw [hg] at h; simp only [Option.bind_some] at h; split at h
 ·rename_i cs el f hc; cases h; exact ⟨el, f, hc⟩
 ·cases h
theorem Yg {w : World} {b i : Nat} {x : Value} (h : w.cell? ⟨b, i, none⟩ = some x) : ∃ xs el f, w.heap[b]? = some (.cells xs el f) ∧ xs[i]? = some x := by
 simp only [World.cell?] at h; cases hb : w.heap[b]? with
 | none => rw [hb] at h; simp at h
 | some o =>
  rw [hb] at h; cases o with
  | cells xs el f => exact ⟨xs, el, f, rfl, by simpa using h⟩
  | _ => simp at h
theorem J8 {H : Type} {enc : TypeId × Value → H} {a : Assume} {C : Checked} {os : Os} {f : FuncId} {fn : Func} {s : ChangeSpec} {conds : List PathCond} {apart fresh handsOn again : Bool} {X : World → Array Value → Prop}
    (hX : ∀ (w w' : World) (args : Array Value), w.heap = w'.heap → X w args → X w' args)
    (own : ownKnob C.prog.godebug = none) (started : os.Started) (noInit : C.prog.inits.idxOf? f = none) (hfn : C.prog.funcs[f]? = some fn)
    (witness : ∃ (w : World) (tape : Tape) (i : Input), w.os = os ∧ (w.forCall tape i).Shaped C.prog ∧ i.vars = [] ∧ Input.okWide C.prog (w.forCall tape i) .any w.heap.size f i ∧
      ((s.pre enc C.prog fn conds apart (w.forCall tape i).memory i.args ∧ X (w.forCall tape i).memory i.args) ∧ sizedMet enc C.prog fn (OpenSpec.ofChange s) apart (w.forCall tape i).memory i.args) ∧ a.holds C.prog (lone (Frame.enter C.prog f i.args .normal) [] (w.forCall tape i)))
    (contract : ∀ (W : World) (base : Nat) (args : Array Value) (ds gs : List (DataW H)) (before : List MemPlace),
      (∀ (j : Nat) t v, fn.params[j]? = some t → args[j]? = some v → Value.okWide C.prog W .any base t v) →
      DataW.Whole enc C.prog fn.params.toList s.vars apart W args.toList ds gs before →
      (DataW.weightsEach C.prog (fn.params.toList ++ s.plain.varTypes C.prog) (ds ++ gs)).all (· ≤ reachBytes) = true → X W args → W.ShapedOpen C.prog →
      Calls C.prog f args W fun e W' => ∃ v, e = .returned v ∧ s.post enc C.prog fn apart fresh handsOn again W args v W') :
    ReturnsInHanded a C os f .any (fun w args => (s.pre enc C.prog fn conds apart w args ∧ X w args) ∧ sizedMet enc C.prog fn (OpenSpec.ofChange s) apart w args) (s.post enc C.prog fn apart fresh handsOn again) := by
 refine returnsInHanded_of_calls own started noInit witness ?_; intro w tape i _ shape _ ok pre _; obtain ⟨_, _, _, fn2, hfn2, _, _, _, _, val⟩ := ok; have e := Option.some.inj (hfn2.symm.trans hfn); subst e; obtain ⟨⟨⟨ds, gs, before, whole, _⟩, laid⟩, sized⟩ := pre; refine Calls.mono (contract (w.forCall tape i) w.heap.size i.args ds gs before val (DataW.Whole.of_heap (by rfl) whole) (sized.weights whole) (hX _ _ _ (by rfl) laid) shape) ?_
 rintro _ W' ⟨v, rfl, post⟩
 exact ChangeSpec.post_blind post
end Go.Idl
namespace Go.Idl
open Go Go.RowKit Go.ChangeShapes Go.WideShapes
variable {P : Program} {w : World} {Hh : Type} {enc : TypeId × Value → Hh}
def RdZ (P : Program) (w : World) {Hh : Type} (enc : TypeId × Value → Hh) (t : TypeId) (S : List IV → Prop) : Prop :=
  ∀ (base : Nat) (spare : Nat → Bool) (held : Bool) (fuel : Nat) (cs : List Value) (x : DataW Hh × List MemPlace), DataW.trod enc P w base spare held fuel t cs = some x → (∀ n ∈ x.1.weights P t, n ≤ reachBytes) →
    ∃ is, S is ∧ is.length = cs.length ∧ ∀ (j : Nat) (c : Value) (i : IV), cs[j]? = some c → is[j]? = some i → c.oneCell' = true ∧ R w g0 c i
theorem Rd.z {t : TypeId} {S : List IV → Prop} (h : Rd P w enc t S) : RdZ P w enc t S := fun base spare held fuel cs x hx _ => h base spare held fuel cs x hx
theorem RdZ.mono {t : TypeId} {S S' : List IV → Prop} (h : RdZ P w enc t S) (hs : ∀ is, S is → S' is) : RdZ P w enc t S' := fun base spare held fuel cs x hx hz => let ⟨is, h1, h2⟩ := h base spare held fuel cs x hx hz; ⟨is, hs _ h1, h2⟩
theorem FG {e : TypeId} : ∀ {ds : List (DataW Hh)} {d : DataW Hh}, d ∈ ds → ∀ {n : Nat}, n ∈ d.weights P e → n ∈ DataW.weightsAll P e ds
  | d0 :: ds, d, hd, n, hn => by
    simp only [DataW.weightsAll, List.mem_append]
    rcases List.mem_cons.1 hd with e | e
    · subst e; exact .inl hn
    · exact .inr (FG e hn)
theorem QM {t : TypeId} (hu : P.underlying t = some .string) : RdZ P w enc t fun is => ∃ s : List UInt8, s.length ≤ reachBytes ∧ is = [.v (str s)] := by
 intro base spare held fuel cs x h hz; obtain ⟨s, rfl, rfl, _⟩ := DataW.trod_string hu h; refine ⟨_, ⟨bytes s, ?_, rfl⟩, rfl, Hf rfl ?_⟩
 ·have := hz s.data.toList.length (by simp [DataW.weights]); simpa [bytes] using this
 ·rw [show str (bytes s) = .string s by rw [str, Hj]]; exact .v _
theorem Mz {t e : TypeId} {E : Type} (cells : E → List IV) (hu : P.underlying t = some (.slice e)) (h0 : 0 < P.cellsOf e) (he : RdZ P w enc e fun is => ∃ x : E, is = cells x) :
    RdZ P w enc t fun is => ∃ l : List E, is = [.sl (P.cellsOf e) (l.map cells)] := by
 intro base spare held fuel cs x h hz; rcases DataW.trod_slice hu h with ⟨rfl, _⟩ | ⟨a, len, cap, elems, rest, n, _, rfl, rfl, hb, hl, hm, hlen, hel, _, _⟩
 ·exact ⟨_, ⟨[], rfl⟩, rfl, Hf rfl (.sl0 _ _ _)⟩
 ·obtain ⟨l, l1, l2⟩ := DV (fun i (y : E) => (cells y).length = P.cellsOf e ∧ ∀ (j : Nat) (i' : IV), (cells y)[j]? = some i' → ∃ c, w.cell? ((a.add (i * P.cellsOf e)).add j) = some c ∧ c.oneCell' = true ∧ R w g0 c i') len (fun i hi => by
    have hei := hel i hi
    have hne : elems[i]? = some elems[i] := List.getElem?_eq_getElem (by omega)
    rw [hne, Option.bind_eq_some_iff] at hei
    obtain ⟨ci, hc, ht⟩ := hei
    obtain ⟨q1, q2⟩ := My hc
    obtain ⟨is, ⟨y, rfl⟩, q3, q4⟩ := he _ _ _ _ _ _ ht fun n hn => hz n (by
      simp only [DataW.weights, hu, List.mem_cons, List.mem_append]
      exact .inr (.inl (FG (List.mem_map_of_mem (List.getElem_mem (by omega : i < elems.length))) hn)))
    refine ⟨y, by rw [q3, q1], fun j i' hj => ?_⟩
    have hjl : j < ci.length := by rw [← q3]; exact (List.getElem?_eq_some_iff.1 hj).1
    have := q4 j ci[j] i' (List.getElem?_eq_getElem hjl) hj
    exact ⟨ci[j], by rw [q2 j (by omega)]; exact List.getElem?_eq_getElem hjl, this⟩)
  refine ⟨_, ⟨l, rfl⟩, rfl, Hf rfl ?_⟩; by_cases hz : len = 0
  ·subst hz; have : l = [] := List.eq_nil_of_length_eq_zero l1; subst this; exact .sl0 _ _ _
  ·have hlm : (l.map cells).length = len := by simp [l1]
   have h0l : 0 < l.length := by omega
   obtain ⟨q1, q2⟩ := l2 0 l[0] (List.getElem?_eq_getElem h0l); have hpos : 0 < (cells l[0]).length := by omega
   obtain ⟨c0, q3, _⟩ := q2 0 _ (List.getElem?_eq_getElem hpos); obtain ⟨b, off, spot⟩ := a; have hsp : spot = none ∧ b < w.heap.size := by
    have e0 : ((⟨b, off, spot⟩ : Addr).add (0 * P.cellsOf e)).add 0 = ⟨b, off, spot⟩ := by simp [Addr.add]
    rw [e0] at q3; unfold World.cell? at q3; split at q3
    ·rename_i hh; refine ⟨?_, (Array.getElem?_eq_some_iff.1 hh).1⟩; split at q3
     ·cases q3
     ·rename_i hs; simpa using hs
    ·cases q3
   obtain ⟨rfl, hlt⟩ := hsp; rw [← hlm]; refine .sl b off cap _ _ (fun i j => (w.cell? ⟨b, off + i * P.cellsOf e + j, none⟩).getD undef) (ow0 b) hlt (by rw [hlm]; have hm' : cap ≤ 9223372036854775807 := hm; unfold Cm; omega) (by omega) ?_ ?_ ?_ ?_
   ·intro c hc; obtain ⟨y, hy, rfl⟩ := List.mem_map.1 hc; obtain ⟨i, hi⟩ := List.getElem?_of_mem hy; exact (l2 i y hi).1
   all_goals
    intro i ee j c h1 h2; simp only [List.getElem?_map, Option.map_eq_some_iff] at h1; obtain ⟨y, hy, rfl⟩ := h1; obtain ⟨c', r1, r2, r3⟩ := (l2 i y hy).2 j c h2; rw [addr_add, addr_add] at r1
    first | (rw [r1]; rfl) | (simp only [r1, Option.getD_some]; first | exact r2 | exact r3)
theorem Jy {t : TypeId} {f0 f1 f2 : Field} {S0 S1 S2 : List IV → Prop} (ht : P.underlying t = some (.struct #[f0, f1, f2])) (hc : P.cellsOf t = P.cellsOf f0.type + P.cellsOf f1.type + P.cellsOf f2.type) (o0 : f0.offset = 0) (o1 : f1.offset = P.cellsOf f0.type) (o2 : f2.offset = P.cellsOf f0.type + P.cellsOf f1.type)
    (h0 : RdZ P w enc f0.type S0) (h1 : RdZ P w enc f1.type S1) (h2 : RdZ P w enc f2.type S2) : RdZ P w enc t fun is => ∃ i0 i1 i2, S0 i0 ∧ S1 i1 ∧ S2 i2 ∧ is = i0 ++ (i1 ++ i2) := by
 intro base spare held fuel cs x h hz; obtain ⟨xs, n, _, rfl, hl, hlen, hf⟩ := DataW.trod_struct ht h; rw [hc] at hl; have q0 := hf 0 f0 rfl; have q1 := hf 1 f1 rfl; have q2 := hf 2 f2 rfl; rw [o0] at q0; rw [o1] at q1; rw [o2] at q2
 match xs, hlen, q0, q1, q2, hz with
 | [x0, x1, x2], _, q0, q1, q2, hz =>
  have hz' : ∀ n, n ∈ x0.1.weights P f0.type ∨ n ∈ x1.1.weights P f1.type ∨ n ∈ x2.1.weights P f2.type → n ≤ reachBytes := fun n hn => hz n (by
    simp only [DataW.weights, ht, List.map_cons, List.map_nil, List.toList_toArray, DataW.weightsEach, List.mem_append, List.not_mem_nil, or_false]
    exact hn)
  obtain ⟨is0, p0, l0, r0⟩ := h0 _ _ _ _ _ _ (by simpa using q0) fun n hn => hz' n (.inl hn); obtain ⟨is1, p1, l1, r1⟩ := h1 _ _ _ _ _ _ (by simpa using q1) fun n hn => hz' n (.inr (.inl hn)); obtain ⟨is2, p2, l2, r2⟩ := h2 _ _ _ _ _ _ (by simpa using q2) fun n hn => hz' n (.inr (.inr hn)); simp only [List.length_take, List.length_drop, List.drop_zero] at l0 l1 l2; refine ⟨_, ⟨is0, is1, is2, p0, p1, p2, rfl⟩, by simp only [List.length_append]; omega, fun j c i e1 e2 => ?_⟩; have hj := (List.getElem?_eq_some_iff.1 e1).1; rcases Nat.lt_or_ge j is0.length with a | a
  ·rw [List.getElem?_append_left a] at e2; exact r0 j c i (by rw [List.getElem?_take, if_pos (by omega)]; simpa using e1) e2
  ·rw [List.getElem?_append_right a] at e2; rcases Nat.lt_or_ge (j - is0.length) is1.length with b | b
   ·rw [List.getElem?_append_left b] at e2; refine r1 (j - is0.length) c i ?_ e2; rw [List.getElem?_take, if_pos (by omega), List.getElem?_drop, show P.cellsOf f0.type + (j - is0.length) = j by omega]; exact e1
   ·rw [List.getElem?_append_right b] at e2; refine r2 (j - is0.length - is1.length) c i ?_ e2; rw [List.getElem?_take, if_pos (by omega), List.getElem?_drop, show P.cellsOf f0.type + P.cellsOf f1.type + (j - is0.length - is1.length) = j by omega]; exact e1
theorem Ph {t : TypeId} {f0 f1 : Field} {S0 S1 : List IV → Prop} (ht : P.underlying t = some (.struct #[f0, f1])) (hc : P.cellsOf t = P.cellsOf f0.type + P.cellsOf f1.type) (o0 : f0.offset = 0) (o1 : f1.offset = P.cellsOf f0.type)
    (h0 : RdZ P w enc f0.type S0) (h1 : RdZ P w enc f1.type S1) : RdZ P w enc t fun is => ∃ i0 i1, S0 i0 ∧ S1 i1 ∧ is = i0 ++ i1 := by
 intro base spare held fuel cs x h hz; obtain ⟨xs, n, _, rfl, hl, hlen, hf⟩ := DataW.trod_struct ht h; rw [hc] at hl; have q0 := hf 0 f0 rfl; have q1 := hf 1 f1 rfl; rw [o0] at q0; rw [o1] at q1
 match xs, hlen, q0, q1, hz with
 | [x0, x1], _, q0, q1, hz =>
  have hz' : ∀ n, n ∈ x0.1.weights P f0.type ∨ n ∈ x1.1.weights P f1.type → n ≤ reachBytes := fun n hn => hz n (by
    simp only [DataW.weights, ht, List.map_cons, List.map_nil, List.toList_toArray, DataW.weightsEach, List.mem_append, List.not_mem_nil, or_false]
    exact hn)
  obtain ⟨is0, p0, l0, r0⟩ := h0 _ _ _ _ _ _ (by simpa using q0) fun n hn => hz' n (.inl hn); obtain ⟨is1, p1, l1, r1⟩ := h1 _ _ _ _ _ _ (by simpa using q1) fun n hn => hz' n (.inr hn); simp only [List.length_take, List.length_drop, List.drop_zero] at l0 l1; refine ⟨_, ⟨is0, is1, p0, p1, rfl⟩, by simp only [List.length_append]; omega, fun j c i e1 e2 => ?_⟩; have hj := (List.getElem?_eq_some_iff.1 e1).1; rcases Nat.lt_or_ge j is0.length with a | a
  ·rw [List.getElem?_append_left a] at e2; exact r0 j c i (by rw [List.getElem?_take, if_pos (by omega)]; simpa using e1) e2
  ·rw [List.getElem?_append_right a] at e2; refine r1 (j - is0.length) c i ?_ e2; rw [List.getElem?_take, if_pos (by omega), List.getElem?_drop, show P.cellsOf f0.type + (j - is0.length) = j by omega]; exact e1
theorem RdZ.one {t : TypeId} {v : Value} {d : DataW Hh} {ps : List MemPlace} {S : List IV → Prop} {base : Nat} {spare : Nat → Bool} {held : Bool} (h : RdZ P w enc t S) (hv : v.cells = #[v]) (hd : DataW.Trod enc P w base spare held t v d ps)
    {ts : List TypeId} {ds : List (DataW Hh)} (hw : (DataW.weightsEach P ts ds).all (· ≤ reachBytes) = true) {k : Nat} (h1 : ts[k]? = some t) (h2 : ds[k]? = some d) : ∃ i, S [i] ∧ R w g0 v i := by
 obtain ⟨fuel, hf⟩ := hd; obtain ⟨is, h1, h2, h3⟩ := h _ _ _ _ _ _ hf fun n hn => by simpa using List.all_eq_true.1 hw _ (DataW.weights_mem_each h1 h2 n hn)
 rw [hv] at h2 h3
 match is, h2, h1, h3 with
 | [i], _, h1, h3 => exact ⟨i, h1, (h3 0 v i rfl rfl).2⟩
end Go.Idl
namespace Go.Proofs.YtbgebljjmpklkaaGreatDoor
open Go Go.ChangeShapes Go.WideShapes Go.ChangeAt Go.RowKit Go.Idl
theorem Yh : ownKnob Tryz.prog.godebug = none := by kernel_rfl
theorem Lu : laidOutB Tryz.prog = true := by kernel_rfl
theorem dW : Tryz.prog.globalNamed "internal/strconv.uint64pow10" = some 1 := by kernel_rfl
section
variable {w : World} {Hh : Type} {enc : TypeId × Value → Hh}
theorem rd3 : RdZ Tryz.prog w enc 3 fun is => ∃ n : Int, is = [.v (.int .i64 n)] := (W4 Tryz.underlying3).z
theorem rd9 : RdZ Tryz.prog w enc 9 fun is => ∃ s : List UInt8, s.length ≤ reachBytes ∧ is = [.v (str s)] := QM Tryz.underlying9
theorem nT : Rd Tryz.prog w enc 30 fun is => ∃ l : List (List UInt8), is = [.sl 1 (l.map fun x => [.v (str x)])] := by
 have h := Pg (w := w) (enc := enc) (fun s : List UInt8 => [IV.v (str s)]) Tryz.underlying30 (Nat.lt_of_lt_of_eq Nat.one_pos Fc.symm) (Tg Tryz.underlying9); rw [Fc] at h; exact h
theorem nU : Rd Tryz.prog w enc 32 fun is => ∃ c : List (List (List UInt8)), c.length = 8 ∧ is = c.map fun x => .sl 1 (x.map fun x => [.v (str x)]) := W5 (fun x : List (List UInt8) => .sl 1 (x.map fun x => [.v (str x)])) Tryz.underlying32 WY R3 nT
abbrev cX (x : S39) : List IV := .v (str x.Ad) :: .v (str x.Am) :: (x.A5.map fun x => .sl 1 (x.map fun x => [.v (str x)]))
def nV (x : S39) : Prop := x.A5.length = 8 ∧ x.Ad.length ≤ reachBytes ∧ x.Am.length ≤ reachBytes
theorem nW : RdZ Tryz.prog w enc 40 fun is => ∃ x : S39, nV x ∧ is = cX x := by
 refine (Jy (w := w) (enc := enc) Tryz.underlying40 (by rw [Fc, R3, MY]) rfl (by rw [Fc]) (by rw [Fc]) rd9 rd9 nU.z).mono ?_
 rintro is ⟨i0, i1, i2, ⟨s, hs, rfl⟩, ⟨u, hu, rfl⟩, ⟨c, hc, rfl⟩, rfl⟩
 exact ⟨⟨s, u, c⟩, ⟨hc, hs, hu⟩, rfl⟩
abbrev cD (x : S89) : List IV := [.v (str x.fType), .v (str x.Aa)]
def dY (x : S89) : Prop := x.fType.length ≤ reachBytes ∧ x.Aa.length ≤ reachBytes
theorem nX : RdZ Tryz.prog w enc 90 fun is => ∃ x : { x : S89 // dY x }, is = cD x.1 := by
 refine (Ph (w := w) (enc := enc) Tryz.underlying90 (by rw [Fc, JL]) rfl (by rw [Fc]) rd9 rd9).mono ?_
 rintro is ⟨i0, i1, ⟨s, hs, rfl⟩, ⟨u, hu, rfl⟩, rfl⟩
 exact ⟨⟨⟨s, u⟩, hs, hu⟩, rfl⟩
theorem nY : RdZ Tryz.prog w enc 29 fun is => ∃ l : List S89, (∀ x ∈ l, dY x) ∧ is = [.sl 2 (l.map cD)] := by
 have h := Mz (w := w) (enc := enc) (fun x : { x : S89 // dY x } => cD x.1) Tryz.underlying29 (Nat.lt_of_lt_of_eq (by decide : 0 < 2) JL.symm) nX; rw [JL] at h; refine h.mono ?_
 rintro is ⟨l, rfl⟩
 refine ⟨l.map (·.1), fun x hx => ?_, by rw [List.map_map]; rfl⟩; obtain ⟨y, _, rfl⟩ := List.mem_map.1 hx; exact y.2
abbrev cA (a : S41) : List IV := .v (.int .i64 a.Cu) :: .v (str a.Ai.Ad) :: .v (str a.Ai.Am) :: ((a.Ai.A5.map fun x => .sl 1 (x.map fun x => [.v (str x)])) ++ [.sl 2 (a.fDn.map fun x => [.v (str x.fType), .v (str x.Aa)])])
theorem nZ : RdZ Tryz.prog w enc 42 fun is => ∃ a : { a : S41 // VT a }, is = cA a.1 := by
 refine (Jy (w := w) (enc := enc) Tryz.underlying42 (by rw [KD, MY, WX, MZ]) rfl (by rw [KD]) (by rw [KD, MY]) rd3 nW nY).mono ?_
 rintro is ⟨i0, i1, i2, ⟨k, rfl⟩, ⟨x, hx, rfl⟩, ⟨d, hd, rfl⟩, rfl⟩
 have hr := reachBytes_lt; have e : (2 : Nat) ^ 47 = 140737488355328 := by decide
 rw [e] at hr; obtain ⟨h1, h2, h3⟩ := hx; refine ⟨⟨⟨k, x, d⟩, h1, ?_, ?_, fun y hy => ?_⟩, rfl⟩
 ·show x.Ad.length ≤ 1000000000000000; omega
 ·show x.Am.length ≤ 1000000000000000; omega
 ·obtain ⟨q1, q2⟩ := hd y hy; exact ⟨by omega, by omega⟩
theorem n_ : RdZ Tryz.prog w enc 22 fun is => ∃ l : List S41, (∀ a ∈ l, VT a) ∧ is = [.sl 12 (l.map cA)] := by
 have h := Mz (w := w) (enc := enc) (fun x : { a : S41 // VT a } => cA x.1) Tryz.underlying22 (Nat.lt_of_lt_of_eq (by decide : 0 < 12) MZ.symm) nZ; rw [MZ] at h; refine h.mono ?_
 rintro is ⟨l, rfl⟩
 refine ⟨l.map (·.1), fun x hx => ?_, by rw [List.map_map]; rfl⟩; obtain ⟨y, _, rfl⟩ := List.mem_map.1 hx; exact y.2
end
end Go.Proofs.YtbgebljjmpklkaaGreatDoor
namespace Go.Proofs.YtbgebljjmpklkaaGreatDoor
open Go Go.ChangeShapes Go.WideShapes Go.ChangeAt Go.RowKit Go.Idl
def Ik : List (String × DataW Unit) := Rows.pairsReadsRow.laid
theorem Th (os : Os) (args : Array Value) : laidMetH Tryz.prog Ik ((World.laidAll Tryz.prog os Ik).forCall (fun _ _ => 0) ⟨#[], args, []⟩).memory := by
 rw [MakeChecks.laidMetH_plain _ _ _ (by kernel_rfl)]; exact laidMet_laidAll _ (by kernel_rfl) (by kernel_rfl)
theorem Pj (os : Os) : (World.laidAll Tryz.prog os Ik).Shaped Tryz.prog := World.shaped_of_ZipB (by kernel_rfl) (by kernel_rfl)
theorem Z7 : "*" ++ "errors.errorString" = "*errors.errorString" := by decide
theorem W6 (u : TypeId) (h : Tryz.prog.typeName? 3 u = some "*errors.errorString") : u = 264 :=
  typeName_ptr_named (nm := "errors.errorString") (by rw [Z7]; kernel_rfl) (by kernel_rfl) (by decide) u (by rw [Z7]; exact h)
theorem KE : Tryz.prog.cellsOf 266 = 1 := by kernel_rfl
theorem RM : Tryz.prog.cellsOf 9 = 1 := by kernel_rfl
theorem o7 : Tryz.prog.globalNamed "internal/bytealg.MaxLen" = some 0 := by kernel_rfl
theorem dZ : Tryz.prog.globalNamed "strconv.ErrSyntax" = some 2 := by kernel_rfl
theorem d_ : Tryz.prog.globalNamed "strconv.ErrRange" = some 3 := by kernel_rfl
theorem Ti {W : World} (hL : laidMetH Tryz.prog Ik W) (hs : W.ShapedOpen Tryz.prog) : ∃ vs : List (Nat × Array Value), (∀ p, p ∈ vs → ∃ el f, W.heap[p.1]? = some (.cells p.2 el f)) ∧ VOK Tryz.prog (HV vs) := by
 have h0 : laidMet Tryz.prog Ik W := hL; have h2 := h0.tail.tail; have hT : Lib.TabIs Tryz.prog W "internal/strconv.uint64pow10" .u64 Lib.pow10Tab :=
  Lib.tabIs_of_head (t := 249) (e := 224) (n := 20) dW (by kernel_rfl) Tryz.underlying249 Tryz.underlying224 (by kernel_rfl) (by kernel_rfl) h2
 obtain ⟨a3, s3, hv3, _, _, _⟩ := laid_sentinel h2.tail.tail d_ (by kernel_rfl) Tryz.underlying146 W6 Tryz.underlying264 Tryz.underlying266 rfl rfl Tryz.underlying9 KE RM; obtain ⟨a2, s2, hv2, _, _, _⟩ := laid_sentinel h2.tail.tail.tail dZ (by kernel_rfl) Tryz.underlying146 W6 Tryz.underlying264 Tryz.underlying266 rfl rfl Tryz.underlying9 KE RM; obtain ⟨m, hm⟩ := Tryz.Ul.s1_3 W hs; obtain ⟨x4, el4, f4, hx4, hm4⟩ := Yg hm; refine ⟨[(1, (Lib.pow10Tab.map fun z => Value.int .u64 z).toArray), (2, #[.iface 264 (.pointer (some a2))]), (3, #[.iface 264 (.pointer (some a3))]), (0, x4)], ?_, ?_⟩
 ·intro p hp; simp only [List.mem_cons, List.not_mem_nil, or_false] at hp; rcases hp with rfl | rfl | rfl | rfl
  ·exact QL dW hT
  ·exact QL dZ hv2
  ·exact QL d_ hv3
  ·exact ⟨el4, f4, hx4⟩
 ·exact ⟨1, 2, 3, 0, 264, 264, .pointer (some a2), .pointer (some a3), x4, m, dW, dZ, d_, o7, hm4, List.mem_singleton.2 rfl⟩
section
variable {w : World} {Hh : Type} {enc : TypeId × Value → Hh}
end
end Go.Proofs.YtbgebljjmpklkaaGreatDoor
namespace Go.Idl
open Go Go.Proofs.Tryz Go.Lib
set_option pp.deepTerms false
theorem Tj (c : List (List Str)) (hc : c.length = 8) (h : AH c = true) : Ib (BO c) = some c := by
 obtain ⟨h1, h2, h3⟩ := Dy hc h; unfold Ib; rw [K5 c hc]; refine EB c hc h1 h2 8 0 _ 0 BS (by omega) ?_ (Nat.le_refl _) (by simp [BS]) (fun j hj => by omega) (fun j _ => ?_)
 ·have hg : ∃ v, c.getD 0 [] = [v] := by
   match hq : c.getD 0 [], h3 with
   | [v], _ => exact ⟨v, rfl⟩
  obtain ⟨v, hv⟩ := hg; have e : Ef c 8 0 = BZ 0 [v] ++ Ef c 7 1 := by rw [Ef, hv]
  have hd : 0 < (decDigits 1).length := List.length_pos_iff.2 (NI 1); have hd2 : 0 < (decDigits v.length).length := List.length_pos_iff.2 (NI _); rw [e]; simp [BZ, Ba, GU]; omega
 ·rw [BS, List.getD_eq_getElem?_getD, List.getElem?_replicate]; split <;> rfl
theorem MA (c : List (List Str)) (hc : c.length = 8) (h : AH c = true) : JI (BO c) = some c := by
 unfold JI; rw [Tj c hc h, Option.bind_some, if_pos h]
theorem W7 : ∀ i : Fin 16, Ll (Ih i.1) = some i.1 := by decide
theorem e8 : ∀ i : Fin 16, NP (Ih i.1) = false := by decide
theorem ec {x : UInt8} (h : QB x = false) : 32 ≤ x.toNat ∧ x.toNat ≤ 126 := by
 unfold QB at h; simp only [decide_eq_false_iff_not] at h; omega
theorem Yi {x : UInt8} (h : ¬ CF x = true) : ¬ x = 44 ∧ ¬ x = 92 := by
 refine ⟨fun e => h (by subst e; decide), fun e => h (by subst e; decide)⟩
theorem Pk (s : Str) (hs : s = [] ∨ ∃ r, s = 44 :: r) : ∀ (v : Str) (n : Nat) (blank : Bool) (out : Str), (BR (decide (out = [])) v ++ s).length < n → 1 ≤ out.length + v.length → out.length + v.length ≤ 200 → (v = [] → blank = false) →
    Ei n blank out (BR (decide (out = [])) v ++ s) = some (out ++ v, s)
  | [], 0, blank, out => fun hn => absurd hn (Nat.not_lt_zero _)
  | [], n + 1, blank, out => fun hn h1 h2 hb => by
    have hf : NQ blank out s = some (out, s) := by
      unfold NQ
      rw [if_pos ⟨hb rfl, by simpa using h1, by simpa using h2⟩]
    rcases hs with rfl | ⟨r, rfl⟩
    · simpa [BR, Ei] using hf
    · simpa [BR, Ei] using hf
  | x :: v, 0, blank, out => fun hn => absurd hn (Nat.not_lt_zero _)
  | x :: v, n + 1, blank, out => fun hn h1 h2 hb => by
    have ne : ¬ out ++ [x] = [] := by simp
    have ih := fun b hl hb => Pk s hs v n b (out ++ [x]) hl (by simp; omega) (by simp at h2 ⊢; omega) hb
    rw [decide_eq_false ne] at ih
    have fin : ∀ b, ((BR false v ++ s).length < n) → (v = [] → b = false) → Ei n b (out ++ [x]) (BR false v ++ s) = some (out ++ x :: v, s) := fun b hl hb => by
      have := ih b hl hb
      simpa using this
    rw [BR] at hn ⊢
    unfold JG at hn ⊢
    by_cases a1 : QB x = true
    · rw [if_pos a1] at hn ⊢
      have hd1 : x.toNat / 16 < 16 := by have := x.toNat_lt; omega
      have hd2 : x.toNat % 16 < 16 := by omega
      have e1 : Ga (Ih (x.toNat / 16) :: Ih (x.toNat % 16) :: (BR false v ++ s)) = some (x, BR false v ++ s) := by
        rw [Ga.eq_def]
        simp only [e8 ⟨_, hd1⟩]
        rw [if_neg (by simp), W7 ⟨_, hd1⟩, Option.bind_some, W7 ⟨_, hd2⟩, Option.bind_some]
        have : 16 * (x.toNat / 16) + x.toNat % 16 = x.toNat := by omega
        simp [this]
      simp only [List.cons_append, List.nil_append, List.length_cons] at hn ⊢
      rw [Ei, if_neg (by decide), if_pos rfl, e1, Option.bind_some]
      exact fin false (by omega) (fun _ => rfl)
    · rw [if_neg a1] at hn ⊢
      have hodd := ec (by simpa using a1)
      by_cases a2 : (CF x || (decide (out = []) && decide (x = 32 ∨ x = 35)) || (v.isEmpty && decide (x = 32))) = true
      · rw [if_pos a2] at hn ⊢
        have hp : NP x = true := by
          simp only [Bool.or_eq_true, Bool.and_eq_true, decide_eq_true_eq] at a2
          simp only [NP, Bool.or_eq_true, decide_eq_true_eq]
          rcases a2 with (h | ⟨_, h | h⟩) | ⟨_, h⟩
          · exact .inl (.inl h)
          · exact .inl (.inr h)
          · exact .inr h
          · exact .inl (.inr h)
        have e1 : Ga (x :: (BR false v ++ s)) = some (x, BR false v ++ s) := by rw [Ga.eq_def]; simp only [hp, if_true]
        simp only [List.cons_append, List.nil_append, List.length_cons] at hn ⊢
        rw [Ei, if_neg (by decide), if_pos rfl, e1, Option.bind_some]
        exact fin false (by omega) (fun _ => rfl)
      · rw [if_neg a2] at hn ⊢
        simp only [Bool.or_eq_true, Bool.and_eq_true, decide_eq_true_eq, not_or, not_and] at a2
        obtain ⟨⟨b1, b2⟩, b3⟩ := a2
        obtain ⟨c1, c2⟩ := Yi b1
        have hfine : Lm (decide (out = [])) x = true := by
          simp only [Lm, Bool.and_eq_true, Bool.or_eq_true, Bool.not_eq_true', decide_eq_true_eq, decide_eq_false_iff_not]
          refine ⟨⟨⟨by simpa using b1, hodd.1⟩, hodd.2⟩, ?_⟩
          by_cases h0 : out = []
          · right
            have := b2 h0
            exact this
          · left; exact h0
        simp only [List.cons_append, List.nil_append, List.length_cons] at hn ⊢
        rw [Ei, if_neg c1, if_neg c2, if_pos hfine]
        refine fin _ (by omega) fun hv => ?_
        simp only [decide_eq_false_iff_not]
        exact b3 (by rw [hv]; rfl)
theorem QN (r : S89) (d : List S89) (h : B_ r = true) : FD (Bq (r :: d)) = some (r, DT d) := by
 simp only [B_, Bool.and_eq_true, decide_eq_true_eq] at h; obtain ⟨⟨hn, hl⟩, hv⟩ := h; rw [CS]; have hc : B7 (r.fType ++ 61 :: (BR true r.Aa ++ DT d)) 61 = some (r.fType, BR true r.Aa ++ DT d) := Bf.2 ⟨rfl, J5 hn⟩; unfold FD; rw [hc]; simp only [hn, if_true]; have ht : DT d = [] ∨ ∃ r, DT d = 44 :: r := by
  cases d with
  | nil => exact .inl rfl
  | cons a d => exact .inr ⟨_, rfl⟩
 have := Pk (DT d) ht r.Aa ((BR true r.Aa ++ DT d).length + 1) false [] (by simp) (by simp; omega) (by simp; omega) (fun _ => rfl); rw [decide_eq_true rfl, List.nil_append] at this; rw [this, Option.map_some, hl]
theorem Jz : ∀ (d : List S89) (n : Nat), ¬ d = [] → d.length ≤ n → (∀ x ∈ d, B_ x = true) → E3 n (Bq d) = some d
  | [], _, h, _, _ => absurd rfl h
  | r :: d, 0, _, h, _ => by simp at h
  | r :: d, n + 1, _, h, hr => by
    rw [E3, QN r d (hr r (by simp)), Option.bind_some]
    cases d with
    | nil => rfl
    | cons a d =>
      have ih := Jz (a :: d) n (by simp) (by simpa using h) (fun x hx => hr x (by simp [hx]))
      show (E3 n (Bq (a :: d))).map (r :: ·) = _
      rw [ih]
      rfl
theorem Pm (d : List S89) (h : Bt d = true) : FE (Bq d) = some d := by
 simp only [Bt, Bool.and_eq_true, decide_eq_true_eq, List.all_eq_true] at h; unfold FE; cases d with
 | nil => rfl
 | cons r d =>
  rw [if_neg (by rw [CS]; simp)]; exact Jz (r :: d) 16 (by simp) h.1 h.2
theorem QO {y : S33} (h : A_ y = true) : FF (Gd y).Aa = some (y.Ad, y.Am, Bq y.fDn, BO y.A5) := by
 obtain ⟨h1, h2, _⟩ := BH h; have h3 := EG (Dk (Dz h)); unfold FF Gd; simp only [Pe]; rw [Bf.2 ⟨rfl, h1⟩, Option.bind_some, Bf.2 ⟨rfl, h2⟩, Option.bind_some, Bf.2 ⟨rfl, h3⟩]; rfl
theorem Tk {y : S33} (h : A_ y = true) (h8 : y.A5.length = 8) : Gr (Gd y).Aa = some y := by
 unfold Gr; rw [QO h, Option.bind_some]; simp only; rw [Pm _ (Dz h), Option.bind_some, MA _ h8 (BH h).2.2, Option.bind_some, if_pos ⟨rfl, h⟩]
section
variable {m : Mp} {n : Np} {pr : Option S33} {d : S35}
end
end Go.Idl
namespace Go.Idl
open Go Go.Proofs.Tryz Go.Lib
set_option pp.deepTerms false
theorem QS {x : S39} {L : List S39} (hx : Cx x = true) (h8 : x.A5.length = 8) (h1 : ∀ y ∈ L, ¬ y.Ad = x.Ad) (h2 : ∀ y ∈ L, ¬ y.Am = x.Am) (hl : L.length < 64) : EI (Co x) L = some (ES (·.Ad) x L) := by
 have hg := hx; simp only [Cx, Bool.and_eq_true] at hg; have e1 : B7 (Co x).Aa 10 = some (x.Am, BO x.A5) := Bf.2 ⟨by simp [Co], G4 hg.1.2⟩; have c1 : Bz L x.Ad = -1 := by
  unfold Bz; refine Mn fun y hy => ?_; simp only [decide_eq_false_iff_not]; exact h1 y hy
 have c2 : H_ L x.Am = -1 := by
  unfold H_; refine Mn fun y hy => ?_; simp only [decide_eq_false_iff_not]; exact h2 y hy
 have ha : Gb L x = (ES (·.Ad) x L, 0) := by
  unfold Gb; rw [if_pos hx, if_neg (by rw [c1]; decide), if_neg (by rw [c2]; decide), if_neg (by omega)]
 unfold EI; have hk : (Co x).Bb = 112 :: x.Ad := rfl; rw [hk]; simp only; rw [e1, Option.bind_some, MA _ h8 hg.2, Option.bind_some, if_pos (by rw [ha])]; rw [ha]
section
variable {m : Mp} {n : Np} {pr : Option S33} {d : S35}
theorem Pn (I : Inv m n pr d) {x : S39} {L xs ys : List S39} (hp : (L ++ xs).Perm d.fL) (hx : xs.Perm (x :: ys)) (hr : L.Pairwise fun a b => lt8 a.Ad b.Ad) :
    EI (Co x) L = some (ES (·.Ad) x L) ∧ (ES (·.Ad) x L ++ ys).Perm d.fL ∧ (ES (·.Ad) x L).Pairwise fun a b => lt8 a.Ad b.Ad := by
 have hq : (x :: (L ++ ys)).Perm d.fL := (List.perm_middle.symm.trans ((hx.symm.append_left L))).trans hp; have hm : x ∈ d.fL := hq.subset (by simp); have hne : ∀ y ∈ L ++ ys, ¬ y.Ad = x.Ad := fun y hy e => by
  have hnd : (d.fL.map (·.Ad)).Nodup := GV I.tabs.P0; have := (hq.map (·.Ad)).nodup_iff.2 hnd; rw [List.map_cons, List.nodup_cons] at this; exact this.1 (List.mem_map.2 ⟨y, hy, e⟩)
 have hnu : ∀ y ∈ L ++ ys, ¬ y.Am = x.Am := fun y hy e => by
  have hnd : (d.fL.map (·.Am)).Nodup := List.pairwise_map.2 I.tabs.uu; have := (hq.map (·.Am)).nodup_iff.2 hnd; rw [List.map_cons, List.nodup_cons] at this; exact this.1 (List.mem_map.2 ⟨y, hy, e⟩)
 have hl := hq.length_eq; rw [List.length_cons, List.length_append] at hl; have h64 := I.len; refine ⟨QS (I.good _ hm).1 (I.sh _ hm) (fun y hy => hne y (by simp [hy])) (fun y hy => hnu y (by simp [hy])) (by omega), ?_, J1 hr (fun y hy => hne y (by simp [hy]))⟩; exact ((Mm x L).append_right ys).trans hq
theorem Tl (I : Inv m n pr d) {L : List S39} (hp : L.Perm d.fL) (hr : L.Pairwise fun a b => lt8 a.Ad b.Ad) : L = d.fL :=
  List.Perm.eq_of_pairwise (fun a b _ _ h1 h2 => absurd (J0 h1 h2) (CR _)) hr I.tabs.Vn hp
theorem J9 (I : Inv m n pr d) : ∀ (l : List S78) (L xs : List S39), l.Perm (xs.map Co) → (L ++ xs).Perm d.fL → (L.Pairwise fun a b => lt8 a.Ad b.Ad) → ofS l ⟨L, d.fP⟩ = some d
  | [], L, xs, h, hp, hr => by
    have : xs = [] := by
      have := h.length_eq
      rw [List.length_map] at this
      exact List.eq_nil_of_length_eq_zero this.symm
    subst this
    rw [List.append_nil] at hp
    rw [ofS, Tl I hp hr]
  | r :: l, L, xs, h, hp, hr => by
    obtain ⟨x, hx, rfl⟩ := List.mem_map.1 (h.subset (List.mem_cons_self))
    obtain ⟨ys, hys⟩ : ∃ ys, xs.Perm (x :: ys) := by
      obtain ⟨s, t, rfl⟩ := List.append_of_mem hx
      exact ⟨s ++ t, List.perm_middle⟩
    obtain ⟨a1, a2, a3⟩ := Pn I hp hys hr
    rw [ofS, if_neg (fun e => by have := e.1; simp [Co] at this)]
    simp only
    rw [a1, Option.bind_some]
    exact J9 I l _ ys ((h.trans (hys.map Co)).cons_inv) a2 a3
theorem MB (I : Inv m n pr d) (hpr : A_ d.fP = true) : ∀ (l : List S78) (L xs : List S39), l.Perm (Gd d.fP :: xs.map Co) → (L ++ xs).Perm d.fL → (L.Pairwise fun a b => lt8 a.Ad b.Ad) → ofS l ⟨L, S33.zero⟩ = some d
  | [], L, xs, h, hp, hr => by simp at h
  | r :: l, L, xs, h, hp, hr => by
    rcases List.mem_cons.1 (h.subset (List.mem_cons_self)) with rfl | hm
    · rw [ofS, if_pos ⟨rfl, rfl⟩, Tk hpr I.psh, Option.bind_some]
      exact J9 I l L xs h.cons_inv hp hr
    · obtain ⟨x, hx, rfl⟩ := List.mem_map.1 hm
      obtain ⟨ys, hys⟩ : ∃ ys, xs.Perm (x :: ys) := by
        obtain ⟨s, t, rfl⟩ := List.append_of_mem hx
        exact ⟨s ++ t, List.perm_middle⟩
      obtain ⟨a1, a2, a3⟩ := Pn I hp hys hr
      rw [ofS, if_neg (fun e => by have := e.1; simp [Co] at this)]
      simp only
      rw [a1, Option.bind_some]
      refine MB I hpr l _ ys ?_ a2 a3
      have q : (Co x :: l).Perm (Co x :: Gd d.fP :: ys.map Co) := h.trans (((hys.map Co).cons _).trans (List.Perm.swap _ _ _))
      exact q.cons_inv
theorem W8 (I : Inv m n pr d) {l : List S78} (h : l.Perm (D8 d)) : ofS l ⟨[], S33.zero⟩ = some d := by
 unfold D8 at h; rcases I.Mx with ⟨a1, _, a3⟩ | ⟨a1, _, a3⟩
 ·rw [if_pos a1, List.nil_append] at h; rw [← a3]; exact J9 I l [] d.fL h (by simp) .nil
 ·rw [if_neg a1, List.singleton_append] at h; exact MB I a3 l [] d.fL h (by simp) .nil
end
end Go.Idl
namespace Go.Idl
set_option maxHeartbeats 8000000
set_option pp.deepTerms false
set_option maxRecDepth 60000
open Go Go.Proofs.Tryz
end Go.Idl
namespace Go.Idl
set_option maxHeartbeats 8000000
set_option pp.deepTerms false
set_option maxRecDepth 60000
open Go Go.Proofs.Tryz
noncomputable def NS (v9 : List UInt8) : Option (List UInt8) :=
 some v9
noncomputable def Il (v8 : Int) (v21 : List UInt8) : Option (((List UInt8) × Int) ⊕ (List UInt8)) :=
 some (.inl ((v21, IntKind.i64.wrap (v8 + 1))))
noncomputable def DW (a0 : List (List (List UInt8))) (v8 : Int) (v19 : List UInt8) (v20 : Int) : Option (((List UInt8) × Int) ⊕ (List UInt8)) :=
 gd (0 ≤ v8 ∧ v8 < 8) (if v20 < (((a0.getD v8.toNat []).length : Int)) then (gd (0 ≤ v20 ∧ v20 < (a0.getD v8.toNat []).length) ((SJ ((((a0.getD v8.toNat []).getD v20.toNat []).length : Int))).bind fun (x28 : (List UInt8)) => gd ((v19.length : Int) + x28.length ≤ 9223372036854775807) (gd (((v19 ++ x28).length : Int) + (([32]) : List UInt8).length ≤ 9223372036854775807) (gd ((((v19 ++ x28) ++ ([32])).length : Int) + ((a0.getD v8.toNat []).getD v20.toNat []).length ≤ 9223372036854775807) (gd (((((v19 ++ x28) ++ ([32])) ++ ((a0.getD v8.toNat []).getD v20.toNat [])).length : Int) + (([10]) : List UInt8).length ≤ 9223372036854775807) (some (.inl (((((v19 ++ x28) ++ ([32])) ++ ((a0.getD v8.toNat []).getD v20.toNat [])) ++ ([10]), IntKind.i64.wrap (v20 + 1)))))))))) else (some (.inr v19)))
noncomputable def G5 (a0 : List (List (List UInt8))) (v8 : Int) (v16 : List UInt8) : Option (((List UInt8) × Int) ⊕ (List UInt8)) :=
 (AE (fun (s : (List UInt8) × Int) => DW a0 v8 s.1 s.2) (v16, 0)).bind fun (e : (List UInt8)) => Il v8 e
noncomputable def FH (a0 : List (List (List UInt8))) (v7 : List UInt8) (v8 : Int) : Option (((List UInt8) × Int) ⊕ (List UInt8)) :=
 if v8 < 8 then (gd (0 ≤ v8 ∧ v8 < 8) (if 0 < (((a0.getD v8.toNat []).length : Int)) then ((XK ).bind fun (x36 : (List (List UInt8))) => gd (0 ≤ v8 ∧ v8 < x36.length) (gd ((v7.length : Int) + (x36.getD v8.toNat []).length ≤ 9223372036854775807) (gd (((v7 ++ (x36.getD v8.toNat [])).length : Int) + (([32]) : List UInt8).length ≤ 9223372036854775807) ((SJ (((a0.getD v8.toNat []).length : Int))).bind fun (x40 : (List UInt8)) => gd ((((v7 ++ (x36.getD v8.toNat [])) ++ ([32])).length : Int) + x40.length ≤ 9223372036854775807) (gd (((((v7 ++ (x36.getD v8.toNat [])) ++ ([32])) ++ x40).length : Int) + (([10]) : List UInt8).length ≤ 9223372036854775807) (G5 a0 v8 ((((v7 ++ (x36.getD v8.toNat [])) ++ ([32])) ++ x40) ++ ([10])))))))) else (G5 a0 v8 v7))) else (some (.inr v7))
noncomputable def F70 (a0 : List (List (List UInt8))) : Option (List UInt8) :=
 gd (a0.length = 8) ((AE (fun (s : (List UInt8) × Int) => FH a0 s.1 s.2) ([], 0)).bind fun (e : (List UInt8)) => NS e)
theorem W9 {H : A2} {K : Aw → A2 → Prop} (a0 : List (List (List UInt8))) {r : (List UInt8)} (h : F70 a0 = some r) (hK : K (.ret (.v (str r))) H) : Ac prog 70 [.ag (a0.map fun x => .sl 1 (x.map fun x => [.v (str x)]))] H K := by
 refine Ag (N := 57) func70 (by kernel_rfl) rfl (by kernel_rfl) (by kernel_rfl) fun cb hcb hw hbd hnb => ?_; clear hbd hnb; subst hcb; unfold F70 at h; obtain ⟨g2, h⟩ := Af.1 h; refine wG ?_; refine wG ?_; refine A3 fun cb hc4 => ?_; refine wG ?_; obtain ⟨y6, hl6q, hk6⟩ := A4 h; refine Az (fun tm' H' => ∃ v9 : List UInt8, v9 = y6 ∧ Ext H H' ∧ H.next + 1 ≤ H'.next ∧ tm' 3 = .v (str v9) ∧ H'.obj H.next = some (.cells ((a0.map fun x => .sl 1 (x.map fun x => [.v (str x)]))))) ?_ fun cb hc6 => ?_
 ·rintro tm6e H6e ⟨v9, rfl, he6e, hl6e, t3_6e, ob0_6e⟩
  have h : NS v9 = some r := hk6; unfold NS at h; simp -implicitDefEqProofs only [go_sem]; subst hc4; refine wF t3_6e ?_; obtain rfl := sI h; refine vS ?_; refine Ax (Au he6e) rfl nbA hK
 refine Ak ?_; refine AA (fun (s : (List UInt8) × Int) tm' H' => Ext H H' ∧ H.next + 1 ≤ H'.next ∧ tm' 1 = .p H.next 0 ∧ tm' 3 = .v (str s.1) ∧ tm' 4 = .v (.int .i64 s.2) ∧ H'.obj H.next = some (.cells ((a0.map fun x => .sl 1 (x.map fun x => [.v (str x)]))))) hl6q ?_ ?_
 ·refine .same ⟨by exact Au (Ext.refl hw), by (simp -implicitDefEqProofs (disch := omega) [go_sem] <;> omega), ?_, ?_, ?_, ?_⟩ <;> (simp -implicitDefEqProofs (disch := omega) [go_sem] <;> omega)
 rintro I6 hI6 ⟨v7, v8⟩ x6 tm6 H6 ⟨he6, hl6, Yj, Qz, GY, EL⟩ h hret6
 replace h : FH a0 v7 v8 = some x6 := h; unfold FH at h; refine A3 fun cb hc11 => ?_; refine wF GY ?_; refine Ab h eA rfl ?_ ?_
 ·intro c13 h; refine vO ?_; subst hc11; refine A3 fun cb hc14 => ?_; refine Ak ?_; refine BE (fun tm' H' => ∃ v16 : List UInt8, H6 = H' ∧ tm' 1 = .p H.next 0 ∧ tm' 3 = .v (str v16) ∧ tm' 4 = .v (.int .i64 v8) ∧ G5 a0 v8 v16 = some x6) ?_ fun cb hc15 => ?_
  ·rintro tm15 H15 ⟨v16, rfl, RN, jK, jL, h⟩
   unfold G5 at h; refine wG ?_; obtain ⟨y18, hl18q, hk18⟩ := A4 h; refine Az (fun tm' H' => ∃ v21 : List UInt8, v21 = y18 ∧ H6 = H' ∧ tm' 1 = .p H.next 0 ∧ tm' 3 = .v (str v21) ∧ tm' 4 = .v (.int .i64 v8)) ?_ fun cb hc18 => ?_
   ·rintro tm18e H18e ⟨v21, rfl, rfl, t1_18e, t3_18e, t4_18e⟩
    have h : Il v8 v21 = some x6 := hk18; unfold Il at h; simp -implicitDefEqProofs only [go_sem]; subst hc14; refine vF t4_18e ?_; obtain rfl := sI h; refine An hI6 ((v21, IntKind.i64.wrap (v8 + 1))) ?_; refine .same ⟨by exact Au he6, by with_reducible assumption, ?_, ?_, ?_, ?_⟩ <;> first | with_reducible assumption | (simp -implicitDefEqProofs (disch := omega) [go_sem, t1_18e, t3_18e] <;> omega)
   refine Ak ?_; refine AA (fun (s : (List UInt8) × Int) tm' H' => H6 = H' ∧ tm' 1 = .p H.next 0 ∧ tm' 3 = .v (str s.1) ∧ tm' 4 = .v (.int .i64 v8) ∧ tm' 5 = .v (.int .i64 s.2)) hl18q ?_ ?_
   ·exact smF (nd RN (nd jK jL))
   rintro I18 hI18 ⟨v19, v20⟩ x18 tm18 H18 ⟨rfl, Po, Z8, Pp, RP⟩ h hret18
   replace h : DW a0 v8 v19 v20 = some x18 := h; unfold DW at h; refine A3 fun cb hc22 => ?_; obtain ⟨g24, h⟩ := Af.1 h; refine wF (nd Po (nd Pp (nd RP (nd g2 EL)))) ?_; refine Ab h eA rfl ?_ ?_
   ·intro c25 h; simp (disch := omega) at c25; refine vO ?_; subst hc22; refine A3 fun cb hc26 => ?_; refine Ak ?_; refine Ay [8] [0, 1, 2, 3, 4, 5, 6, 7, 8, 9, 10, 11, 12, 13, 14, 15, 16, 17, 18, 19] (by kernel_rfl) (by kernel_rfl) (fun _ _ _ _ h => h) ?_; obtain ⟨g27, h⟩ := gS h; refine sF (nd Po (nd Z8 (nd Pp (nd RP (nd g2 EL))))) ?_; obtain ⟨x28, hx28, h⟩ := A4 h; refine BN.mk _ (fun _ _ hK => Ac.eqA eA (Rm ((((a0.getD v8.toNat []).getD v20.toNat []).length : Int)) hx28 hK)) ?_; obtain ⟨g29, h⟩ := Af.1 h; obtain ⟨g30, h⟩ := gS h; obtain ⟨g31, h⟩ := gS h; obtain ⟨g32, h⟩ := gS h; refine sF (nd Po (nd Pp (nd RP (nd g2 EL)))) ?_; subst hc26; refine vF RP ?_; obtain rfl := sI h; refine An hI18 (((((v19 ++ x28) ++ ([32])) ++ ((a0.getD v8.toNat []).getD v20.toNat [])) ++ ([10]), IntKind.i64.wrap (v20 + 1))) ?_; exact smF (nd Po Pp)
   intro c25 h; simp (disch := omega) at c25; refine vO ?_; obtain rfl := sI h; have hy18 := hret18 _ rfl; refine hc18 _ _ ?_; refine .same ⟨v19, hy18, rfl, ?_, ?_, ?_⟩ <;> (simp -implicitDefEqProofs (disch := omega) [go_sem, Po, Z8, Pp] <;> omega)
  obtain ⟨g34, h⟩ := Af.1 h; refine wF (nd Yj (nd GY (nd g2 EL))) ?_; refine Ab h eA rfl ?_ ?_
  ·intro c35 h; simp (disch := omega) at c35; refine Ay [1, 11] [0, 1, 2, 3, 4, 5, 6, 7, 8, 9, 10, 11, 12, 13, 14] (by kernel_rfl) (by kernel_rfl) (fun _ _ _ _ h => h) ?_; refine sF (nd Qz GY) ?_; obtain ⟨x36, hx36, h⟩ := A4 h; refine BN.mk _ (fun _ _ hK => XL  hx36 hK) ?_; obtain ⟨g37, h⟩ := Af.1 h; obtain ⟨g38, h⟩ := gS h; obtain ⟨g39, h⟩ := gS h; refine sF (nd Yj (nd GY (nd g2 EL))) ?_; obtain ⟨x40, hx40, h⟩ := A4 h; refine BN.mk _ (fun _ _ hK => Ac.eqA eA (Rm (((a0.getD v8.toNat []).length : Int)) hx40 hK)) ?_; obtain ⟨g41, h⟩ := gS h; obtain ⟨g42, h⟩ := gS h; refine sG ?_; refine hc15 _ _ ?_; refine .same ⟨((((v7 ++ (x36.getD v8.toNat [])) ++ ([32])) ++ x40) ++ ([10])), rfl, ?_, ?_, ?_, h⟩ <;> (simp -implicitDefEqProofs (disch := omega) [go_sem, Yj, GY] <;> omega)
  intro c35 h; simp (disch := omega) at c35; refine vO ?_; refine hc15 _ _ ?_; refine .same ⟨v7, rfl, ?_, ?_, ?_, h⟩ <;> (simp -implicitDefEqProofs (disch := omega) [go_sem, Yj, Qz, GY] <;> omega)
 intro c13 h; simp (disch := omega) at c13; refine vO ?_; obtain rfl := sI h; have hy6 := hret6 _ rfl; refine hc6 _ _ ?_; refine .same ⟨v7, hy6, by exact Au he6, by with_reducible assumption, ?_, ?_⟩ <;> first | with_reducible assumption | (simp -implicitDefEqProofs (disch := omega) [go_sem, Qz] <;> omega)
noncomputable def F69 (a0 : S33) : Option S78 :=
 gd (a0.A5.length = 8) (gd ((a0.Ad.length : Int) + (([10]) : List UInt8).length ≤ 9223372036854775807) (gd (((a0.Ad ++ ([10])).length : Int) + a0.Am.length ≤ 9223372036854775807) (gd ((((a0.Ad ++ ([10])) ++ a0.Am).length : Int) + (([10]) : List UInt8).length ≤ 9223372036854775807) ((VF a0.fDn).bind fun (x7 : (List UInt8)) => gd (((((a0.Ad ++ ([10])) ++ a0.Am) ++ ([10])).length : Int) + x7.length ≤ 9223372036854775807) (gd ((((((a0.Ad ++ ([10])) ++ a0.Am) ++ ([10])) ++ x7).length : Int) + (([10]) : List UInt8).length ≤ 9223372036854775807) ((F70 a0.A5).bind fun (x10 : (List UInt8)) => gd (((((((a0.Ad ++ ([10])) ++ a0.Am) ++ ([10])) ++ x7) ++ ([10])).length : Int) + x10.length ≤ 9223372036854775807) (some ((⟨[105], (((((a0.Ad ++ ([10])) ++ a0.Am) ++ ([10])) ++ x7) ++ ([10])) ++ x10⟩ : S78)))))))))
theorem ef {H : A2} {K : Aw → A2 → Prop} (a0 : S33) {r : S78} (h : F69 a0 = some r) (hK : K (.ret (.ag ([.v (str r.Bb), .v (str r.Aa)]))) H) : Ac prog 69 [.ag (.v (str a0.Ad) :: .v (str a0.Am) :: .sl 2 (a0.fDn.map fun x => [.v (str x.fType), .v (str x.Aa)]) :: (a0.A5.map fun x => .sl 1 (x.map fun x => [.v (str x)])))] H K := by
 refine Ag (N := 20) func69 (by kernel_rfl) rfl (by kernel_rfl) (by kernel_rfl) fun cb hcb hw hbd hnb => ?_; clear hbd hnb; subst hcb; unfold F69 at h; obtain ⟨g2, h⟩ := Af.1 h; refine wG ?_; refine A3 fun cb hc3 => ?_; refine Ay [9, 14] [0, 1, 2, 3, 4, 5, 6, 7, 8, 9, 10, 11, 12, 13, 14, 15, 16, 17] (by kernel_rfl) (by kernel_rfl) (fun _ _ _ _ h => h) ?_; obtain ⟨g4, h⟩ := gS h; obtain ⟨g5, h⟩ := gS h; obtain ⟨g6, h⟩ := gS h; refine sF g2 ?_; obtain ⟨x7, hx7, h⟩ := A4 h; refine BN.mk _ (fun _ _ hK => X_ a0.fDn hx7 hK) ?_; obtain ⟨g8, h⟩ := gS h; obtain ⟨g9, h⟩ := gS h; refine sF g2 ?_; obtain ⟨x10, hx10, h⟩ := A4 h; refine BN.mk _ (fun _ _ hK => W9 a0.A5 hx10 hK) ?_; obtain ⟨g11, h⟩ := gS h; simp -implicitDefEqProofs (disch := omega) [go_sem, bdP, g2]; subst hc3; obtain rfl := sI h; refine vS ?_; exact Av (.refl hw) hK
noncomputable def Lv (v13 : List S78) : Option (List S78) :=
 some v13
noncomputable def FI (a0 : List S39) (v10 : List S78) (v12 : Int) : Option (((List S78) × Int) ⊕ (List S78)) :=
 if v12 < (a0.length : Int) then (gd (0 ≤ v12 ∧ v12 < a0.length) (gd (((([112]) : List UInt8).length : Int) + ((a0.getD v12.toNat S39.zero).Ad).length ≤ 9223372036854775807) (gd ((((a0.getD v12.toNat S39.zero).Am).length : Int) + (([10]) : List UInt8).length ≤ 9223372036854775807) (gd (((a0.getD v12.toNat S39.zero).A5).length = 8) ((F70 ((a0.getD v12.toNat S39.zero).A5)).bind fun (x24 : (List UInt8)) => gd (((((a0.getD v12.toNat S39.zero).Am) ++ ([10])).length : Int) + x24.length ≤ 9223372036854775807) (gd ((v10.length + ([(⟨([112]) ++ ((a0.getD v12.toNat S39.zero).Ad), (((a0.getD v12.toNat S39.zero).Am) ++ ([10])) ++ x24⟩ : S78)]).length) * 32 ≤ 140737488355328) (some (.inl ((v10 ++ ([(⟨([112]) ++ ((a0.getD v12.toNat S39.zero).Ad), (((a0.getD v12.toNat S39.zero).Am) ++ ([10])) ++ x24⟩ : S78)]), IntKind.i64.wrap (v12 + 1))))))))))) else (some (.inr v10))
noncomputable def Lw (a0 : List S39) (v5 : List S78) : Option (List S78) :=
 (AE (fun (s : (List S78) × Int) => FI a0 s.1 s.2) (v5, 0)).bind fun (e : (List S78)) => Lv e
noncomputable def F37 (a0 : List S39) (a1 : S33) : Option (List S78) :=
 gd (a1.A5.length = 8) (if ¬ a1.Ad = [] then ((F69 a1).bind fun (x31 : S78) => gd (([x31]).length * 32 ≤ 140737488355328) (Lw a0 ([x31]))) else (Lw a0 []))
theorem eo {H : A2} {K : Aw → A2 → Prop} (a0 : List S39) (a1 : S33) {r : (List S78)} (h : F37 a0 a1 = some r) (hK : K (.ret (.sl 2 (r.map fun x => [.v (str x.Bb), .v (str x.Aa)]))) H) : Ac prog 37 [.sl 10 (a0.map k39), .ag (.v (str a1.Ad) :: .v (str a1.Am) :: .sl 2 (a1.fDn.map fun x => [.v (str x.fType), .v (str x.Aa)]) :: (a1.A5.map fun x => .sl 1 (x.map fun x => [.v (str x)])))] H K := by
 refine Ag (N := 45) func37 (by kernel_rfl) rfl (by kernel_rfl) (by kernel_rfl) fun cb hcb hw hbd hnb => ?_; clear hbd hnb; subst hcb; unfold F37 at h; obtain ⟨g2, h⟩ := Af.1 h; refine wG ?_; refine wG ?_; refine BE (fun tm' H' => ∃ n6 : Nat, ∃ v5 : List S78, Ext H H' ∧ H.next + 1 ≤ H'.next ∧ H.next ≤ n6 ∧ n6 < H'.next ∧ ¬ H.next = n6 ∧ tm' 0 = .sl 10 (a0.map k39) ∧ tm' 5 = .os n6 v5.length ∧ H'.obj H.next = some (.cells (.v (str a1.Ad) :: .v (str a1.Am) :: .sl 2 (a1.fDn.map fun x => [.v (str x.fType), .v (str x.Aa)]) :: (a1.A5.map fun x => .sl 1 (x.map fun x => [.v (str x)])))) ∧ H'.obj n6 = some (.row 2 (v5.map fun x => [.v (str x.Bb), .v (str x.Aa)])) ∧ Lw a0 v5 = some r) ?_ fun cb hc4 => ?_
 ·rintro tm4 H4 ⟨n6, v5, he4, hl4, oJ, oK, hq33, Bh, L4, oL, oM, h⟩
  unfold Lw at h; refine A3 fun cb hc7 => ?_; refine wG ?_; obtain ⟨y9, hl9q, hk9⟩ := A4 h; refine Az (fun tm' H' => ∃ n14 : Nat, ∃ v13 : List S78, v13 = y9 ∧ Ext H H' ∧ H4.next ≤ H'.next ∧ H.next ≤ n14 ∧ n14 < H'.next ∧ ¬ H.next = n14 ∧ tm' 5 = .os n14 v13.length ∧ H'.obj H.next = some (.cells (.v (str a1.Ad) :: .v (str a1.Am) :: .sl 2 (a1.fDn.map fun x => [.v (str x.fType), .v (str x.Aa)]) :: (a1.A5.map fun x => .sl 1 (x.map fun x => [.v (str x)])))) ∧ H'.obj n14 = some (.row 2 (v13.map fun x => [.v (str x.Bb), .v (str x.Aa)]))) ?_ fun cb hc9 => ?_
  ·rintro tm9e H9e ⟨n14, v13, rfl, he9e, hl9e, hr0_9e, hs0_9e, hq27, t5_9e, ob0_9e, or0_9e⟩
   have h : Lv v13 = some r := hk9; unfold Lv at h; simp -implicitDefEqProofs only [go_sem]; subst hc7; refine wF t5_9e ?_; refine IWp.gh (Gh.freeze (d := 4) (k := n14) (sz := 2) (es := v13.map fun x => [.v (str x.Bb), .v (str x.Aa)]) (eF or0_9e) eA) ?_; obtain rfl := sI h; refine vS ?_; refine Ax (Au he9e) rfl nbA hK
  refine Ak ?_; refine AA (fun (s : (List S78) × Int) tm' H' => ∃ n11 : Nat, Ext H H' ∧ H4.next ≤ H'.next ∧ H.next ≤ n11 ∧ n11 < H'.next ∧ ¬ H.next = n11 ∧ tm' 0 = .sl 10 (a0.map k39) ∧ tm' 5 = .os n11 s.1.length ∧ tm' 6 = .v (.int .i64 s.2) ∧ H'.obj H.next = some (.cells (.v (str a1.Ad) :: .v (str a1.Am) :: .sl 2 (a1.fDn.map fun x => [.v (str x.fType), .v (str x.Aa)]) :: (a1.A5.map fun x => .sl 1 (x.map fun x => [.v (str x)])))) ∧ H'.obj n11 = some (.row 2 (s.1.map fun x => [.v (str x.Bb), .v (str x.Aa)]))) hl9q ?_ ?_
  ·refine .same ⟨n6, by exact Au he4, by omega, by with_reducible assumption, by with_reducible assumption, by with_reducible assumption, ?_, ?_, ?_, ?_, ?_⟩ <;> first | with_reducible assumption | (simp -implicitDefEqProofs (disch := omega) [go_sem, Bh, L4] <;> omega)
  rintro I9 hI9 ⟨v10, v12⟩ x9 tm9 H9 ⟨n11, he9, hl9, OM, ON, hq28, SD, jM, ep, Ed, Fl⟩ h hret9
  replace h : FI a0 v10 v12 = some x9 := h; unfold FI at h; refine A3 fun cb hc16 => ?_; refine wF (nd SD ep) ?_; refine Ab h eA rfl ?_ ?_
  ·intro c18 h; refine vO ?_; subst hc16; refine A3 fun cb hc19 => ?_; refine Ak ?_; refine Ay [18] [0, 1, 2, 3, 4, 5, 6, 7, 8, 9, 10, 11, 12, 13, 14, 15, 16, 17, 18, 19, 20, 21, 22, 23] (by kernel_rfl) (by kernel_rfl) (fun _ _ _ _ h => h) ?_; obtain ⟨g20, h⟩ := Af.1 h; obtain ⟨g21, h⟩ := gS h; obtain ⟨g22, h⟩ := gS h; obtain ⟨g23, h⟩ := gS h; refine sF (nd SD (nd jM (nd ep g23))) ?_; obtain ⟨x24, hx24, h⟩ := A4 h; refine BN.mk _ (fun _ _ hK => Ac.eqA eA (W9 ((a0.getD v12.toNat S39.zero).A5) hx24 hK)) ?_; obtain ⟨g25, h⟩ := gS h; obtain ⟨g26, h⟩ := gS h; simp -implicitDefEqProofs (disch := omega) [go_sem, bdP, Fl]; subst hc19; refine vF ep ?_; obtain rfl := sI h; refine An hI9 ((v10 ++ ([(⟨([112]) ++ ((a0.getD v12.toNat S39.zero).Ad), (((a0.getD v12.toNat S39.zero).Am) ++ ([10])) ++ x24⟩ : S78)]), IntKind.i64.wrap (v12 + 1))) ?_; refine .same ⟨n11, by exact Au he9, by (simp -implicitDefEqProofs (disch := omega) [go_sem] <;> omega), by with_reducible assumption, by (simp -implicitDefEqProofs (disch := omega) [go_sem] <;> omega), by with_reducible assumption, ?_, ?_, ?_, ?_, ?_⟩ <;> (simp -implicitDefEqProofs (disch := omega) [go_sem, SD, Ed] <;> omega)
  intro c18 h; simp (disch := omega) at c18; refine vO ?_; obtain rfl := sI h; have hy9 := hret9 _ rfl; refine hc9 _ _ ?_; refine .same ⟨n11, v10, hy9, by exact Au he9, by with_reducible assumption, by with_reducible assumption, by with_reducible assumption, by with_reducible assumption, ?_, ?_, ?_⟩ <;> first | with_reducible assumption | (simp -implicitDefEqProofs (disch := omega) [go_sem, jM] <;> omega)
 refine wF g2 ?_; refine Ab h eA rfl ?_ ?_
 ·intro c30 h; refine vF g2 ?_; obtain ⟨x31, hx31, h⟩ := A4 h; refine ef a1 hx31 ?_; obtain ⟨g32, h⟩ := gS h; refine sG ?_; refine hc4 _ _ ?_; refine .same ⟨H.next + 1, ([x31]), by exact Au (Ext.refl hw), by (simp -implicitDefEqProofs (disch := omega) [go_sem] <;> omega), by omega, by (simp -implicitDefEqProofs (disch := omega) [go_sem] <;> omega), by omega, ?_, ?_, ?_, ?_, h⟩ <;> (simp -implicitDefEqProofs (disch := omega) [go_sem] <;> omega)
 intro c30 h; simp (disch := omega) at c30; refine vO ?_; refine hc4 _ _ ?_; refine UpI.gh (Gh.PZ (d := 5) (sz := 2) (by omega) eA) ?_; refine .same ⟨H.next + 1, [], by exact Au (Ext.refl hw), by (simp -implicitDefEqProofs (disch := omega) [go_sem] <;> omega), by omega, by (simp -implicitDefEqProofs (disch := omega) [go_sem] <;> omega), by omega, ?_, ?_, ?_, ?_, h⟩ <;> (simp -implicitDefEqProofs (disch := omega) [go_sem] <;> omega)
end Go.Idl
namespace Go.Idl
open Go Go.RowKit
theorem Rn.osR {H J : A2} {ρ : Nat → Nat} {m k k' n n' : Nat} (e : ρ k = k') (h : k < J.next) (en : n' = n) : Rn H J ρ m (.os k' n') (.os k n) := by subst e; subst en; exact .os k _ h
theorem Wa {α : Type} {n s : Nat} {f : α → List IV} {l : List α} (h : ∀ x, NBL n (f x)) : NBo n (.row s (l.map f)) := by
 intro e he c hc; obtain ⟨x, _, rfl⟩ := List.mem_map.1 he; exact h x c hc
section
variable {α : Type} {f : α → List IV} {d : α} {s : Nat}
theorem Pq (hf : ∀ x, (f x).length = s) : ∀ l : List α, (l.map f).flatten.length = l.length * s
  | [] => by simp
  | x :: l => by rw [List.map_cons, List.flatten_cons, List.length_append, hf, Pq hf l, List.length_cons, Nat.add_mul]; omega
theorem MC (hf : ∀ x, (f x).length = s) : ∀ (l : List α) (i : Nat), i < l.length → ((l.map f).flatten.drop (i * s)).take s = f (l.getD i d)
  | [], i, h => by simp at h
  | x :: l, 0, _ => by simp [List.take_append, hf]
  | x :: l, i + 1, h => by
    rw [List.map_cons, List.flatten_cons, List.drop_append, hf]
    have e : (i + 1) * s - s = i * s := by rw [Nat.add_mul]; omega
    rw [List.drop_of_length_le (by rw [hf, Nat.add_mul]; omega), e, List.nil_append, MC hf l i (by simpa using h)]
    simp
theorem Wb {l : List α} {i : Nat} (hf : ∀ x, (f x).length = s) (hi : i < l.length) : (l.map f).flatten.length = l.length * s ∧ ((l.map f).flatten.drop (i * s)).take s = f (l.getD i d) :=
  ⟨Pq hf l, MC hf l i hi⟩
end
end Go.Idl
namespace Go.Idl
set_option maxHeartbeats 8000000
set_option pp.deepTerms false
set_option maxRecDepth 60000
open Go Go.Proofs.Tryz
noncomputable def Lx (v13 : List S78) : Option (List S78) :=
 some v13
noncomputable def Lz (el12 : Int × S39) (v10 : List S78) : Option ((List S78) ⊕ (List S78)) :=
 gd (el12.2.A5.length = 8) ((F61 el12.2.A5).bind fun (x18 : (List UInt8) × Int) => gd (((([112]) : List UInt8).length : Int) + el12.2.Ad.length ≤ 9223372036854775807) (gd ((el12.2.Am.length : Int) + (([10]) : List UInt8).length ≤ 9223372036854775807) (gd (((el12.2.Am ++ ([10])).length : Int) + x18.1.length ≤ 9223372036854775807) (gd ((v10.length + ([(⟨([112]) ++ el12.2.Ad, (el12.2.Am ++ ([10])) ++ x18.1⟩ : S78)]).length) * 32 ≤ 140737488355328) (some (.inl (v10 ++ ([(⟨([112]) ++ el12.2.Ad, (el12.2.Am ++ ([10])) ++ x18.1⟩ : S78)]))))))))
noncomputable def Im (Ae : List (List UInt8 × S39)) (Ah : List (List UInt8 × (List UInt8))) (Ar : Option S33) (v4 : List S78) : Option (List S78) :=
 (F14 Ae Ah Ar).bind fun (x8 : (List S39)) => gd (∀ x, x ∈ x8 → DB x.A5) ((Fh (ρ := (List S78)) (fun (el12 : Int × S39) (s : (List S78)) => Lz el12 s) (fun (s : (List S78)) => s) (DN x8) v4).bind fun (e : (List S78)) => Lx e)
noncomputable def RQ (Ae : List (List UInt8 × S39)) (Ah : List (List UInt8 × (List UInt8))) (Ar : Option S33) : Option (List S78) :=
 (F26 Ae Ah Ar).bind fun (x32 : S33 × Bool) => gd (x32.1.A5.length = 8) (if x32.2 = true then ((F60 x32.1.fDn).bind fun (x37 : (List UInt8) × Int) => (F61 x32.1.A5).bind fun (x39 : (List UInt8) × Int) => (F62 ([x32.1.Ad, x32.1.Am, x37.1, x39.1]) ([10])).bind fun (x40 : (List UInt8)) => gd (([(⟨[105], x40⟩ : S78)]).length * 32 ≤ 140737488355328) (Im Ae Ah Ar ([(⟨[105], x40⟩ : S78)]))) else (Im Ae Ah Ar []))
theorem Wc {H : A2} {K : Aw → A2 → Prop} (Ae : List (List UInt8 × S39)) (Ah : List (List UInt8 × (List UInt8))) (Ar : Option S33) (ka0 : Nat) (A7 : Nat) (A8 : Nat) (Aq : H.obj ka0 = some (.cells ([.mp A7, .mp A8, AT k33 Ar]))) (Aj : H.obj A7 = some (.map (mE k39g Ae))) (Al : H.obj A8 = some (.map (mE (fun (x : List UInt8) => .v (str x)) Ah))) (hV : VOK prog H) {r : (List S78)} (h : RQ Ae Ah Ar = some r) (hK : K (.ret (.os H.next r.length)) (newL H [.row 2 (r.map fun x => [.v (str x.Bb), .v (str x.Aa)])])) : Ac prog 33 [.p ka0 0] H K := by
 refine Ag (N := 67) func33 (by kernel_rfl) rfl (by kernel_rfl) (by kernel_rfl) fun cb hcb hw hbd hnb => ?_; clear hbd hnb; subst hcb; unfold RQ at h; have Db : ka0 < H.next := Nat.lt_of_not_le fun q => by rw [hw _ q] at Aq; cases Aq
 have Bu : A7 < H.next := Nat.lt_of_not_le fun q => by rw [hw _ q] at Aj; cases Aj
 have Bv : A8 < H.next := Nat.lt_of_not_le fun q => by rw [hw _ q] at Al; cases Al
 refine wG ?_; refine wG ?_; refine BE (fun tm' H' => ∃ n5 : Nat, ∃ v4 : List S78, Ext H H' ∧ H.next + 1 ≤ H'.next ∧ H.next ≤ n5 ∧ n5 < H'.next ∧ ¬ A7 = n5 ∧ ¬ A8 = n5 ∧ ¬ ka0 = n5 ∧ ¬ H.next = n5 ∧ tm' 0 = .p ka0 0 ∧ tm' 3 = .p H.next 0 ∧ H'.obj A7 = some (.map (mE k39g Ae)) ∧ H'.obj A8 = some (.map (mE (fun (x : List UInt8) => .v (str x)) Ah)) ∧ H'.obj ka0 = some (.cells ([.mp A7, .mp A8, AT k33 Ar])) ∧ H'.obj H.next = some (.cells ([.os n5 v4.length])) ∧ H'.obj n5 = some (.row 2 (v4.map fun x => [.v (str x.Bb), .v (str x.Aa)])) ∧ Im Ae Ah Ar v4 = some r) ?_ fun cb hc3 => ?_
 ·rintro tm3 H3 ⟨n5, v4, he3, hl3, j5, j6, hq42, hq43, hq44, hq45, SE, Qh, j7, j8, j9, jc, jd, h⟩
  unfold Im at h; refine A3 fun cb hc6 => ?_; refine A3 fun cb hc7 => ?_; refine vF SE ?_; obtain ⟨x8, hx8, h⟩ := A4 h; refine Qa Ae Ah Ar ka0 A7 A8 (by assumption) (by assumption) (by assumption) hx8 ?_; refine sG ?_; subst hc7; obtain ⟨gi9, h⟩ := Af.1 h; obtain ⟨y9, hl9q, hk9⟩ := A4 h; refine Az (fun tm' H' => ∃ n14 : Nat, ∃ v13 : List S78, v13 = y9 ∧ Ext H H' ∧ H3.next ≤ H'.next ∧ H.next ≤ n14 ∧ n14 < H'.next ∧ ¬ A7 = n14 ∧ ¬ A8 = n14 ∧ ¬ ka0 = n14 ∧ ¬ H.next = n14 ∧ tm' 3 = .p H.next 0 ∧ H'.obj A7 = some (.map (mE k39g Ae)) ∧ H'.obj A8 = some (.map (mE (fun (x : List UInt8) => .v (str x)) Ah)) ∧ H'.obj ka0 = some (.cells ([.mp A7, .mp A8, AT k33 Ar])) ∧ H'.obj H.next = some (.cells ([.os n14 v13.length])) ∧ H'.obj n14 = some (.row 2 (v13.map fun x => [.v (str x.Bb), .v (str x.Aa)]))) ?_ fun cb hc9 => ?_
  ·rintro tm9e H9e ⟨n14, v13, rfl, he9e, hl9e, hr0_9e, hs0_9e, hq23, hq24, hq25, hq26, t3_9e, ob0_9e, ob1_9e, ob2_9e, ob3_9e, or0_9e⟩
   have h : Lx v13 = some r := hk9; unfold Lx at h; simp -implicitDefEqProofs only [go_sem]; subst hc6; refine wF (nd t3_9e ob3_9e) ?_; obtain rfl := sI h; refine vS ?_; refine N7 (r := .os n14 v13.length) (r' := .os H.next v13.length) rfl (HE (Au he9e) (ks := [n14]) (os := [.row 2 (v13.map fun x => [.v (str x.Bb), .v (str x.Aa)])]) (.cons (o := .row 2 (v13.map fun x => [.v (str x.Bb), .v (str x.Aa)])) (by omega) (by omega) (eF or0_9e) (.same _ (Wa fun _ => by exact Bp)) .nil) (by simp)) (.osR (k := H.next) (by simp [DA]) (by simp [go_sem]) rfl) hK
  refine Ak ?_; refine Ex (gf := 46) (cap := [.cp [.sl 10 (x8.map k39)]]) (C := []) (enc := fun (el12 : Int × S39) => [.v (.int .i64 el12.1), .ag (.v (str el12.2.Ad) :: .v (str el12.2.Am) :: (el12.2.A5.map fun x => .sl 1 (x.map fun x => [.v (str x)])))]) (fun (s : (List S78)) _ H' => ∃ n11 : Nat, Ext H H' ∧ H3.next ≤ H'.next ∧ H.next ≤ n11 ∧ n11 < H'.next ∧ ¬ A7 = n11 ∧ ¬ A8 = n11 ∧ ¬ ka0 = n11 ∧ ¬ H.next = n11 ∧ H'.obj A7 = some (.map (mE k39g Ae)) ∧ H'.obj A8 = some (.map (mE (fun (x : List UInt8) => .v (str x)) Ah)) ∧ H'.obj ka0 = some (.cells ([.mp A7, .mp A8, AT k33 Ar])) ∧ H'.obj H.next = some (.cells ([.os n11 s.length])) ∧ H'.obj n11 = some (.row 2 (s.map fun x => [.v (str x.Bb), .v (str x.Aa)]))) hl9q (by kernel_rfl) (by rfl) (R9 (x8) gi9) ?_ (fun _ _ _ _ hh => hh) (by intro _ _ _ _ p hp; cases hp) (fun _ => rfl) ?_ ?_
  ·exact ⟨n5, by exact Au he3, by omega, by with_reducible assumption, by with_reducible assumption, by with_reducible assumption, by with_reducible assumption, by with_reducible assumption, by with_reducible assumption, by with_reducible assumption, by with_reducible assumption, by with_reducible assumption, by with_reducible assumption, by with_reducible assumption⟩
  ·rintro I9 hI9 el12 v10 x9 H9 ⟨n11, he9, hl9, OM, ON, hq27, hq28, hq29, hq30, Ed, HM, Fk, Gm, Fl⟩ h hret9
   replace h : Lz el12 v10 = some x9 := h; unfold Lz at h
   skip
   obtain ⟨g16, h⟩ := Af.1 h; refine vF g16 ?_; refine Ak ?_; refine A3 fun cb hc17 => ?_; refine vF g16 ?_; obtain ⟨x18, hx18, h⟩ := A4 h; refine N9 el12.2.A5 (by exact (VOK.of hV (he9).sn).tok) hx18 ?_; refine sG ?_; subst hc17; obtain ⟨g19, h⟩ := gS h; obtain ⟨g20, h⟩ := gS h; obtain ⟨g21, h⟩ := gS h; obtain ⟨g22, h⟩ := gS h; refine v0 ?_; simp -implicitDefEqProofs (disch := omega) [go_sem, bdP, Qh, Gm, Fl, g16]; obtain rfl := sI h; refine An hI9 (v10 ++ ([(⟨([112]) ++ el12.2.Ad, (el12.2.Am ++ ([10])) ++ x18.1⟩ : S78)])) ?_; refine .same ⟨n11, by exact Au he9, by (simp -implicitDefEqProofs (disch := omega) [go_sem] <;> omega), by with_reducible assumption, by (simp -implicitDefEqProofs (disch := omega) [go_sem] <;> omega), by with_reducible assumption, by with_reducible assumption, by with_reducible assumption, by with_reducible assumption, ?_, ?_, ?_, ?_, ?_⟩ <;> (simp -implicitDefEqProofs (disch := omega) [go_sem, Ed, HM, Fk] <;> omega)
  rintro v10 H9 ⟨n11, he9, hl9, OM, ON, hq27, hq28, hq29, hq30, Ed, HM, Fk, Gm, Fl⟩ hy9
  simp -implicitDefEqProofs only [go_sem]; refine hc9 _ _ ?_; refine .same ⟨n11, v10, hy9, by exact Au he9, by (simp -implicitDefEqProofs (disch := omega) [go_sem] <;> omega), by with_reducible assumption, by (simp -implicitDefEqProofs (disch := omega) [go_sem] <;> omega), by with_reducible assumption, by with_reducible assumption, by with_reducible assumption, by with_reducible assumption, ?_, ?_, ?_, ?_, ?_, ?_⟩ <;> (simp -implicitDefEqProofs (disch := omega) [go_sem, Qh, Ed, HM, Fk, Gm, Fl] <;> omega)
 refine A3 fun cb hc31 => ?_; refine vG ?_; obtain ⟨x32, hx32, h⟩ := A4 h; refine Q6 Ae Ah Ar ka0 A7 A8 (eF Aq) (eF Aj) (eF Al) hx32 ?_; obtain ⟨g33, h⟩ := Af.1 h; refine sF g33 ?_; subst hc31; refine wG ?_; refine Ab h eA rfl ?_ ?_
 ·intro c35 h; refine A3 fun cb hc36 => ?_; refine vF g33 ?_; obtain ⟨x37, hx37, h⟩ := A4 h; refine Qd x32.1.fDn hx37 ?_; refine sG ?_; subst hc36; refine A3 fun cb hc38 => ?_; refine vF g33 ?_; obtain ⟨x39, hx39, h⟩ := A4 h; refine N9 x32.1.A5 (by exact (VOK.of hV rfl).tok) hx39 ?_; refine sG ?_; subst hc38; refine Ay [8] [0, 1, 2, 3, 4, 5, 6, 7, 8, 9, 10, 11, 12] (by kernel_rfl) (by kernel_rfl) (fun _ _ _ _ h => h) ?_; simp -implicitDefEqProofs (disch := omega) [go_sem, bdP, g33]; obtain ⟨x40, hx40, h⟩ := A4 h; refine BN.mk _ (fun _ _ hK => Ac.eqA eA (Uu ([x32.1.Ad, x32.1.Am, x37.1, x39.1]) ([10]) hx40 hK)) ?_; obtain ⟨g41, h⟩ := gS h; refine sF g33 ?_; refine hc3 _ _ ?_; refine .same ⟨H.next + 2, ([(⟨[105], x40⟩ : S78)]), by exact Au (Ext.refl hw), by (simp -implicitDefEqProofs (disch := omega) [go_sem] <;> omega), by omega, by (simp -implicitDefEqProofs (disch := omega) [go_sem] <;> omega), by omega, by omega, by omega, by omega, ?_, ?_, ?_, ?_, ?_, ?_, ?_, h⟩ <;> (simp -implicitDefEqProofs (disch := omega) [go_sem, Aj, Al, Aq] <;> omega)
 intro c35 h; simp (disch := omega) at c35; refine vO ?_; refine hc3 _ _ ?_; refine UpI.gh (Gh.FP (kb := H.next) (sz := 2) (cs := [.v (.slice none 0 0)]) (cs' := [.os (H.next + 2) 0]) (by omega) eA (NzL.row NzL.nil)) ?_; refine .same ⟨H.next + 2, [], by exact Au (Ext.refl hw), by (simp -implicitDefEqProofs (disch := omega) [go_sem] <;> omega), by omega, by (simp -implicitDefEqProofs (disch := omega) [go_sem] <;> omega), by omega, by omega, by omega, by omega, ?_, ?_, ?_, ?_, ?_, ?_, ?_, h⟩ <;> (simp -implicitDefEqProofs (disch := omega) [go_sem, Aj, Al, Aq] <;> omega)
noncomputable def NT (v21 : Option S33) (v22 : List (List UInt8 × S39)) (v23 : List (List UInt8 × (List UInt8))) (v24 : S35) (v48 : List S78) : Option Bool :=
 (F35 v48).bind fun (x51 : (Option ((List (List UInt8 × S39)) × (List (List UInt8 × (List UInt8))) × (Option S33))) × Int) => opP x51.1 (if x51.2 = 0 then ((V8 v22 v23 v21).bind fun (x54 : Bool) => if x54 = true then ((VH v24).bind fun (x55 : Bool) => if x55 = true then ((F11 ).bind fun (x56 : Bool) => some x56) else (some false)) else (some false)) else (some false)) (fun (y52 : (List (List UInt8 × S39)) × (List (List UInt8 × (List UInt8))) × (Option S33)) => if x51.2 = 0 then ((F23 y52.1 y52.2.1 y52.2.2 v22 v23 v21).bind fun (x61 : Bool) => if x61 = true then ((F20 y52.1 y52.2.1 y52.2.2 v24).bind fun (x62 : Bool) => if x62 = true then ((F11 ).bind fun (x63 : Bool) => some x63) else (some false)) else (some false)) else (some false))
noncomputable def Ja (a1 : List Int) (v45 : List S78) (v47 : Int) : Option (((List S78) × Int) ⊕ (List S78)) :=
 if v47 < (a1.length : Int) then (if 0 < (v45.length : Int) then (gd (0 ≤ v47 ∧ v47 < a1.length) (gd (¬ (v45.length : Int) = 0) (gd (0 ≤ ((IntKind.i64.wrap (((a1.getD v47.toNat 0).tmod (v45.length : Int)) + (v45.length : Int))).tmod (v45.length : Int)) ∧ ((IntKind.i64.wrap (((a1.getD v47.toNat 0).tmod (v45.length : Int)) + (v45.length : Int))).tmod (v45.length : Int)) < v45.length) (gd (0 < v45.length) (gd (0 ≤ ((IntKind.i64.wrap (((a1.getD v47.toNat 0).tmod (v45.length : Int)) + (v45.length : Int))).tmod (v45.length : Int)) ∧ ((IntKind.i64.wrap (((a1.getD v47.toNat 0).tmod (v45.length : Int)) + (v45.length : Int))).tmod (v45.length : Int)) < (v45.set 0 (v45.getD ((IntKind.i64.wrap (((a1.getD v47.toNat 0).tmod (v45.length : Int)) + (v45.length : Int))).tmod (v45.length : Int)).toNat S78.zero)).length) (some (.inl (((v45.set 0 (v45.getD ((IntKind.i64.wrap (((a1.getD v47.toNat 0).tmod (v45.length : Int)) + (v45.length : Int))).tmod (v45.length : Int)).toNat S78.zero)).set ((IntKind.i64.wrap (((a1.getD v47.toNat 0).tmod (v45.length : Int)) + (v45.length : Int))).tmod (v45.length : Int)).toNat (v45.getD 0 S78.zero), IntKind.i64.wrap (v47 + 1)))))))))) else (some (.inr v45))) else (some (.inr v45))
noncomputable def NU (a1 : List Int) (v21 : Option S33) (v22 : List (List UInt8 × S39)) (v23 : List (List UInt8 × (List UInt8))) (v24 : S35) (v40 : List S78) : Option Bool :=
 (AE (fun (s : (List S78) × Int) => Ja a1 s.1 s.2) (v40, 0)).bind fun (e : (List S78)) => NT v21 v22 v23 v24 e
noncomputable def FJ (x29 : (List S78)) (v37 : List S78) (v39 : Int) : Option (((List S78) × Int) ⊕ ((List S78) ⊕ Bool)) :=
 if v39 < (v37.length : Int) then (gd (0 ≤ v39 ∧ v39 < v37.length) (gd (0 ≤ v39 ∧ v39 < x29.length) (if ¬ (((v37.getD v39.toNat S78.zero).Bb) = ((x29.getD v39.toNat S78.zero).Bb) ∧ ((v37.getD v39.toNat S78.zero).Aa) = ((x29.getD v39.toNat S78.zero).Aa)) then (some (.inr (.inr false))) else (some (.inl ((v37, IntKind.i64.wrap (v39 + 1)))))))) else (some (.inr (.inl v37)))
noncomputable def NV (a1 : List Int) (v21 : Option S33) (v22 : List (List UInt8 × S39)) (v23 : List (List UInt8 × (List UInt8))) (v24 : S35) : Option Bool :=
 gd (v24.fP.A5.length = 8) ((RQ v22 v23 v21).bind fun (x27 : (List S78)) => (F37 v24.fL v24.fP).bind fun (x29 : (List S78)) => if ¬ (x27.length : Int) = (x29.length : Int) then (some false) else ((AE (fun (s : (List S78) × Int) => FJ x29 s.1 s.2) (x27, 0)).bind fun y => Sum.elim (fun (e : (List S78)) => NU a1 v21 v22 v23 v24 e) (fun (q : Bool) => some q) y))
noncomputable def NW (a0 : List S41) (v16 : Int) (v17 : Option S33) (v18 : List (List UInt8 × S39)) (v19 : List (List UInt8 × (List UInt8))) (v20 : S35) : Option ((Int × (Option S33) × (List (List UInt8 × S39)) × (List (List UInt8 × (List UInt8))) × S35) ⊕ ((Option S33) × (List (List UInt8 × S39)) × (List (List UInt8 × (List UInt8))) × S35)) :=
 if v16 < (a0.length : Int) then (gd (v20.fP.A5.length = 8) (gd (0 ≤ v16 ∧ v16 < a0.length) (gd ((((a0.getD v16.toNat S41.zero).Ai).A5).length = 8) ((F13 v18 v19 v17 v20 (a0.getD v16.toNat S41.zero)).bind fun (x115 : S35 × Bool × (Option S33) × (List (List UInt8 × S39)) × (List (List UInt8 × (List UInt8)))) => gd (x115.1.fP.A5.length = 8) (some (.inl ((IntKind.i64.wrap (v16 + 1), x115.2.2.1, x115.2.2.2.1, x115.2.2.2.2, x115.1)))))))) else (some (.inr (v17, v18, v19, v20)))
noncomputable def F9 (a0 : List S41) (a1 : List Int) : Option Bool :=
 (F10 a0 40).bind fun (x4 : Bool) => if ¬ (x4 = true) then ((F11 ).bind fun (x6 : Bool) => some x6) else (if 60 < (a1.length : Int) then ((F11 ).bind fun (x9 : Bool) => some x9) else ((F12 ).bind fun (x11 : (List (List UInt8 × S39)) × (List (List UInt8 × (List UInt8))) × (Option S33)) => (AE (fun (s : Int × (Option S33) × (List (List UInt8 × S39)) × (List (List UInt8 × (List UInt8))) × S35) => NW a0 s.1 s.2.1 s.2.2.1 s.2.2.2.1 s.2.2.2.2) (0, x11.2.2, x11.1, x11.2.1, ((⟨[], (⟨[], [], [], [[], [], [], [], [], [], [], []]⟩ : S33)⟩ : S35)))).bind fun (e : (Option S33) × (List (List UInt8 × S39)) × (List (List UInt8 × (List UInt8))) × S35) => NV a1 e.1 e.2.1 e.2.2.1 e.2.2.2))
theorem jN {H : A2} {K : Aw → A2 → Prop} (a0 : List S41) (a1 : List Int) (hV : VOK prog H) {r : Bool} (h : F9 a0 a1 = some r) (hK : K (.ret (.v (.bool r))) H) : Ac prog 9 [.sl 12 (a0.map k41), .sl 1 (a1.map fun x => [.v (.int .i64 x)])] H K := by
 refine Ag (N := 124) func9 (by kernel_rfl) rfl (by kernel_rfl) (by kernel_rfl) fun cb hcb hw hbd hnb => ?_; clear hbd hnb; subst hcb; unfold F9 at h; refine wG ?_; refine A3 fun cb hc2 => ?_; refine A3 fun cb hc3 => ?_; refine vG ?_; obtain ⟨x4, hx4, h⟩ := A4 h; refine bf a0 40 hx4 ?_; refine sG ?_; refine A6 h eA ?_ ?_
 ·intro c117 h; simp (disch := omega) at c117; refine sG ?_; subst hc3; refine Ao eA rfl ?_; refine A3 fun cb hc5 => ?_; refine vG ?_; obtain ⟨x6, hx6, h⟩ := A4 h; refine Nq  (by exact (VOK.of hV rfl).tok) hx6 ?_; refine sG ?_; subst hc5; obtain rfl := sI h; refine vS ?_; exact Av (.refl hw) hK
 intro c117 h; simp (disch := omega) at c117; refine sG ?_; subst hc3; refine Ab h eA rfl ?_ ?_
 ·intro c7 h; refine A3 fun cb hc8 => ?_; refine vG ?_; obtain ⟨x9, hx9, h⟩ := A4 h; refine Nq  (by exact (VOK.of hV rfl).tok) hx9 ?_; refine sG ?_; subst hc8; obtain rfl := sI h; refine vS ?_; exact Av (.refl hw) hK
 intro c7 h; simp (disch := omega) at c7; refine vO ?_; subst hc2; refine A3 fun cb hc10 => ?_; refine vG ?_; obtain ⟨x11, hx11, h⟩ := A4 h; refine Q5  hx11 ?_; refine sG ?_; subst hc10; refine wG ?_; refine A3 fun cb hc13 => ?_; refine wG ?_; obtain ⟨y15, hl15q, hk15⟩ := A4 h; refine Az (fun tm' H' => ∃ v21 : Option S33, ∃ v22 : List (List UInt8 × S39), ∃ v23 : List (List UInt8 × (List UInt8)), ∃ v24 : S35, (v21, v22, v23, v24) = y15 ∧ Ext H H' ∧ H.next + 4 ≤ H'.next ∧ tm' 1 = .sl 1 (a1.map fun x => [.v (.int .i64 x)]) ∧ tm' 5 = .p H.next 0 ∧ tm' 6 = .p (H.next + 3) 0 ∧ H'.obj H.next = some (.cells ([.mp (H.next + 1), .mp (H.next + 2), AT k33 v21])) ∧ H'.obj (H.next + 1) = some (.map (mE k39g v22)) ∧ H'.obj (H.next + 2) = some (.map (mE (fun (x : List UInt8) => .v (str x)) v23)) ∧ H'.obj (H.next + 3) = some (.cells (.sl 10 (v24.fL.map k39) :: .v (str v24.fP.Ad) :: .v (str v24.fP.Am) :: .sl 2 (v24.fP.fDn.map fun x => [.v (str x.fType), .v (str x.Aa)]) :: (v24.fP.A5.map fun x => .sl 1 (x.map fun x => [.v (str x)]))))) ?_ fun cb hc15 => ?_
 ·rintro tm15e H15e ⟨v21, v22, v23, v24, rfl, he15e, hl15e, t1_15e, t5_15e, t6_15e, ob0_15e, ob1_15e, ob2_15e, ob3_15e⟩
  have h : NV a1 v21 v22 v23 v24 = some r := hk15; unfold NV at h; simp -implicitDefEqProofs only [go_sem]; subst hc13; refine A3 fun cb hc25 => ?_; refine Ay [6] [0, 2, 3, 4, 5, 1, 6, 7, 8] (by kernel_rfl) (by kernel_rfl) (fun _ _ _ _ h => h) ?_; obtain ⟨g26, h⟩ := Af.1 h; refine sF (nd t5_15e (nd t6_15e (nd ob3_15e g26))) ?_; obtain ⟨x27, hx27, h⟩ := A4 h; refine Wc v22 v23 v21 H.next (H.next + 1) (H.next + 2) (by assumption) (by assumption) (by assumption) (by exact hV.of (he15e).sn) hx27 ?_; refine sF (nd ob3_15e g26) ?_; obtain ⟨x29, hx29, h⟩ := A4 h; refine BN.mk _ (fun _ _ hK => eo v24.fL v24.fP hx29 hK) ?_; subst hc25; refine A3 fun cb hc30 => ?_; refine wG ?_; refine Ab h eA rfl ?_ ?_
  ·intro c32 h; refine wG ?_; obtain rfl := sI h; refine vS ?_; refine Ax (Au he15e) rfl nbA hK
  intro c32 h; simp (disch := omega) at c32; refine vO ?_; subst hc30; refine A3 fun cb hc34 => ?_; refine wG ?_; obtain ⟨y36, hl36q, hk36⟩ := A4 h; refine Az (fun tm' H' => ∃ n41 : Nat, ∃ v40 : List S78, .inl v40 = y36 ∧ Ext H H' ∧ H15e.next + 1 ≤ H'.next ∧ H.next ≤ n41 ∧ n41 < H'.next ∧ ¬ H.next = n41 ∧ ¬ H.next + 1 = n41 ∧ ¬ H.next + 2 = n41 ∧ ¬ H.next + 3 = n41 ∧ tm' 1 = .sl 1 (a1.map fun x => [.v (.int .i64 x)]) ∧ tm' 5 = .p H.next 0 ∧ tm' 6 = .p (H.next + 3) 0 ∧ tm' 8 = .os n41 v40.length ∧ H'.obj H.next = some (.cells ([.mp (H.next + 1), .mp (H.next + 2), AT k33 v21])) ∧ H'.obj (H.next + 1) = some (.map (mE k39g v22)) ∧ H'.obj (H.next + 2) = some (.map (mE (fun (x : List UInt8) => .v (str x)) v23)) ∧ H'.obj (H.next + 3) = some (.cells (.sl 10 (v24.fL.map k39) :: .v (str v24.fP.Ad) :: .v (str v24.fP.Am) :: .sl 2 (v24.fP.fDn.map fun x => [.v (str x.fType), .v (str x.Aa)]) :: (v24.fP.A5.map fun x => .sl 1 (x.map fun x => [.v (str x)])))) ∧ H'.obj n41 = some (.row 2 (v40.map fun x => [.v (str x.Bb), .v (str x.Aa)]))) ?_ fun cb hc36 => ?_
  ·rintro tm36e H36e ⟨n41, v40, rfl, he36e, hl36e, hr0_36e, hs0_36e, hq100, hq101, hq102, hq103, t1_36e, t5_36e, t6_36e, t8_36e, ob0_36e, ob1_36e, ob2_36e, ob3_36e, or0_36e⟩
   have h : NU a1 v21 v22 v23 v24 v40 = some r := hk36; unfold NU at h; simp -implicitDefEqProofs only [go_sem]; subst hc34; refine A3 fun cb hc42 => ?_; refine wG ?_; obtain ⟨y44, hl44q, hk44⟩ := A4 h; refine Az (fun tm' H' => ∃ n49 : Nat, ∃ v48 : List S78, v48 = y44 ∧ Ext H H' ∧ H36e.next ≤ H'.next ∧ H.next ≤ n49 ∧ n49 < H'.next ∧ ¬ H.next = n49 ∧ ¬ H.next + 1 = n49 ∧ ¬ H.next + 2 = n49 ∧ ¬ H.next + 3 = n49 ∧ tm' 5 = .p H.next 0 ∧ tm' 6 = .p (H.next + 3) 0 ∧ tm' 8 = .os n49 v48.length ∧ H'.obj H.next = some (.cells ([.mp (H.next + 1), .mp (H.next + 2), AT k33 v21])) ∧ H'.obj (H.next + 1) = some (.map (mE k39g v22)) ∧ H'.obj (H.next + 2) = some (.map (mE (fun (x : List UInt8) => .v (str x)) v23)) ∧ H'.obj (H.next + 3) = some (.cells (.sl 10 (v24.fL.map k39) :: .v (str v24.fP.Ad) :: .v (str v24.fP.Am) :: .sl 2 (v24.fP.fDn.map fun x => [.v (str x.fType), .v (str x.Aa)]) :: (v24.fP.A5.map fun x => .sl 1 (x.map fun x => [.v (str x)])))) ∧ H'.obj n49 = some (.row 2 (v48.map fun x => [.v (str x.Bb), .v (str x.Aa)]))) ?_ fun cb hc44 => ?_
   ·rintro tm44e H44e ⟨n49, v48, rfl, he44e, hl44e, hr0_44e, hs0_44e, hq82, hq83, hq84, hq85, t5_44e, t6_44e, t8_44e, ob0_44e, ob1_44e, ob2_44e, ob3_44e, or0_44e⟩
    have h : NT v21 v22 v23 v24 v48 = some r := hk44; unfold NT at h; simp -implicitDefEqProofs only [go_sem]; subst hc42; refine A3 fun cb hc50 => ?_; refine IWp.gh (Gh.freeze (d := 8) (k := n49) (sz := 2) (es := v48.map fun x => [.v (str x.Bb), .v (str x.Aa)]) (eF or0_44e) (eF t8_44e)) ?_; refine vG ?_; obtain ⟨x51, hx51, h⟩ := A4 h; refine dh v48 (by exact hV.of (he44e).sn) hx51 ?_ ?_
    ·intro qx51; rw [qx51] at h; replace h := Va h; refine sG ?_; subst hc50; refine A3 fun cb hc53 => ?_; refine vG ?_; refine A6 h rfl ?_ ?_
     ·intro c59 h; refine sF t5_44e ?_; obtain ⟨x54, hx54, h⟩ := A4 h; refine V9 v22 v23 v21 H.next (H.next + 1) (H.next + 2) (eF ob0_44e) (eF ob1_44e) (eF ob2_44e) hx54 ?_; refine sG ?_; refine A6 h eA ?_ ?_
      ·intro c58 h; refine sF (nd t6_44e (nd g26 ob3_44e)) ?_; obtain ⟨x55, hx55, h⟩ := A4 h; refine VI v24 hx55 ?_; refine sG ?_; refine A6 h eA ?_ ?_
       ·intro c57 h; refine sG ?_; obtain ⟨x56, hx56, h⟩ := A4 h; refine Nq  (by exact (VOK.of hV (he44e).sn).tok) hx56 ?_; refine sG ?_; subst hc53; obtain rfl := sI h; refine vS ?_; refine Ax (Au he44e) rfl nbA hK
       intro c57 h; simp (disch := omega) at c57; refine sG ?_; subst hc53; obtain rfl := sI h; refine vS ?_; refine Ax (Au he44e) rfl nbA hK
      intro c58 h; simp (disch := omega) at c58; refine sG ?_; subst hc53; obtain rfl := sI h; refine vS ?_; refine Ax (Au he44e) rfl nbA hK
     intro c59 h; refine sG ?_; subst hc53; obtain rfl := sI h; refine vS ?_; refine Ax (Au he44e) rfl nbA hK
    intro y52 qx51; rw [qx51] at h; replace h := Vb h; refine sG ?_; subst hc50; refine A3 fun cb hc60 => ?_; refine vG ?_; refine A6 h rfl ?_ ?_
    ·intro c66 h; refine sF t5_44e ?_; obtain ⟨x61, hx61, h⟩ := A4 h; refine bC y52.1 y52.2.1 y52.2.2 v22 v23 v21 H44e.next (H44e.next + 1) (H44e.next + 2) H.next (H.next + 1) (H.next + 2) eA eA eA (eF ob0_44e) (eF ob1_44e) (eF ob2_44e) (by exact (VOK.of hV (he44e).sn).tok) hx61 ?_; refine sG ?_; refine A6 h eA ?_ ?_
     ·intro c65 h; refine sF (nd t6_44e (nd g26 ob3_44e)) ?_; obtain ⟨x62, hx62, h⟩ := A4 h; refine bA y52.1 y52.2.1 y52.2.2 v24 H44e.next (H44e.next + 1) (H44e.next + 2) eA eA eA hx62 ?_; refine sG ?_; refine A6 h eA ?_ ?_
      ·intro c64 h; refine sG ?_; obtain ⟨x63, hx63, h⟩ := A4 h; refine Nq  (by exact (VOK.of hV (he44e).sn).tok) hx63 ?_; refine sG ?_; subst hc60; obtain rfl := sI h; refine vS ?_; refine Ax (Au he44e) rfl nbA hK
      intro c64 h; simp (disch := omega) at c64; refine sG ?_; subst hc60; obtain rfl := sI h; refine vS ?_; refine Ax (Au he44e) rfl nbA hK
     intro c65 h; simp (disch := omega) at c65; refine sG ?_; subst hc60; obtain rfl := sI h; refine vS ?_; refine Ax (Au he44e) rfl nbA hK
    intro c66 h; refine sG ?_; subst hc60; obtain rfl := sI h; refine vS ?_; refine Ax (Au he44e) rfl nbA hK
   refine Ak ?_; refine AA (fun (s : (List S78) × Int) tm' H' => ∃ n46 : Nat, Ext H H' ∧ H36e.next ≤ H'.next ∧ H.next ≤ n46 ∧ n46 < H'.next ∧ ¬ H.next = n46 ∧ ¬ H.next + 1 = n46 ∧ ¬ H.next + 2 = n46 ∧ ¬ H.next + 3 = n46 ∧ tm' 1 = .sl 1 (a1.map fun x => [.v (.int .i64 x)]) ∧ tm' 5 = .p H.next 0 ∧ tm' 6 = .p (H.next + 3) 0 ∧ tm' 8 = .os n46 s.1.length ∧ tm' 11 = .v (.int .i64 s.2) ∧ H'.obj H.next = some (.cells ([.mp (H.next + 1), .mp (H.next + 2), AT k33 v21])) ∧ H'.obj (H.next + 1) = some (.map (mE k39g v22)) ∧ H'.obj (H.next + 2) = some (.map (mE (fun (x : List UInt8) => .v (str x)) v23)) ∧ H'.obj (H.next + 3) = some (.cells (.sl 10 (v24.fL.map k39) :: .v (str v24.fP.Ad) :: .v (str v24.fP.Am) :: .sl 2 (v24.fP.fDn.map fun x => [.v (str x.fType), .v (str x.Aa)]) :: (v24.fP.A5.map fun x => .sl 1 (x.map fun x => [.v (str x)])))) ∧ H'.obj n46 = some (.row 2 (s.1.map fun x => [.v (str x.Bb), .v (str x.Aa)]))) hl44q ?_ ?_
   ·refine .same ⟨n41, by exact Au he36e, by omega, by with_reducible assumption, by with_reducible assumption, by with_reducible assumption, by with_reducible assumption, by with_reducible assumption, by with_reducible assumption, ?_, ?_, ?_, ?_, ?_, ?_, ?_, ?_, ?_, ?_⟩ <;> first | with_reducible assumption | (simp -implicitDefEqProofs (disch := omega) [go_sem, t1_36e, t5_36e, t6_36e, t8_36e] <;> omega)
   rintro I44 hI44 ⟨v45, v47⟩ x44 tm44 H44 ⟨n46, he44, hl44, o8, o9, hq86, hq87, hq88, hq89, Wd, We, Wg, MD, QT, eu, ew, ez, eB, eD⟩ h hret44
   replace h : Ja a1 v45 v47 = some x44 := h; unfold Ja at h; refine A3 fun cb hc67 => ?_; refine A3 fun cb hc68 => ?_; refine vF (nd Wd QT) ?_; refine A6 h rfl ?_ ?_
   ·intro c81 h; refine sF MD ?_; subst hc68; refine Ab h eA rfl ?_ ?_
    ·intro c69 h; simp (disch := omega) at c69; refine vO ?_; subst hc67; refine A3 fun cb hc70 => ?_; refine Ak ?_; refine A3 fun cb hc71 => ?_; obtain ⟨g72, h⟩ := Af.1 h; refine v0 ?_; have hi72 : v47.toNat < a1.length := by omega
     obtain ⟨kx, hkx⟩ : ∃ kx, kx = a1.getD v47.toNat 0 := ⟨_, rfl⟩; have hx72 : a1[v47.toNat] = kx := by rw [hkx]; simp [hi72]
     rw [← hkx] at h; obtain ⟨g73, h⟩ := gS h; refine sF (nd hx72 (nd Wd (nd MD QT))) ?_; subst hc71; refine Ay [] [0, 1, 2, 3, 4, 5, 6, 7, 8, 9, 10, 11, 12, 13] (by kernel_rfl) (by kernel_rfl) (fun _ _ _ _ h => h) ?_; obtain ⟨g74, h⟩ := Af.1 h; have hrl75 := Wb (f := fun (x : S78) => [.v (str x.Bb), .v (str x.Aa)]) (l := v45) (d := S78.zero) (i := ((IntKind.i64.wrap (((kx).tmod (v45.length : Int)) + (v45.length : Int))).tmod (v45.length : Int)).toNat) (s := 2) (fun _ => rfl) (by omega); simp -implicitDefEqProofs (disch := omega) only [List.getD_eq_getElem?_getD, List.getElem?_eq_getElem, Option.getD_some] at hrl75; obtain ⟨g76, h⟩ := Af.1 h; have hrl77 := Wb (f := fun (x : S78) => [.v (str x.Bb), .v (str x.Aa)]) (l := v45) (d := S78.zero) (i := 0) (s := 2) (fun _ => rfl) (by omega); simp -implicitDefEqProofs (disch := omega) only [Nat.zero_mul, List.drop_zero, List.getD_eq_getElem?_getD, List.getElem?_eq_getElem, Option.getD_some] at hrl77; have hrp78 := Js (s := 2) (f := fun (x : S78) => [.v (str x.Bb), .v (str x.Aa)]) (l := v45) (d := S78.zero) (i := 0) (vc := [.v (str ((v45.getD ((IntKind.i64.wrap (((kx).tmod (v45.length : Int)) + (v45.length : Int))).tmod (v45.length : Int)).toNat S78.zero).Bb)), .v (str ((v45.getD ((IntKind.i64.wrap (((kx).tmod (v45.length : Int)) + (v45.length : Int))).tmod (v45.length : Int)).toNat S78.zero).Aa))]) (x := v45.getD ((IntKind.i64.wrap (((kx).tmod (v45.length : Int)) + (v45.length : Int))).tmod (v45.length : Int)).toNat S78.zero) (by omega) (by simp [CH, go_sem, g74, g76] <;> omega) (by omega); simp -implicitDefEqProofs (disch := first | omega | (simp; omega)) only [Nat.zero_mul, List.map_set, List.getD_eq_getElem?_getD, List.getElem?_eq_getElem, Option.getD_some] at hrp78; obtain ⟨g79, h⟩ := gS h; have hrp80 := Js (s := 2) (f := fun (x : S78) => [.v (str x.Bb), .v (str x.Aa)]) (l := v45.set 0 (v45.getD ((IntKind.i64.wrap (((kx).tmod (v45.length : Int)) + (v45.length : Int))).tmod (v45.length : Int)).toNat S78.zero)) (d := S78.zero) (i := ((IntKind.i64.wrap (((kx).tmod (v45.length : Int)) + (v45.length : Int))).tmod (v45.length : Int)).toNat) (vc := [.v (str ((v45.getD 0 S78.zero).Bb)), .v (str ((v45.getD 0 S78.zero).Aa))]) (x := v45.getD 0 S78.zero) (by (simp; omega)) (by simp [CH, go_sem, g74, g76] <;> omega) (by omega); simp -implicitDefEqProofs (disch := first | omega | (simp; omega)) only [List.map_set, List.getD_eq_getElem?_getD, List.getElem?_eq_getElem, Option.getD_some] at hrp80; refine sF (nd MD (nd eD (nd hrl75 (nd hrl77 (nd hrp78 hrp80))))) ?_; subst hc70; refine vF QT ?_; obtain rfl := sI h; refine An hI44 (((v45.set 0 (v45.getD ((IntKind.i64.wrap (((kx).tmod (v45.length : Int)) + (v45.length : Int))).tmod (v45.length : Int)).toNat S78.zero)).set ((IntKind.i64.wrap (((kx).tmod (v45.length : Int)) + (v45.length : Int))).tmod (v45.length : Int)).toNat (v45.getD 0 S78.zero), IntKind.i64.wrap (v47 + 1))) ?_; refine .same ⟨n46, by exact Au he44, by (simp -implicitDefEqProofs (disch := omega) [go_sem] <;> omega), by with_reducible assumption, by (simp -implicitDefEqProofs (disch := omega) [go_sem] <;> omega), by with_reducible assumption, by with_reducible assumption, by with_reducible assumption, by with_reducible assumption, ?_, ?_, ?_, ?_, ?_, ?_, ?_, ?_, ?_, ?_⟩ <;> (simp -implicitDefEqProofs (disch := omega) [go_sem, Wd, We, Wg, MD, eu, ew, ez, eB] <;> omega)
    intro c69 h; simp (disch := omega) at c69; refine vO ?_; obtain rfl := sI h; have hy44 := hret44 _ rfl; refine hc44 _ _ ?_; refine .same ⟨n46, v45, hy44, by exact Au he44, by with_reducible assumption, by with_reducible assumption, by with_reducible assumption, by with_reducible assumption, by with_reducible assumption, by with_reducible assumption, by with_reducible assumption, ?_, ?_, ?_, ?_, ?_, ?_, ?_, ?_⟩ <;> first | with_reducible assumption | (simp -implicitDefEqProofs (disch := omega) [go_sem, We, Wg, MD] <;> omega)
   intro c81 h; simp (disch := omega) at c81; refine sG ?_; subst hc68; refine Ap eA rfl ?_; refine vO ?_; obtain rfl := sI h; have hy44 := hret44 _ rfl; refine hc44 _ _ ?_; refine .same ⟨n46, v45, hy44, by exact Au he44, by with_reducible assumption, by with_reducible assumption, by with_reducible assumption, by with_reducible assumption, by with_reducible assumption, by with_reducible assumption, by with_reducible assumption, ?_, ?_, ?_, ?_, ?_, ?_, ?_, ?_⟩ <;> first | with_reducible assumption | (simp -implicitDefEqProofs (disch := omega) [go_sem, We, Wg, MD] <;> omega)
  refine Ak ?_; refine AA (fun (s : (List S78) × Int) tm' H' => ∃ n38 : Nat, Ext H H' ∧ H15e.next + 1 ≤ H'.next ∧ H.next ≤ n38 ∧ n38 < H'.next ∧ ¬ H.next = n38 ∧ ¬ H.next + 1 = n38 ∧ ¬ H.next + 2 = n38 ∧ ¬ H.next + 3 = n38 ∧ tm' 1 = .sl 1 (a1.map fun x => [.v (.int .i64 x)]) ∧ tm' 5 = .p H.next 0 ∧ tm' 6 = .p (H.next + 3) 0 ∧ tm' 8 = .os n38 s.1.length ∧ tm' 9 = .sl 2 (x29.map fun x => [.v (str x.Bb), .v (str x.Aa)]) ∧ tm' 10 = .v (.int .i64 s.2) ∧ H'.obj H.next = some (.cells ([.mp (H.next + 1), .mp (H.next + 2), AT k33 v21])) ∧ H'.obj (H.next + 1) = some (.map (mE k39g v22)) ∧ H'.obj (H.next + 2) = some (.map (mE (fun (x : List UInt8) => .v (str x)) v23)) ∧ H'.obj (H.next + 3) = some (.cells (.sl 10 (v24.fL.map k39) :: .v (str v24.fP.Ad) :: .v (str v24.fP.Am) :: .sl 2 (v24.fP.fDn.map fun x => [.v (str x.fType), .v (str x.Aa)]) :: (v24.fP.A5.map fun x => .sl 1 (x.map fun x => [.v (str x)])))) ∧ H'.obj n38 = some (.row 2 (s.1.map fun x => [.v (str x.Bb), .v (str x.Aa)]))) hl36q ?_ ?_
  ·refine .same ⟨H15e.next, by exact Au he15e, by (simp -implicitDefEqProofs (disch := omega) [go_sem] <;> omega), by omega, by (simp -implicitDefEqProofs (disch := omega) [go_sem] <;> omega), by omega, by omega, by omega, by omega, ?_, ?_, ?_, ?_, ?_, ?_, ?_, ?_, ?_, ?_, ?_⟩ <;> (simp -implicitDefEqProofs (disch := omega) [go_sem, t1_15e, t5_15e, t6_15e, ob0_15e, ob1_15e, ob2_15e, ob3_15e] <;> omega)
  rintro I36 hI36 ⟨v37, v39⟩ x36 tm36 H36 ⟨n38, he36, hl36, aY, aZ, hq104, hq105, hq106, hq107, Z9, Za, OO, RR, OP, IM, Qc, oa, oc, og, Nj⟩ h hret36
  replace h : FJ x29 v37 v39 = some x36 := h; unfold FJ at h; refine A3 fun cb hc90 => ?_; refine wF (nd RR IM) ?_; refine Ab h eA rfl ?_ ?_
  ·intro c92 h; refine vO ?_; subst hc90; refine A3 fun cb hc93 => ?_; refine Ak ?_; refine A3 fun cb hc94 => ?_; refine Ay [] [0, 1, 2, 3, 4, 5, 6, 7, 8] (by kernel_rfl) (by kernel_rfl) (fun _ _ _ _ h => h) ?_; obtain ⟨g95, h⟩ := Af.1 h; have hrl96 := Wb (f := fun (x : S78) => [.v (str x.Bb), .v (str x.Aa)]) (l := v37) (d := S78.zero) (i := v39.toNat) (s := 2) (fun _ => rfl) (by omega); simp -implicitDefEqProofs (disch := omega) only [List.getD_eq_getElem?_getD, List.getElem?_eq_getElem, Option.getD_some] at hrl96; obtain ⟨g97, h⟩ := Af.1 h; refine sF (nd RR (nd OP (nd IM (nd Nj hrl96)))) ?_; subst hc94; refine Ab h eA rfl ?_ ?_
   ·intro c98 h; simp (disch := omega) at c98; refine wG ?_; refine vO ?_; obtain rfl := sI h; obtain rfl := hret36 _ rfl; replace h : some false = some r := hk36; obtain rfl := sI h; refine sG ?_; refine Ax (Au he36) rfl nbA hK
   intro c98 h; simp (disch := omega) at c98; refine vO ?_; subst hc93; refine vF IM ?_; obtain rfl := sI h; refine An hI36 ((v37, IntKind.i64.wrap (v39 + 1))) ?_; refine .same ⟨n38, by exact Au he36, by with_reducible assumption, by with_reducible assumption, by with_reducible assumption, by with_reducible assumption, by with_reducible assumption, by with_reducible assumption, by with_reducible assumption, ?_, ?_, ?_, ?_, ?_, ?_, ?_, ?_, ?_, ?_, ?_⟩ <;> first | with_reducible assumption | (simp -implicitDefEqProofs (disch := omega) [go_sem, Z9, Za, OO, RR, OP] <;> omega)
  intro c92 h; simp (disch := omega) at c92; refine vO ?_; obtain rfl := sI h; have hy36 := hret36 _ rfl; refine hc36 _ _ ?_; refine .same ⟨n38, v37, hy36, by exact Au he36, by with_reducible assumption, by with_reducible assumption, by with_reducible assumption, by with_reducible assumption, by with_reducible assumption, by with_reducible assumption, by with_reducible assumption, ?_, ?_, ?_, ?_, ?_, ?_, ?_, ?_, ?_⟩ <;> first | with_reducible assumption | (simp -implicitDefEqProofs (disch := omega) [go_sem, Z9, Za, OO, RR] <;> omega)
 refine Ak ?_; refine AA (fun (s : Int × (Option S33) × (List (List UInt8 × S39)) × (List (List UInt8 × (List UInt8))) × S35) tm' H' => Ext H H' ∧ H.next + 4 ≤ H'.next ∧ tm' 0 = .sl 12 (a0.map k41) ∧ tm' 1 = .sl 1 (a1.map fun x => [.v (.int .i64 x)]) ∧ tm' 5 = .p H.next 0 ∧ tm' 6 = .p (H.next + 3) 0 ∧ tm' 7 = .v (.int .i64 s.1) ∧ H'.obj H.next = some (.cells ([.mp (H.next + 1), .mp (H.next + 2), AT k33 s.2.1])) ∧ H'.obj (H.next + 1) = some (.map (mE k39g s.2.2.1)) ∧ H'.obj (H.next + 2) = some (.map (mE (fun (x : List UInt8) => .v (str x)) s.2.2.2.1)) ∧ H'.obj (H.next + 3) = some (.cells (.sl 10 (s.2.2.2.2.fL.map k39) :: .v (str s.2.2.2.2.fP.Ad) :: .v (str s.2.2.2.2.fP.Am) :: .sl 2 (s.2.2.2.2.fP.fDn.map fun x => [.v (str x.fType), .v (str x.Aa)]) :: (s.2.2.2.2.fP.A5.map fun x => .sl 1 (x.map fun x => [.v (str x)]))))) hl15q ?_ ?_
 ·refine UpI.gh (Gh.j0 (kb := H.next + 3) (cs := [.v (.slice none 0 0), .v (str []), .v (str []), .v (.slice none 0 0), .v (.slice none 0 0), .v (.slice none 0 0), .v (.slice none 0 0), .v (.slice none 0 0), .v (.slice none 0 0), .v (.slice none 0 0), .v (.slice none 0 0), .v (.slice none 0 0)]) (cs' := [.sl 10 (([] : List S39).map k39), .v (str []), .v (str []), .sl 2 (([] : List S89).map fun x => [.v (str x.fType), .v (str x.Aa)]), .sl 1 ((([] : List (List UInt8))).map fun x => [.v (str x)]), .sl 1 ((([] : List (List UInt8))).map fun x => [.v (str x)]), .sl 1 ((([] : List (List UInt8))).map fun x => [.v (str x)]), .sl 1 ((([] : List (List UInt8))).map fun x => [.v (str x)]), .sl 1 ((([] : List (List UInt8))).map fun x => [.v (str x)]), .sl 1 ((([] : List (List UInt8))).map fun x => [.v (str x)]), .sl 1 ((([] : List (List UInt8))).map fun x => [.v (str x)]), .sl 1 ((([] : List (List UInt8))).map fun x => [.v (str x)])]) eA (by repeat (first | exact WkL.nil | refine WkL.cons ?_ ?_ | exact Wk.refl _ | exact Wk.nil _))) ?_; refine .same ⟨by exact Au (Ext.refl hw), by (simp -implicitDefEqProofs (disch := omega) [go_sem] <;> omega), ?_, ?_, ?_, ?_, ?_, ?_, ?_, ?_, ?_⟩ <;> (simp -implicitDefEqProofs (disch := omega) [go_sem] <;> omega)
 rintro I15 hI15 ⟨v16, v17, v18, v19, v20⟩ x15 tm15 H15 ⟨he15, hl15, Wh, RN, Wi, RS, Wj, oh, om, oo, Wl⟩ h hret15
 replace h : NW a0 v16 v17 v18 v19 v20 = some x15 := h; unfold NW at h; refine A3 fun cb hc108 => ?_; refine wF (nd Wh Wj) ?_; refine Ab h eA rfl ?_ ?_
 ·intro c110 h; refine vO ?_; subst hc108; refine A3 fun cb hc111 => ?_; refine Ak ?_; refine Ay [] [0, 1, 2, 3, 4, 5, 6, 7, 8, 9, 10] (by kernel_rfl) (by kernel_rfl) (fun _ _ _ _ h => h) ?_; obtain ⟨g112, h⟩ := Af.1 h; obtain ⟨g113, h⟩ := Af.1 h; obtain ⟨g114, h⟩ := gS h; refine sF (nd Wh (nd Wi (nd RS (nd Wj (nd Wl (nd g112 g114)))))) ?_; obtain ⟨x115, hx115, h⟩ := A4 h; refine Ac.eqA eA (bw v18 v19 v17 v20 (a0.getD v16.toNat S41.zero) H.next (H.next + 1) (H.next + 2) (by assumption) (by assumption) (by assumption) (by omega) hx115 ?_); obtain ⟨g116, h⟩ := Af.1 h; refine sF (nd RS (nd Wl (nd g112 g116))) ?_; subst hc111; refine vF Wj ?_; obtain rfl := sI h; refine An hI15 ((IntKind.i64.wrap (v16 + 1), x115.2.2.1, x115.2.2.2.1, x115.2.2.2.2, x115.1)) ?_; refine .same ⟨by exact Au he15, by (simp -implicitDefEqProofs (disch := omega) [go_sem] <;> omega), ?_, ?_, ?_, ?_, ?_, ?_, ?_, ?_, ?_⟩ <;> (simp -implicitDefEqProofs (disch := omega) [go_sem, Wh, RN, Wi, RS] <;> omega)
 intro c110 h; simp (disch := omega) at c110; refine vO ?_; obtain rfl := sI h; have hy15 := hret15 _ rfl; refine hc15 _ _ ?_; refine .same ⟨v17, v18, v19, v20, hy15, by exact Au he15, by with_reducible assumption, ?_, ?_, ?_, ?_, ?_, ?_, ?_⟩ <;> first | with_reducible assumption | (simp -implicitDefEqProofs (disch := omega) [go_sem, RN, Wi, RS] <;> omega)
end Go.Idl
namespace Go.Idl
open Go Go.Lib
theorem Pt (v : Str) : (GU v).length ≤ 2 * v.length + 3 := by
 have := Ds v.length; simp only [GU, List.length_append, List.length_cons, List.length_nil]; omega
theorem Tn (l : List Str) (h : ∀ s, s ∈ l → s.length ≤ 100000) : (l.flatMap GU).length ≤ l.length * 200003 := by
 induction l with
 | nil => simp
 | cons s l ih =>
  have h1 := h s (by simp); have h2 := ih fun s hs => h s (by simp [hs]); have h3 := Pt s; simp only [List.flatMap_cons, List.length_append, List.length_cons]; omega
theorem QU (i : Nat) : (Ba.getD i []).length ≤ 10 := by
 match i with
 | 0 | 1 | 2 | 3 | 4 | 5 | 6 | 7 => simp [Ba]
 | i + 8 => simp [Ba]
theorem Jb (c : List (List Str)) (hc : c.length = 8) (i : Nat) (hi : i < c.length) (hv : c[i].length ≤ 1000) (hvv : ∀ v, v ∈ c[i] → v.length ≤ 100000) : ∀ (k j : Nat) (s : Str), j + k = c[i].length → s.length + k * 200003 ≤ 100000000000 →
    AE (fun v : (List UInt8) × Int => DW c (i : Int) v.1 v.2) (s, (j : Int)) = some (s ++ (c[i].drop j).flatMap GU)
  | 0, j, s, h, hs => by
    refine AG ?_
    show DW c (i : Int) s (j : Int) = _
    unfold DW
    rw [A9 (by omega), Int.toNat_natCast, Dw hi, if_neg (by omega), List.drop_of_length_le (by omega)]
    simp
  | k + 1, j, s, h, hs => by
    have hj : j < c[i].length := by omega
    have hl := hvv _ (List.getElem_mem hj)
    have hd := Ds c[i][j].length
    have hvl := Pt c[i][j]
    rw [AZ (s' := (s ++ GU c[i][j], ((j + 1 : Nat) : Int))), Jb c hc i hi hv hvv k (j + 1) _ (by omega) (by rw [List.length_append]; omega)]
    · rw [List.drop_eq_getElem_cons hj, List.flatMap_cons, List.append_assoc]
    · show DW c (i : Int) s (j : Int) = _
      unfold DW
      rw [A9 (by omega), Int.toNat_natCast, Dw hi, if_pos (by omega), A9 (by omega), Int.toNat_natCast, Dw hj, Rq _ (by omega)]
      simp only [Option.bind_some]
      rw [A9 (by omega), A9 (by simp only [List.length_append, List.length_cons, List.length_nil]; omega), A9 (by simp only [List.length_append, List.length_cons, List.length_nil]; omega), A9 (by simp only [List.length_append, List.length_cons, List.length_nil]; omega), AS (by omega)]
      simp [GU]
theorem Yk {a b : Nat} (h1 : a ≤ 10000000000) (h2 : b ≤ 1000) : a + b * 200003 ≤ 100000000000 := by omega
set_option maxRecDepth 8000 in
theorem ME (c : List (List Str)) (h : OG c) : ∀ (k i : Nat) (s : Str), i + k = 8 → s.length + k * 300000000 ≤ 10000000000 →
    AE (fun v : (List UInt8) × Int => FH c v.1 v.2) (s, (i : Int)) = some (s ++ Ef c k i)
  | 0, i, s, hk, hs => by
    refine AG ?_
    show FH c s (i : Int) = _
    unfold FH
    rw [if_neg (by omega)]
    simp [Ef]
  | k + 1, i, s, hk, hs => by
    have hi : i < c.length := by rw [h.1]; omega
    have hm := List.getElem_mem hi
    have h1 := (h.2 _ hm).1
    have h2 := (h.2 _ hm).2
    have h3 := Tn c[i] h2
    have h4 := Ds c[i].length
    have h5 := QU i
    have h6 : Ba.length = 8 := rfl
    have hg : c.getD i [] = c[i] := Dw hi
    have hsb : s.length ≤ 10000000000 := by omega
    have hq2 : s.length + c[i].length * 200003 ≤ 100000000000 := Yk hsb h1
    have hfl : (BZ i c[i]).length ≤ 300000000 := by
      unfold BZ
      split
      · simp only [List.nil_append]; omega
      · simp only [List.length_append, List.length_cons, List.length_nil]; omega
    rw [AZ (s' := (s ++ BZ i c[i], ((i + 1 : Nat) : Int))), ME c h k (i + 1) _ (by omega) (by rw [List.length_append]; omega)]
    · rw [Ef, hg, List.append_assoc]
    · show FH c s (i : Int) = _
      unfold FH
      rw [if_pos (by omega), A9 (by omega), Int.toNat_natCast, hg]
      by_cases hz : c[i] = []
      · rw [if_neg (by rw [hz]; simp)]
        unfold G5
        have := Jb c h.1 i hi h1 h2 c[i].length 0 s (Nat.zero_add _) hq2
        rw [show ((0 : Nat) : Int) = 0 from rfl, List.drop_zero] at this
        rw [this]
        simp only [Option.bind_some, Il]
        rw [AS (by omega)]
        simp [BZ, hz]
      · have hp : 0 < c[i].length := List.length_pos_iff.2 hz
        rw [if_pos (by omega)]
        have e32 : XK = some Ba := rfl
        rw [e32]
        simp only [Option.bind_some]
        rw [A9 (by omega), A9 (by omega), A9 (by simp only [List.length_append, List.length_cons, List.length_nil]; omega), Rq _ (by omega)]
        simp only [Option.bind_some]
        rw [A9 (by simp only [List.length_append, List.length_cons, List.length_nil]; omega), A9 (by simp only [List.length_append, List.length_cons, List.length_nil]; omega)]
        unfold G5
        have := Jb c h.1 i hi h1 h2 c[i].length 0 (s ++ Ba.getD i [] ++ [32] ++ decDigits c[i].length ++ [10]) (by omega) (by simp only [List.length_append, List.length_cons, List.length_nil]; omega)
        rw [show ((0 : Nat) : Int) = 0 from rfl, List.drop_zero] at this
        rw [this]
        simp only [Option.bind_some, Il]
        rw [AS (by omega)]
        simp [BZ, hz]
theorem Wm (c : List (List Str)) (h : OG c) : F70 c = some (BO c) := by
 unfold F70; rw [A9 h.1]; have := ME c h 8 0 [] (by omega) (by simp); rw [show ((0 : Nat) : Int) = 0 from rfl] at this; rw [this, K5 c h.1]; simp [NS]
end Go.Idl
namespace Go.Idl
open Go Go.Proofs.Tryz Go.Lib
set_option pp.deepTerms false
section
variable {m : Mp} {n : Np} {pr : Option S33} {d : S35}
theorem To (I : Inv m n pr d) : (D8 d).length ≤ 1000000 ∧ ∀ r ∈ D8 d, r.Bb.length ≤ 1000000 ∧ r.Aa.length ≤ 1000000 := by
 have h64 := I.len; have hl : ∀ {s : Str}, BF s = true → s.length ≤ 70 := fun {s} h => by
  unfold BF at h; simp only [Bool.and_eq_true, decide_eq_true_eq, Jx, List.length_drop] at h; omega
 have ul : ∀ {s : Str}, BQ s = true → s.length ≤ 64 := fun {s} h => by
  unfold BQ at h; simp only [Bool.and_eq_true, decide_eq_true_eq] at h; omega
 have hrow : ∀ r ∈ d.fL.map Co, r.Bb.length ≤ 1000000 ∧ r.Aa.length ≤ 1000000 := fun r hr => by
  obtain ⟨x, hx, rfl⟩ := List.mem_map.1 hr; obtain ⟨hg, hk⟩ := I.good x hx; simp only [Cx, Bool.and_eq_true] at hg; have h1 := hl hg.1.1; have h2 := ul hg.1.2; have h3 := Eh x.A5 hk.2.2.1 hg.2; simp only [Co, List.length_append, List.length_cons, List.length_nil]; omega
 unfold D8; rcases I.Mx with ⟨a1, _, _⟩ | ⟨a1, _, a3⟩
 ·rw [if_pos a1, List.nil_append]; exact ⟨by simp; omega, hrow⟩
 ·rw [if_neg a1]; refine ⟨by simp; omega, fun r hr => ?_⟩; rcases List.mem_append.1 hr with hr | hr
  ·rw [List.mem_singleton.1 hr]; obtain ⟨_, _, hc⟩ := BH a3; have h3 := Eh d.fP.A5 I.psh hc; have hd := Dz a3; have h4 := G2 (Dk hd); simp only [Bt, Bool.and_eq_true, decide_eq_true_eq] at hd; have hh : d.fP.Ad.length ≤ 70 ∧ d.fP.Am.length ≤ 64 := by
    unfold A_ at a3; simp only [Bool.and_eq_true, Bool.or_eq_true, decide_eq_true_eq] at a3; refine ⟨hl a3.2.1, ?_⟩; rcases a3.1 with h | h
    ·exact ul h.1
    ·rw [h.1]; simp
   simp only [Gd, Pe, List.length_append, List.length_cons, List.length_nil]; omega
  ·exact hrow r hr
end
end Go.Idl
namespace Go.Idl
open Go Go.Proofs.Tryz Go.Lib
set_option pp.deepTerms false
section
variable {m : Mp} {n : Np} {pr : Option S33} {d : S35}
theorem Wn (I : Inv m n pr d) : RQ m n pr = some (D8 d) := QJ I
theorem eE (I : Inv m n pr d) (a3 : A_ d.fP = true) : F69 d.fP = some (Gd d.fP) := by
 obtain ⟨p1, p2, p3⟩ := BH a3; have hd := Dz a3; have h8 := I.psh; have hb := I.RG; have t := Eh _ h8 p3; have td := G2 (Dk hd); have hd16 : d.fP.fDn.length ≤ 16 := by
  have h := hd; simp only [Bt, Bool.and_eq_true, decide_eq_true_eq] at h; exact h.1
 have o1 := hb.1; have o2 := hb.2.1; unfold F69; rw [A9 h8, A9 (by simp; omega), A9 (by simp; omega), A9 (by simp; omega), Y8 _ hd, Option.bind_some, A9 (by simp; omega), A9 (by simp; omega), Wm _ (EF h8 p3), Option.bind_some, A9 (by simp; omega)]; unfold Gd; rw [Pe]; simp [List.append_assoc]
theorem LA (I : Inv m n pr d) : ∀ (k j : Nat) (l : List S78), j + k = d.fL.length → l.length ≤ j + 1 → AE (fun (s : (List S78) × Int) => FI d.fL s.1 s.2) (l, (j : Int)) = some (l ++ (d.fL.drop j).map Co)
  | 0, j, l, h, hl => by
    refine AG ?_
    show FI d.fL l (j : Int) = _
    unfold FI
    rw [if_neg (by omega), List.drop_of_length_le (by omega)]
    simp
  | k + 1, j, l, h, hl => by
    have hj : j < d.fL.length := by omega
    have h64 := I.len
    have hg := I.good _ (List.getElem_mem hj)
    have hx := I.sh _ (List.getElem_mem hj)
    obtain ⟨t1, t2⟩ := Lr hg
    have hc : AH d.fL[j].A5 = true := by
      have := hg.1
      simp only [Cx, Bool.and_eq_true] at this
      exact this.2
    have o1 := hg.2.1
    have o2 := hg.2.2.1
    rw [AZ (s' := (l ++ [Co d.fL[j]], ((j + 1 : Nat) : Int))), LA I k (j + 1) _ (by omega) (by simp; omega)]
    · rw [List.drop_eq_getElem_cons hj, List.map_cons, List.append_assoc]; rfl
    · show FI d.fL l (j : Int) = _
      unfold FI
      rw [if_pos (by omega), A9 (by omega), Int.toNat_natCast, getD_some hj, A9 (by simp; omega), A9 (by simp; omega), A9 hx, Wm _ (EF hx hc), Option.bind_some, A9 (by simp; omega), A9 (by simp; omega), AS (by omega)]
      rfl
theorem eG (I : Inv m n pr d) : F37 d.fL d.fP = some (D8 d) := by
 unfold F37 Lw D8; rw [A9 I.psh]; rcases I.Mx with ⟨a1, _, _⟩ | ⟨a1, _, a3⟩
 ·rw [if_pos a1, if_neg (by simpa using a1)]; have := LA I d.fL.length 0 [] (by omega) (by simp); rw [show ((0 : Nat) : Int) = 0 from rfl] at this; rw [this, Option.bind_some, Lv, List.drop_zero]
 ·rw [if_neg a1, if_pos a1, eE I a3, Option.bind_some, A9 (by simp)]; have := LA I d.fL.length 0 [Gd d.fP] (by omega) (by simp); rw [show ((0 : Nat) : Int) = 0 from rfl] at this; rw [this, Option.bind_some, Lv, List.drop_zero]
end
theorem Wo (a : Int) (q : Nat) (h0 : 0 < q) (hq : q ≤ 1000000) : 0 ≤ (IntKind.i64.wrap (a.tmod (q : Int) + (q : Int))).tmod (q : Int) ∧ (IntKind.i64.wrap (a.tmod (q : Int) + (q : Int))).tmod (q : Int) < (q : Int) := by
 have hp : (0 : Int) < (q : Int) := by omega
 have h1 := Int.tmod_lt_of_pos a hp; have h2 := Int.lt_tmod_of_pos a hp; rw [wrap_i64 (by omega) (by omega)]; exact ⟨Int.tmod_nonneg _ (by omega), Int.tmod_lt_of_pos _ hp⟩
theorem swap_perm {l : List S78} {k : Nat} (h0 : 0 < l.length) (hk : k < l.length) : ((l.set 0 (l.getD k S78.zero)).set k (l.getD 0 S78.zero)).Perm l := by
 rw [getD_some hk, getD_some h0]; exact List.set_set_perm h0 hk
theorem turns (t : List Int) (ht : t.length ≤ 1000) (v : List S78) (hv : v.length ≤ 1000000) : ∃ v', AE (fun (s : (List S78) × Int) => Ja t s.1 s.2) (v, 0) = some v' ∧ v'.Perm v := by
 refine Eb (step := fun (s : (List S78) × Int) => Ja t s.1 s.2) (Post := fun y => y.Perm v) (fun s => ∃ i : Nat, i ≤ t.length ∧ s.2 = (i : Int) ∧ s.1.Perm v) (fun s => t.length - s.2.toNat) ?_ (s := (v, 0)) ⟨0, by omega, rfl, .refl _⟩
 rintro ⟨w, k⟩ ⟨i, hi, hk, hp⟩
 simp only at hk hp; subst hk; have hw := hp.length_eq; simp only [Ja]; by_cases hlt : i < t.length
 ·rw [if_pos (by omega)]; by_cases h0 : 0 < w.length
  ·left; rw [if_pos (by omega), A9 (by omega), Int.toNat_natCast, getD_some hlt]; obtain ⟨b1, b2⟩ := Wo t[i] w.length h0 (by omega); generalize (IntKind.i64.wrap (t[i].tmod (w.length : Int) + (w.length : Int))).tmod (w.length : Int) = q at *; rw [A9 (by omega), A9 ⟨b1, b2⟩, A9 h0, A9 ⟨b1, by rw [List.length_set]; exact b2⟩, AS (by omega)]; exact ⟨_, rfl, ⟨i + 1, by omega, rfl, (swap_perm h0 (by omega)).trans hp⟩, by simp; omega⟩
  ·right; rw [if_neg (by omega)]; exact ⟨_, rfl, hp⟩
 ·right; rw [if_neg (by omega)]; exact ⟨_, rfl, hp⟩
theorem MF (v : List S78) (hv : v.length ≤ 1000000) : ∀ (k j : Nat), j + k = v.length → AE (fun (s : (List S78) × Int) => FJ v s.1 s.2) (v, (j : Int)) = some (.inl v)
  | 0, j, h => by
    refine AG ?_
    show FJ v v (j : Int) = _
    unfold FJ
    rw [if_neg (by omega)]
  | k + 1, j, h => by
    have hj : j < v.length := by omega
    rw [AZ (s' := (v, ((j + 1 : Nat) : Int))), MF v hv k (j + 1) (by omega)]
    show FJ v v (j : Int) = _
    unfold FJ
    rw [if_pos (by omega), A9 (by omega), A9 (by omega), if_neg (fun q => q ⟨rfl, rfl⟩), AS (by omega)]
theorem jO (l : List S41) (t : List Int) (h : ∀ a ∈ l, VT a) : F9 l t = some true := by
 unfold F9; rw [dO _ 40 (by omega) h, VV]; simp only [Option.bind_some]; by_cases h0 : (decide ((l.length : Int) ≤ 40) && l.all QH) = true
 ·rw [if_neg (by simpa using h0)]; by_cases ht : 60 < (t.length : Int)
  ·rw [if_pos ht]
  ·rw [if_neg ht, show F12 = some ([], [], none) from rfl]; simp only [Bool.and_eq_true, decide_eq_true_eq, List.all_eq_true] at h0; have hok : ∀ a ∈ l, okA a := fun a ha => Yd (h0.2 a ha) (h a ha).1; obtain ⟨m, n, p, d, e1, I⟩ := jH (step := fun (s : Int × (Option S33) × Mp × Np × S35) => NW l s.1 s.2.1 s.2.2.1 s.2.2.2.1 s.2.2.2.2) l (by omega) hok (fun _ => rfl) Inv.nil; simp only [Option.bind_some]; rw [Pc, e1]; obtain ⟨b1, b2⟩ := To I; simp only [Option.bind_some, NV]; rw [A9 I.psh, Wn I, Option.bind_some, eG I, Option.bind_some, if_neg (fun q => q rfl)]; have e2 := MF (D8 d) b1 (D8 d).length 0 (by omega); rw [show ((0 : Nat) : Int) = 0 from rfl] at e2; rw [e2]; simp only [Option.bind_some, Sum.elim_inl, NU]; obtain ⟨v, e3, hp⟩ := turns t (by omega) (D8 d) b1; rw [e3]; simp only [Option.bind_some, NT]; have c1 : v.length ≤ 1000000 := by rw [hp.length_eq]; exact b1
   obtain ⟨m', n', p', e4, I'⟩ := (dV (l := v) c1 (fun r hr => b2 r (hp.subset hr))).2 d (W8 I hp); rw [e4]; simp only [Option.bind_some, opP, if_true]; rw [dQ I' I]; simp only [Option.bind_some, decide_true, if_true]; rw [dN I']; simp only [Option.bind_some, if_true]; rw [VV]; rfl
 ·rw [if_pos h0]
end Go.Idl
namespace Go.Proofs.YtbgebljjmpklkaaGreatDoor
open Go Go.ChangeShapes Go.WideShapes Go.ChangeAt Go.RowKit Go.Idl
section
variable {w : World} {Hh : Type} {enc : TypeId × Value → Hh}
theorem oq : RdZ Tryz.prog w enc 86 fun is => ∃ l : List Int, True ∧ is = [.sl 1 (l.map fun x => [.v (.int .i64 x)])] := by
 have h := Pg (w := w) (enc := enc) (fun n : Int => [IV.v (.int .i64 n)]) Tryz.underlying86 (Nat.lt_of_lt_of_eq Nat.one_pos KD.symm) (W4 Tryz.underlying3); rw [KD] at h; refine h.z.mono ?_
 rintro is ⟨l, rfl⟩
 exact ⟨l, trivial, rfl⟩
end
end Go.Proofs.YtbgebljjmpklkaaGreatDoor
namespace Go.Proofs.YtbgebljjmpklkaaGreatDoor
open Go Go.ChangeShapes Go.WideShapes Go.ChangeAt Go.RowKit Go.Idl
set_option maxRecDepth 100000 in
theorem Jc (os : Os) (started : os.Started) (H : Type) (enc : TypeId × Value → H) :
    ReturnsInHanded {} Tryz.checked os 9 .any (fun w args => (Rows.pairsRowsSpec.pre enc Tryz.prog Tryz.f9 [] false w args ∧ laidMetH Tryz.prog Ik w) ∧ sizedMet enc Tryz.prog Tryz.f9 (OpenSpec.ofChange Rows.pairsRowsSpec) false w args)
      (Rows.pairsRowsSpec.post enc Tryz.prog Tryz.f9 false true false false) := by
 refine J8 (C := Tryz.checked) (X := fun w _ => laidMetH Tryz.prog Ik w) (fun _ _ _ hh h => h.of_heap hh) Yh started (by kernel_rfl) Tryz.func9
  (ChangeSpec.witness_shaped (enc := enc) (C := Tryz.checked) (os := os) (X := fun w _ => laidMetH Tryz.prog Ik w) false (World.laidAll Tryz.prog os Ik) #[.slice none 0 0, .slice none 0 0] 8 (World.laidAll_os _ _ _) (Pj os) (by kernel_rfl) (by kernel_rfl) (by kernel_rfl) (Th os _)) ?_
 intro W base args ds gs before hval0 hW hwt hL hshape; have hval : ∀ (j : Nat) t v, Tryz.f9.params[j]? = some t → args[j]? = some v → Value.okWide Tryz.prog W .any base t v := hval0; have hW' := hW; obtain ⟨p, q, hA0, hV, rfl, hfz, hnd⟩ := hW; have hA : DataW.TrodAll enc Tryz.prog W 0 (fun _ => true) true Tryz.f9.params.toList args.toList ds p := hA0; rw [Tryz.params9] at hA hval; obtain ⟨v0, v1, d0, d1, p0, p1, rfl, rfl, rfl, h0, h1⟩ := trodAll_two hA; obtain ⟨rfl, rfl⟩ := trodVars_none hV; simp only [List.append_nil] at hW'; have hlt := hW'.lt; have hwt' : (DataW.weightsEach Tryz.prog [22, 86] [d0, d1]).all (· ≤ reachBytes) = true := hwt; obtain ⟨a0, len0, cap0, rfl⟩ := okWide_slice Tryz.underlying22 (hval 0 22 v0 rfl rfl); obtain ⟨a1, len1, cap1, rfl⟩ := okWide_slice Tryz.underlying86 (hval 1 86 v1 rfl rfl); obtain ⟨i0, ⟨x0, b0, e0⟩, r0⟩ := n_.one rfl h0 hwt' (k := 0) rfl rfl; simp only [List.cons.injEq, and_true] at e0; subst e0; obtain ⟨i1, ⟨x1, b1, e1⟩, r1⟩ := oq.one rfl h1 hwt' (k := 1) rfl rfl; simp only [List.cons.injEq, and_true] at e1; subst e1; obtain ⟨vs, hvs, hvok⟩ := Ti hL hshape
 have hcall := (jN (H := HV vs) (K := fun e _ => e = .ret (.v (.bool true))) x0 x1 hvok (jO x0 x1 b0) rfl).run W g0 #[.slice a0 len0 cap0, .slice a1 len1 cap1] (nR W vs hvs) ⟨rfl, fun j x i hx hi => by
   match j, hx, hi with
   | 0, hx, hi => simp at hx hi; subst hx; subst hi; exact r0
   | 1, hx, hi => simp at hx hi; subst hx; subst hi; exact r1
   | j + 2, hx, hi => simp at hx⟩
 refine hcall.mono ?_
 rintro e W' ⟨ie, g', H', hm, _, hre, rfl⟩
 have hb := LN hm; obtain ⟨rfl⟩ : e = .returned (.bool true) := by
  cases hre with
  | ret x i h => rw [h.v_eq]
 refine ⟨_, rfl, ?_⟩; refine ⟨_, _, _, [], p0 ++ p1, [], hW', trodAll_mk1 (shut_bool Tryz.underlying4 _), ?_, ?_, hb.frame _, fun h => by cases h⟩
 ·have hl0 : ∀ x ∈ p0, x.block < W.heap.size := fun x hx => hlt x (by simp [hx]); have hl1 : ∀ x ∈ p1, x.block < W.heap.size := fun x hx => hlt x (by simp [hx]); have k0 := Below.trod Lu (by kernel_rfl) (of_decide_eq_true (by kernel_rfl)) h0 hb hl0; have k1 := Below.trod Lu (by kernel_rfl) (of_decide_eq_true (by kernel_rfl)) h1 hb hl1; exact ⟨p0, p1, k0, ⟨p1, [], k1, rfl, by simp⟩, by simp⟩
 ·rfl
theorem LO : Rows.PairsRowsSaid :=
  OpenClaim.holds_of_wide 9 Tryz.f9 rfl rfl rfl rfl rfl rfl rfl ⟨rfl, rfl, rfl, rfl, rfl⟩ rfl rfl rfl rfl rfl (by kernel_rfl) Tryz.func9 (by kernel_rfl)
    (of_decide_eq_true (by kernel_rfl)) (by unfold Func.isWrapper; first | (rw [if_pos (by decide +kernel)]; kernel_rfl) | (rw [if_neg (by decide +kernel)]; exact ⟨rfl, rfl⟩))
    (fun os started H enc _ => Jc os started H enc)
theorem pairsRows_holds : Rows.PairsRowsCardSaid :=
  Claim7.holds_tied_plain_at .later [] [.data, .data, .data, .data, .sentinel, .sentinel, .pinned] true (true, "5dbde0cbb162a84d239fd1634710af79b7da20f43e8be4b7c72be86c8a99f6d5") true
    LO (fun _ h => by cases h) (by kernel_rfl) (fun _ h => by cases h) pairsRows_row_tie rfl ⟨rfl, rfl⟩ (by kernel_rfl) rfl
    (fun f fn hf hfn => by
      obtain rfl : f = 9 := Option.some.inj ((show Tryz.prog.funcNamed "cardcase/cardcaselaw20.PairsRows" = some 9 by kernel_rfl).symm.trans hf) |>.symm
      obtain rfl : fn = Tryz.f9 := (Option.some.inj (Tryz.func9.symm.trans hfn)).symm
      exact ⟨by kernel_rfl, fun j t ht => by
        rw [Tryz.params9] at ht
        have hm : t ∈ [22, 86] := by simpa using Array.mem_of_getElem? ht
        have hall : ([22, 86].all fun u => !Tryz.prog.wantsStandIn u) = true := by kernel_rfl
        exact (show Tryz.prog.wantsStandIn t = false by simpa using List.all_eq_true.1 hall t hm)⟩)
    (by kernel_rfl)
end Go.Proofs.YtbgebljjmpklkaaGreatDoor
