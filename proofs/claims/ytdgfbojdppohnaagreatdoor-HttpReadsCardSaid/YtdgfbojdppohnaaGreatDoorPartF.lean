/- The request, the reply of any bytes, or that they are of none: the saying of the case law 12 Part 6. Conditions: none. -/
import Derived.Test.YtdgfbojdppohnaaGreatDoorPartE
set_option linter.unusedSimpArgs false
set_option linter.unusedVariables false
namespace Go.Idl
open Go Go.Proofs.Tryz
noncomputable def F36 (a0 : List UInt8) : Option (S25 × Int) :=
 (F64 ((⟨(⟨a0⟩ : S98)⟩ : AQ))).bind fun (x5 : Except Unit ((List UInt8) × AQ)) => orP x5 (fun (ex5 : Unit) => some (((⟨0, [], []⟩ : S25), 220))) (fun (y6 : (List UInt8) × AQ) => (F30 y6.1).bind fun (x7 : Except Unit (S25)) => orP x7 (fun (ex7 : Unit) => some (((⟨0, [], []⟩ : S25), 220))) (fun (y8 : S25) => (F65 y6.2).bind fun (x10 : Except Unit ((List (List UInt8 × (List UInt8))) × AQ)) => orP x10 (fun (ex10 : Unit) => some (((⟨0, [], []⟩ : S25), 220))) (fun (y11 : (List (List UInt8 × (List UInt8))) × AQ) => (F66 y11.2 y11.1).bind fun (x13 : Except Unit ((List UInt8) × AQ × (List (List UInt8 × (List UInt8))))) => orP x13 (fun (ex13 : Unit) => some (((⟨0, [], []⟩ : S25), 220))) (fun (y14 : (List UInt8) × AQ × (List (List UInt8 × (List UInt8)))) => if (y14.2.1.BA.fb.length : Int) = 0 then ((F67 y14.2.2).bind fun (x16 : (List S55)) => (F27 x16 y14.1).bind fun (x17 : Bool) => if x17 = true then ((F67 y14.2.2).bind fun (x20 : (List S55)) => (F37 y8 x20 y14.1).bind fun (x21 : S25) => some (x21, 0)) else (some (((⟨0, [], []⟩ : S25), 220)))) else (some (((⟨0, [], []⟩ : S25), 220)))))))
set_option maxHeartbeats 8000000 in
set_option pp.deepTerms false in
set_option maxRecDepth 60000 in
theorem V7 {H : A3} {K : AB → A3 → Prop} (a0 : List UInt8) (hV : VOK prog H) {r : S25 × Int} (h : F36 a0 = some r) (hK : K (.ret (.tu [.ag ([.v (.int .i64 r.1.CP), .sl 2 (r.1.Ax.map fun x => [.v (str x.fName), .v (str x.A8)]), .sl 1 (r.1.AT.map fun x => [.v (.int .u8 x.toNat)])]), .v (.int .i64 r.2)])) H) : A6 prog 36 [.sl 1 (a0.map fun x => [.v (.int .u8 x.toNat)]), .v (.func (.func 30) #[] #[]), .v (.func (.func 37) #[] #[])] H K := by
 refine J_ (N := 45) func36 (by kernel_rfl) rfl (by kernel_rfl) (by kernel_rfl) fun cb hcb hw => ?_; subst hcb; unfold F36 at h; refine G3 fun cb hc1 => ?_; refine GI.of ?_; refine vcK ?_
 try simp -implicitDefEqProofs (disch := omega) [go_sem, bdP]
 subst hc1; refine G3 fun cb hc2 => ?_; refine IU (by kernel_rfl) ?_; simp (decide := true) only [HC, KU, K1]
 try simp -implicitDefEqProofs (disch := omega) [go_sem, bdP]
 subst hc2; refine GI.of ?_; refine A2 fun cb hc3 => ?_; refine vcK ?_
 try simp -implicitDefEqProofs (disch := omega) [go_sem, bdP]
 subst hc3; refine A2 fun cb hc4 => ?_; refine vcK ?_
 try simp -implicitDefEqProofs (disch := omega) [go_sem, bdP]
 obtain ⟨x5, hx5, h⟩ := A5 h; refine A6.eqA (args' := [.p (H.next + 2) 0]) (by first | with_reducible rfl | (simp -implicitDefEqProofs (disch := omega) [go_sem, bdP] <;> omega)) (GS ((⟨(⟨a0⟩ : S98)⟩ : AQ)) (H.next + 2) (by first | with_reducible assumption | simp -implicitDefEqProofs (disch := omega) [go_sem, bdP]) (by first | exact hV.of rfl | exact hV.of ((Ext.refl hw)).sn | exact hV.of (Ext.sn (H := H) (by exact A9 (Ext.refl hw))) | exact (VOK.of hV rfl).tok | exact (VOK.of hV ((Ext.refl hw)).sn).tok | exact (VOK.of hV (Ext.sn (H := H) (by exact A9 (Ext.refl hw)))).tok) hx5 ?_ ?_)
 ·intro ex5 qx5; subst qx5; replace h := Bj h; have er := Option.some.inj h; subst er
  try simp -implicitDefEqProofs (disch := omega) [go_sem, bdP]
  refine CZ ?_; refine Bi.eqA (args' := [.p H.next 0, .p (H.next + 1) 0]) (by first | with_reducible rfl | (simp -implicitDefEqProofs (disch := omega) [go_sem, bdP]; done) | rfl) (G7 H.next (H.next + 1) (.v (.int .i64 0)) (.v (.slice none 0 0)) (.v (.slice none 0 0)) (.v (.int .i64 0)) (by first | with_reducible assumption | simp -implicitDefEqProofs (disch := omega) [go_sem, bdP]) (by first | with_reducible assumption | simp -implicitDefEqProofs (disch := omega) [go_sem, bdP]) (by first | omega | (simp [go_sem]; done) | (simp [go_sem]; omega)) ?_)
  try simp -implicitDefEqProofs (disch := omega) [go_sem, bdP]
  refine Az (J := H) (r' := _) (Ext.CK (by exact A9 (Ext.refl hw))) (by first | with_reducible rfl | (simp -implicitDefEqProofs (disch := omega) [go_sem, bdP] <;> omega)) (.wk _ (.tu [.ag ([.v (.int .i64 0), .sl 2 (([] : List S55).map fun x => [.v (str x.fName), .v (str x.A8)]), .sl 1 (([] : List UInt8).map fun x => [.v (.int .u8 x.toNat)])]), .v (.int .i64 220)]) (by repeat (first | exact WkL.nil | refine WkL.cons ?_ ?_ | exact Wk.refl _ | exact Wk.nil _ | refine Wk.agL ?_ | refine Wk.tuL ?_ | (refine Wk.eqv ?_; focus (simp -implicitDefEqProofs (disch := omega) [go_sem, str]; done)))) (by first | exact nbA | exact BJ | exact Bu)) hK
 intro y6 qx5; subst qx5; replace h := Bt h
 try simp -implicitDefEqProofs (disch := omega) [go_sem, bdP]
 obtain ⟨x7, hx7, h⟩ := A5 h; refine A6.eqA (args' := [.v (str y6.1)]) (by first | with_reducible rfl | (simp -implicitDefEqProofs (disch := omega) [go_sem, bdP] <;> omega)) (V5 y6.1 (by first | exact hV.of rfl | exact hV.of ((Ext.refl hw)).sn | exact hV.of (Ext.sn (H := H) (by exact A9 (Ext.refl hw))) | exact (VOK.of hV rfl).tok | exact (VOK.of hV ((Ext.refl hw)).sn).tok | exact (VOK.of hV (Ext.sn (H := H) (by exact A9 (Ext.refl hw)))).tok) hx7 ?_ ?_)
 ·intro ex7 qx7; subst qx7; replace h := Bj h; have er := Option.some.inj h; subst er
  try simp -implicitDefEqProofs (disch := omega) [go_sem, bdP]
  refine CZ ?_; refine Bi.eqA (args' := [.p H.next 0, .p (H.next + 1) 0]) (by first | with_reducible rfl | (simp -implicitDefEqProofs (disch := omega) [go_sem, bdP]; done) | rfl) (G7 H.next (H.next + 1) (.v (.int .i64 0)) (.v (.slice none 0 0)) (.v (.slice none 0 0)) (.v (.int .i64 0)) (by first | with_reducible assumption | simp -implicitDefEqProofs (disch := omega) [go_sem, bdP]) (by first | with_reducible assumption | simp -implicitDefEqProofs (disch := omega) [go_sem, bdP]) (by first | omega | (simp [go_sem]; done) | (simp [go_sem]; omega)) ?_)
  try simp -implicitDefEqProofs (disch := omega) [go_sem, bdP]
  refine Az (J := H) (r' := _) (Ext.CK (by exact A9 (Ext.refl hw))) (by first | with_reducible rfl | (simp -implicitDefEqProofs (disch := omega) [go_sem, bdP] <;> omega)) (.wk _ (.tu [.ag ([.v (.int .i64 0), .sl 2 (([] : List S55).map fun x => [.v (str x.fName), .v (str x.A8)]), .sl 1 (([] : List UInt8).map fun x => [.v (.int .u8 x.toNat)])]), .v (.int .i64 220)]) (by repeat (first | exact WkL.nil | refine WkL.cons ?_ ?_ | exact Wk.refl _ | exact Wk.nil _ | refine Wk.agL ?_ | refine Wk.tuL ?_ | (refine Wk.eqv ?_; focus (simp -implicitDefEqProofs (disch := omega) [go_sem, str]; done)))) (by first | exact nbA | exact BJ | exact Bu)) hK
 intro y8 qx7; subst qx7; replace h := Bt h
 try simp -implicitDefEqProofs (disch := omega) [go_sem, bdP]
 subst hc4; refine A2 fun cb hc9 => ?_; refine vcK ?_
 try simp -implicitDefEqProofs (disch := omega) [go_sem, bdP]
 obtain ⟨x10, hx10, h⟩ := A5 h; refine A6.eqA (args' := [.p (H.next + 2) 0]) (by first | with_reducible rfl | (simp -implicitDefEqProofs (disch := omega) [go_sem, bdP] <;> omega)) (QA y6.2 (H.next + 2) (by first | with_reducible assumption | simp -implicitDefEqProofs (disch := omega) [go_sem, bdP]) (by first | exact hV.of rfl | exact hV.of ((Ext.refl hw)).sn | exact hV.of (Ext.sn (H := H) (by exact A9 (Ext.refl hw))) | exact (VOK.of hV rfl).tok | exact (VOK.of hV ((Ext.refl hw)).sn).tok | exact (VOK.of hV (Ext.sn (H := H) (by exact A9 (Ext.refl hw)))).tok) hx10 ?_ ?_)
 ·intro ex10 qx10; subst qx10; replace h := Bj h; have er := Option.some.inj h; subst er
  try simp -implicitDefEqProofs (disch := omega) [go_sem, bdP]
  refine CZ ?_; refine Bi.eqA (args' := [.p H.next 0, .p (H.next + 1) 0]) (by first | with_reducible rfl | (simp -implicitDefEqProofs (disch := omega) [go_sem, bdP]; done) | rfl) (G7 H.next (H.next + 1) (.v (.int .i64 y8.CP)) (.sl 2 (y8.Ax.map fun x => [.v (str x.fName), .v (str x.A8)])) (.sl 1 (y8.AT.map fun x => [.v (.int .u8 x.toNat)])) (.v (.int .i64 0)) (by first | with_reducible assumption | simp -implicitDefEqProofs (disch := omega) [go_sem, bdP]) (by first | with_reducible assumption | simp -implicitDefEqProofs (disch := omega) [go_sem, bdP]) (by first | omega | (simp [go_sem]; done) | (simp [go_sem]; omega)) ?_)
  try simp -implicitDefEqProofs (disch := omega) [go_sem, bdP]
  refine Az (J := H) (r' := _) (Ext.CK (by exact A9 (Ext.refl hw))) (by first | with_reducible rfl | (simp -implicitDefEqProofs (disch := omega) [go_sem, bdP] <;> omega)) (.wk _ (.tu [.ag ([.v (.int .i64 0), .sl 2 (([] : List S55).map fun x => [.v (str x.fName), .v (str x.A8)]), .sl 1 (([] : List UInt8).map fun x => [.v (.int .u8 x.toNat)])]), .v (.int .i64 220)]) (by repeat (first | exact WkL.nil | refine WkL.cons ?_ ?_ | exact Wk.refl _ | exact Wk.nil _ | refine Wk.agL ?_ | refine Wk.tuL ?_ | (refine Wk.eqv ?_; focus (simp -implicitDefEqProofs (disch := omega) [go_sem, str]; done)))) (by first | exact nbA | exact BJ | exact Bu)) hK
 intro y11 qx10; subst qx10; replace h := Bt h
 try simp -implicitDefEqProofs (disch := omega) [go_sem, bdP]
 subst hc9; refine A2 fun cb hc12 => ?_; refine vcK ?_
 try simp -implicitDefEqProofs (disch := omega) [go_sem, bdP]
 obtain ⟨x13, hx13, h⟩ := A5 h; refine A6.eqA (args' := [.p (H.next + 2) 0, .mp (H.next + 3)]) (by first | with_reducible rfl | (simp -implicitDefEqProofs (disch := omega) [go_sem, bdP] <;> omega)) (QC y11.2 y11.1 (H.next + 2) (H.next + 3) (by first | with_reducible assumption | simp -implicitDefEqProofs (disch := omega) [go_sem, bdP]) (by first | with_reducible assumption | simp -implicitDefEqProofs (disch := omega) [go_sem, bdP]) (by first | exact hV.of rfl | exact hV.of ((Ext.refl hw)).sn | exact hV.of (Ext.sn (H := H) (by exact A9 (Ext.refl hw))) | exact (VOK.of hV rfl).tok | exact (VOK.of hV ((Ext.refl hw)).sn).tok | exact (VOK.of hV (Ext.sn (H := H) (by exact A9 (Ext.refl hw)))).tok) hx13 ?_ ?_)
 ·intro ex13 qx13; subst qx13; replace h := Bj h; have er := Option.some.inj h; subst er
  try simp -implicitDefEqProofs (disch := omega) [go_sem, bdP]
  refine CZ ?_; refine Bi.eqA (args' := [.p H.next 0, .p (H.next + 1) 0]) (by first | with_reducible rfl | (simp -implicitDefEqProofs (disch := omega) [go_sem, bdP]; done) | rfl) (G7 H.next (H.next + 1) (.v (.int .i64 y8.CP)) (.sl 2 (y8.Ax.map fun x => [.v (str x.fName), .v (str x.A8)])) (.sl 1 (y8.AT.map fun x => [.v (.int .u8 x.toNat)])) (.v (.int .i64 0)) (by first | with_reducible assumption | simp -implicitDefEqProofs (disch := omega) [go_sem, bdP]) (by first | with_reducible assumption | simp -implicitDefEqProofs (disch := omega) [go_sem, bdP]) (by first | omega | (simp [go_sem]; done) | (simp [go_sem]; omega)) ?_)
  try simp -implicitDefEqProofs (disch := omega) [go_sem, bdP]
  refine Az (J := H) (r' := _) (Ext.CK (by exact A9 (Ext.refl hw))) (by first | with_reducible rfl | (simp -implicitDefEqProofs (disch := omega) [go_sem, bdP] <;> omega)) (.wk _ (.tu [.ag ([.v (.int .i64 0), .sl 2 (([] : List S55).map fun x => [.v (str x.fName), .v (str x.A8)]), .sl 1 (([] : List UInt8).map fun x => [.v (.int .u8 x.toNat)])]), .v (.int .i64 220)]) (by repeat (first | exact WkL.nil | refine WkL.cons ?_ ?_ | exact Wk.refl _ | exact Wk.nil _ | refine Wk.agL ?_ | refine Wk.tuL ?_ | (refine Wk.eqv ?_; focus (simp -implicitDefEqProofs (disch := omega) [go_sem, str]; done)))) (by first | exact nbA | exact BJ | exact Bu)) hK
 intro y14 qx13; subst qx13; replace h := Bt h
 try simp -implicitDefEqProofs (disch := omega) [go_sem, bdP]
 subst hc12; refine A2 fun cb hc15 => ?_; refine vcK ?_
 try simp -implicitDefEqProofs (disch := omega) [go_sem, bdP]
 refine A7 h (by first | with_reducible rfl | (simp -implicitDefEqProofs (disch := omega) [go_sem, bdP] <;> omega)) ?_ ?_
 ·intro c23 h
  try simp (disch := omega) at c23
  try simp -implicitDefEqProofs (disch := omega) [go_sem, bdP]
  obtain ⟨x16, hx16, h⟩ := A5 h; refine A6.eqA (args' := [.mp (H.next + 3)]) (by first | with_reducible rfl | (simp -implicitDefEqProofs (disch := omega) [go_sem, bdP] <;> omega)) (Lw y14.2.2 (H.next + 3) (by first | with_reducible assumption | simp -implicitDefEqProofs (disch := omega) [go_sem, bdP]) hx16 ?_)
  try simp -implicitDefEqProofs (disch := omega) [go_sem, bdP]
  obtain ⟨x17, hx17, h⟩ := A5 h; refine A6.eqA (args' := [.sl 2 (x16.map fun x => [.v (str x.fName), .v (str x.A8)]), .sl 1 (y14.1.map fun x => [.v (.int .u8 x.toNat)])]) (by first | with_reducible rfl | (simp -implicitDefEqProofs (disch := omega) [go_sem, bdP] <;> omega)) (NJ x16 y14.1 hx17 ?_)
  try simp -implicitDefEqProofs (disch := omega) [go_sem, bdP]
  refine A6.eqA (args' := [.v (.bool x17)]) (by first | with_reducible rfl | (simp -implicitDefEqProofs (disch := omega) [go_sem, bdP] <;> omega)) ?_; by_cases m18 : ¬ (x17 = true)
  ·rw [if_neg m18] at h; refine BK  (by first | simpa using m18 | exact Bool.eq_false_iff.2 (fun q => m18 (by simpa using q))) ?_
   try simp (disch := omega) at m18
   have er := Option.some.inj h; subst er
   try simp -implicitDefEqProofs (disch := omega) [go_sem, bdP]
   refine CZ ?_; refine Bi.eqA (args' := [.p H.next 0, .p (H.next + 1) 0]) (by first | with_reducible rfl | (simp -implicitDefEqProofs (disch := omega) [go_sem, bdP]; done) | rfl) (G7 H.next (H.next + 1) (.v (.int .i64 y8.CP)) (.sl 2 (y8.Ax.map fun x => [.v (str x.fName), .v (str x.A8)])) (.sl 1 (y8.AT.map fun x => [.v (.int .u8 x.toNat)])) (.v (.int .i64 0)) (by first | with_reducible assumption | simp -implicitDefEqProofs (disch := omega) [go_sem, bdP]) (by first | with_reducible assumption | simp -implicitDefEqProofs (disch := omega) [go_sem, bdP]) (by first | omega | (simp [go_sem]; done) | (simp [go_sem]; omega)) ?_)
   try simp -implicitDefEqProofs (disch := omega) [go_sem, bdP]
   refine Az (J := H) (r' := _) (Ext.CK (by exact A9 (Ext.refl hw))) (by first | with_reducible rfl | (simp -implicitDefEqProofs (disch := omega) [go_sem, bdP] <;> omega)) (.wk _ (.tu [.ag ([.v (.int .i64 0), .sl 2 (([] : List S55).map fun x => [.v (str x.fName), .v (str x.A8)]), .sl 1 (([] : List UInt8).map fun x => [.v (.int .u8 x.toNat)])]), .v (.int .i64 220)]) (by repeat (first | exact WkL.nil | refine WkL.cons ?_ ?_ | exact Wk.refl _ | exact Wk.nil _ | refine Wk.agL ?_ | refine Wk.tuL ?_ | (refine Wk.eqv ?_; focus (simp -implicitDefEqProofs (disch := omega) [go_sem, str]; done)))) (by first | exact nbA | exact BJ | exact Bu)) hK
  have m18 := Classical.not_not.1 m18; rw [if_pos m18] at h; refine Dv  (by simpa using m18) ?_
  try simp (disch := omega) at m18
  try simp -implicitDefEqProofs (disch := omega) [go_sem, bdP]
  subst hc15; refine A2 fun cb hc19 => ?_; refine vcK ?_
  try simp -implicitDefEqProofs (disch := omega) [go_sem, bdP]
  obtain ⟨x20, hx20, h⟩ := A5 h; refine A6.eqA (args' := [.mp (H.next + 3)]) (by first | with_reducible rfl | (simp -implicitDefEqProofs (disch := omega) [go_sem, bdP] <;> omega)) (Lw y14.2.2 (H.next + 3) (by first | with_reducible assumption | simp -implicitDefEqProofs (disch := omega) [go_sem, bdP]) hx20 ?_)
  try simp -implicitDefEqProofs (disch := omega) [go_sem, bdP]
  obtain ⟨x21, hx21, h⟩ := A5 h; refine A6.eqA (args' := [.p H.next 0, .sl 2 (x20.map fun x => [.v (str x.fName), .v (str x.A8)]), .sl 1 (y14.1.map fun x => [.v (.int .u8 x.toNat)])]) (by first | with_reducible rfl | (simp -implicitDefEqProofs (disch := omega) [go_sem, bdP] <;> omega)) (V6 y8 x20 y14.1 H.next (by first | with_reducible assumption | simp -implicitDefEqProofs (disch := omega) [go_sem, bdP]) hx21 ?_)
  try simp -implicitDefEqProofs (disch := omega) [go_sem, bdP]
  subst hc19; refine A2 fun cb hc22 => ?_; refine vcK ?_
  try simp -implicitDefEqProofs (disch := omega) [go_sem, bdP]
  subst hc22; refine vcK ?_; simp -implicitDefEqProofs only [go_sem]; have er := Option.some.inj h; subst er
  try simp -implicitDefEqProofs (disch := omega) [go_sem, bdP]
  refine Oa ?_; refine Bi.eqA (args' := [.p H.next 0, .p (H.next + 1) 0]) (by first | with_reducible rfl | (simp -implicitDefEqProofs (disch := omega) [go_sem, bdP]; done) | rfl) (Sx ?_)
  try simp -implicitDefEqProofs (disch := omega) [go_sem, bdP]
  refine A4 (by exact A9 (Ext.refl hw)) (by first | with_reducible rfl | (simp -implicitDefEqProofs (disch := omega) [go_sem, bdP] <;> omega)) nbA hK
 ·intro c23 h
  try simp (disch := omega) at c23
  try simp -implicitDefEqProofs (disch := omega) [go_sem, bdP]
  refine A6.eqA (args' := [.v (.bool false)]) (by first | with_reducible rfl | (simp -implicitDefEqProofs (disch := omega) [go_sem, bdP] <;> omega)) (BK  rfl ?_); have er := Option.some.inj h; subst er
  try simp -implicitDefEqProofs (disch := omega) [go_sem, bdP]
  refine CZ ?_; refine Bi.eqA (args' := [.p H.next 0, .p (H.next + 1) 0]) (by first | with_reducible rfl | (simp -implicitDefEqProofs (disch := omega) [go_sem, bdP]; done) | rfl) (G7 H.next (H.next + 1) (.v (.int .i64 y8.CP)) (.sl 2 (y8.Ax.map fun x => [.v (str x.fName), .v (str x.A8)])) (.sl 1 (y8.AT.map fun x => [.v (.int .u8 x.toNat)])) (.v (.int .i64 0)) (by first | with_reducible assumption | simp -implicitDefEqProofs (disch := omega) [go_sem, bdP]) (by first | with_reducible assumption | simp -implicitDefEqProofs (disch := omega) [go_sem, bdP]) (by first | omega | (simp [go_sem]; done) | (simp [go_sem]; omega)) ?_)
  try simp -implicitDefEqProofs (disch := omega) [go_sem, bdP]
  refine Az (J := H) (r' := _) (Ext.CK (by exact A9 (Ext.refl hw))) (by first | with_reducible rfl | (simp -implicitDefEqProofs (disch := omega) [go_sem, bdP] <;> omega)) (.wk _ (.tu [.ag ([.v (.int .i64 0), .sl 2 (([] : List S55).map fun x => [.v (str x.fName), .v (str x.A8)]), .sl 1 (([] : List UInt8).map fun x => [.v (.int .u8 x.toNat)])]), .v (.int .i64 220)]) (by repeat (first | exact WkL.nil | refine WkL.cons ?_ ?_ | exact Wk.refl _ | exact Wk.nil _ | refine Wk.agL ?_ | refine Wk.tuL ?_ | (refine Wk.eqv ?_; focus (simp -implicitDefEqProofs (disch := omega) [go_sem, str]; done)))) (by first | exact nbA | exact BJ | exact Bu)) hK
noncomputable def F11 (a0 : List UInt8) : Option (Except Unit (S25 × Int)) :=
 (F36 a0).bind fun (x4 : S25 × Int) => some ((.ok (x4.1, x4.2)))
set_option maxHeartbeats 8000000 in
set_option pp.deepTerms false in
set_option maxRecDepth 60000 in
theorem QD {H : A3} {K : AB → A3 → Prop} (a0 : List UInt8) (hV : VOK prog H) {r : Except Unit (S25 × Int)} (h : F11 a0 = some r) (hP : ∀ e, r = .error e → K (.pan (CX e)) H) (hK : ∀ v : S25 × Int, r = .ok v → K (.ret (.tu [.ag ([.v (.int .i64 v.1.CP), .sl 2 (v.1.Ax.map fun x => [.v (str x.fName), .v (str x.A8)]), .sl 1 (v.1.AT.map fun x => [.v (.int .u8 x.toNat)])]), .v (.int .i64 v.2)])) H) : A6 prog 11 [.sl 1 (a0.map fun x => [.v (.int .u8 x.toNat)])] H K := by
 refine Ae (N := 10) func11 (by kernel_rfl) rfl (by kernel_rfl) (by kernel_rfl) fun cb hcb hw hbd hnb => ?_; clear hbd hnb; subst hcb; unfold F11 at h; refine A2 fun cb hc1 => ?_; refine vcK ?_
 try simp -implicitDefEqProofs (disch := omega) [go_sem]
 subst hc1; refine A2 fun cb hc2 => ?_; refine vcK ?_
 try simp -implicitDefEqProofs (disch := omega) [go_sem]
 subst hc2; refine A2 fun cb hc3 => ?_; refine vcK ?_
 try simp -implicitDefEqProofs (disch := omega) [go_sem]
 obtain ⟨x4, hx4, h⟩ := A5 h; refine A6.eqA (args' := [.sl 1 (a0.map fun x => [.v (.int .u8 x.toNat)]), .v (.func (.func 30) #[] #[]), .v (.func (.func 37) #[] #[])]) (by first | with_reducible rfl | (simp -implicitDefEqProofs (disch := omega) [go_sem] <;> omega)) (V7 a0 (by first | exact hV.of rfl | exact hV.of ((Ext.refl hw)).sn | exact hV.of (Ext.sn (H := H) (by exact A9 (Ext.refl hw))) | exact (VOK.of hV rfl).tok | exact (VOK.of hV ((Ext.refl hw)).sn).tok | exact (VOK.of hV (Ext.sn (H := H) (by exact A9 (Ext.refl hw)))).tok) hx4 ?_)
 try simp -implicitDefEqProofs (disch := omega) [go_sem]
 subst hc3; refine vcK ?_; simp -implicitDefEqProofs only [go_sem]; have er := Option.some.inj h; subst er
 try simp -implicitDefEqProofs (disch := omega) [go_sem]
 refine A4 (by exact A9 (Ext.refl hw)) (by first | with_reducible rfl | (simp -implicitDefEqProofs (disch := omega) [go_sem] <;> omega)) nbA (hK _ rfl)
noncomputable def F9  : Option (Except Unit (Bool)) :=
 (F18 ((⟨[80, 85, 84], [47, 97], [], ([120] : List UInt8)⟩ : S42))).bind fun (x4 : (List UInt8) × Int) => (F11 ([72, 84, 84, 80, 47, 49, 46, 49, 32, 50, 48, 52, 32, 78, 111, 13, 10, 13, 10] : List UInt8)).bind fun (x7 : Except Unit (S25 × Int)) => orP x7 (fun (ex7 : Unit) => some (.error ex7)) (fun (y8 : S25 × Int) => if x4.2 = 0 then (if x4.1 = ([80, 85, 84, 32, 47, 97, 32, 72, 84, 84, 80, 47, 49, 46, 49, 13, 10, 99, 111, 110, 116, 101, 110, 116, 45, 108, 101, 110, 103, 116, 104, 58, 32, 49, 13, 10, 13, 10, 120]) then (if y8.2 = 0 then (some ((.ok (decide (y8.1.CP = 204))))) else (some (.ok false))) else (some (.ok false))) else (some (.ok false)))
set_option maxHeartbeats 8000000 in
set_option pp.deepTerms false in
set_option maxRecDepth 60000 in
theorem QE {H : A3} {K : AB → A3 → Prop}  (hV : VOK prog H) {r : Except Unit (Bool)} (h : F9  = some r) (hP : ∀ e, r = .error e → K (.pan (CX e)) H) (hK : ∀ v : Bool, r = .ok v → K (.ret (.v (.bool v))) H) : A6 prog 9 [] H K := by
 refine Ae (N := 34) func9 (by kernel_rfl) rfl (by kernel_rfl) (by kernel_rfl) fun cb hcb hw hbd hnb => ?_; clear hbd hnb; subst hcb; unfold F9 at h; refine A2 fun cb hc1 => ?_; refine vcK ?_
 try simp -implicitDefEqProofs (disch := omega) [go_sem, bdP]
 subst hc1; refine A2 fun cb hc2 => ?_; refine EB [true, true] (by kernel_rfl) ?_
 try simp -implicitDefEqProofs (disch := omega) [go_sem, bdP]
 refine Gq (sz := 1) (rs := (([120] : List UInt8).map fun x => [.v (.int .u8 x.toNat)]).flatten) (es := ([120] : List UInt8).map fun x => [.v (.int .u8 x.toNat)]) rfl (by kernel_rfl) (by simp -implicitDefEqProofs (disch := omega) [go_sem, bdP]) (by first | rfl | simp [chunks]) (by simp) (by decide) fun ty3 => ?_
 try simp -implicitDefEqProofs (disch := omega) [go_sem, bdP]
 refine IZ (ty := ty3) (k := H.next) (n := 1) (es := ([120] : List UInt8).map fun x => [.v (.int .u8 x.toNat)]) rfl (by kernel_rfl) underlying23 underlying5 (by simp [go_sem]) (by simp [go_sem]) (by simp) (by omega) ?_
 try simp -implicitDefEqProofs (disch := omega) [go_sem, bdP]
 obtain ⟨x4, hx4, h⟩ := A5 h; refine A6.eqA (args' := [.ag ([.v (str ([80, 85, 84])), .v (str ([47, 97])), .v (.slice none 0 0), .sl 1 (([120] : List UInt8).map fun x => [.v (.int .u8 x.toNat)])])]) (by first | with_reducible rfl | (simp -implicitDefEqProofs (disch := omega) [go_sem, bdP] <;> omega)) (A6.wkL (args' := [.ag ([.v (str (((⟨[80, 85, 84], [47, 97], [], ([120] : List UInt8)⟩ : S42)).AI)), .v (str (((⟨[80, 85, 84], [47, 97], [], ([120] : List UInt8)⟩ : S42)).Bw)), .sl 2 ((((⟨[80, 85, 84], [47, 97], [], ([120] : List UInt8)⟩ : S42)).Ax).map fun x => [.v (str x.fName), .v (str x.A8)]), .sl 1 ((((⟨[80, 85, 84], [47, 97], [], ([120] : List UInt8)⟩ : S42)).AT).map fun x => [.v (.int .u8 x.toNat)])])]) (by repeat (first | exact WkL.nil | refine WkL.cons ?_ ?_ | exact Wk.refl _ | exact Wk.nil _ | refine Wk.agL ?_)) (U_ ((⟨[80, 85, 84], [47, 97], [], ([120] : List UInt8)⟩ : S42)) (by first | exact hV.of rfl | exact hV.of ((Ext.refl hw)).sn | exact hV.of (Ext.sn (H := H) (by exact A9 (Ext.refl hw))) | exact (VOK.of hV rfl).tok | exact (VOK.of hV ((Ext.refl hw)).sn).tok | exact (VOK.of hV (Ext.sn (H := H) (by exact A9 (Ext.refl hw)))).tok) hx4 ?_))
 try simp -implicitDefEqProofs (disch := omega) [go_sem, bdP]
 subst hc2; refine A2 fun cb hc5 => ?_; refine EB [true, true] (by kernel_rfl) ?_
 try simp -implicitDefEqProofs (disch := omega) [go_sem, bdP]
 refine Gq (sz := 1) (rs := (([72, 84, 84, 80, 47, 49, 46, 49, 32, 50, 48, 52, 32, 78, 111, 13, 10, 13, 10] : List UInt8).map fun x => [.v (.int .u8 x.toNat)]).flatten) (es := ([72, 84, 84, 80, 47, 49, 46, 49, 32, 50, 48, 52, 32, 78, 111, 13, 10, 13, 10] : List UInt8).map fun x => [.v (.int .u8 x.toNat)]) rfl (by kernel_rfl) (by simp -implicitDefEqProofs (disch := omega) [go_sem, bdP]) (by first | rfl | simp [chunks]) (by simp) (by decide) fun ty6 => ?_
 try simp -implicitDefEqProofs (disch := omega) [go_sem, bdP]
 refine IZ (ty := ty6) (k := H.next + 1) (n := 19) (es := ([72, 84, 84, 80, 47, 49, 46, 49, 32, 50, 48, 52, 32, 78, 111, 13, 10, 13, 10] : List UInt8).map fun x => [.v (.int .u8 x.toNat)]) rfl (by kernel_rfl) underlying23 underlying5 (by simp [go_sem]) (by simp [go_sem]) (by simp) (by omega) ?_
 try simp -implicitDefEqProofs (disch := omega) [go_sem, bdP]
 obtain ⟨x7, hx7, h⟩ := A5 h; refine A6.eqA (args' := [.sl 1 (([72, 84, 84, 80, 47, 49, 46, 49, 32, 50, 48, 52, 32, 78, 111, 13, 10, 13, 10] : List UInt8).map fun x => [.v (.int .u8 x.toNat)])]) (by first | with_reducible rfl | (simp -implicitDefEqProofs (disch := omega) [go_sem, bdP] <;> omega)) (QD ([72, 84, 84, 80, 47, 49, 46, 49, 32, 50, 48, 52, 32, 78, 111, 13, 10, 13, 10] : List UInt8) (by first | exact hV.of rfl | exact hV.of ((Ext.refl hw)).sn | exact hV.of (Ext.sn (H := H) (by exact A9 (Ext.refl hw))) | exact (VOK.of hV rfl).tok | exact (VOK.of hV ((Ext.refl hw)).sn).tok | exact (VOK.of hV (Ext.sn (H := H) (by exact A9 (Ext.refl hw)))).tok) hx7 ?_ ?_)
 ·intro ex7 qx7; subst qx7; replace h := Bj h; have er := Option.some.inj h; subst er
  try simp -implicitDefEqProofs (disch := omega) [go_sem, bdP]
  exact C4 (by exact BW (Ext.refl hw)) (Dl.refl _) (hP _ rfl)
 intro y8 qx7; subst qx7; replace h := Bt h
 try simp -implicitDefEqProofs (disch := omega) [go_sem, bdP]
 subst hc5; refine A2 fun cb hc9 => ?_; refine vcK ?_
 try simp -implicitDefEqProofs (disch := omega) [go_sem, bdP]
 refine A7 h (by first | with_reducible rfl | (simp -implicitDefEqProofs (disch := omega) [go_sem, bdP] <;> omega)) ?_ ?_
 ·intro c12 h
  try simp (disch := omega) at c12
  try simp -implicitDefEqProofs (disch := omega) [go_sem, bdP]
  refine A7 h (by first | with_reducible rfl | (simp -implicitDefEqProofs (disch := omega) [go_sem, bdP] <;> omega)) ?_ ?_
  ·intro c11 h
   try simp (disch := omega) at c11
   try simp -implicitDefEqProofs (disch := omega) [go_sem, bdP]
   refine A7 h (by first | with_reducible rfl | (simp -implicitDefEqProofs (disch := omega) [go_sem, bdP] <;> omega)) ?_ ?_
   ·intro c10 h
    try simp (disch := omega) at c10
    try simp -implicitDefEqProofs (disch := omega) [go_sem, bdP]
    subst hc9; refine vcK ?_; simp -implicitDefEqProofs only [go_sem]; have er := Option.some.inj h; subst er
    try simp -implicitDefEqProofs (disch := omega) [go_sem, bdP]
    refine A4 (by exact A9 (Ext.refl hw)) (by first | with_reducible rfl | (simp -implicitDefEqProofs (disch := omega) [go_sem, bdP] <;> omega)) nbA (hK _ rfl)
   ·intro c10 h
    try simp (disch := omega) at c10
    try simp -implicitDefEqProofs (disch := omega) [go_sem, bdP]
    subst hc9; refine vcK ?_; simp -implicitDefEqProofs only [go_sem]; have er := Option.some.inj h; subst er
    try simp -implicitDefEqProofs (disch := omega) [go_sem, bdP]
    refine A4 (by exact A9 (Ext.refl hw)) (by first | with_reducible rfl | (simp -implicitDefEqProofs (disch := omega) [go_sem, bdP] <;> omega)) nbA (hK _ rfl)
  ·intro c11 h
   try simp (disch := omega) at c11
   try simp -implicitDefEqProofs (disch := omega) [go_sem, bdP]
   subst hc9; refine vcK ?_; simp -implicitDefEqProofs only [go_sem]; have er := Option.some.inj h; subst er
   try simp -implicitDefEqProofs (disch := omega) [go_sem, bdP]
   refine A4 (by exact A9 (Ext.refl hw)) (by first | with_reducible rfl | (simp -implicitDefEqProofs (disch := omega) [go_sem, bdP] <;> omega)) nbA (hK _ rfl)
 ·intro c12 h
  try simp (disch := omega) at c12
  try simp -implicitDefEqProofs (disch := omega) [go_sem, bdP]
  subst hc9; refine vcK ?_; simp -implicitDefEqProofs only [go_sem]; have er := Option.some.inj h; subst er
  try simp -implicitDefEqProofs (disch := omega) [go_sem, bdP]
  refine A4 (by exact A9 (Ext.refl hw)) (by first | with_reducible rfl | (simp -implicitDefEqProofs (disch := omega) [go_sem, bdP] <;> omega)) nbA (hK _ rfl)
noncomputable def LC  : Option Bool :=
 some true
noncomputable def K8 (a0 : List UInt8) (a1 : Int) (a2 : Int) (v5 : Int) : Option (Int ⊕ (Unit ⊕ Bool)) :=
 if v5 < (a0.length : Int) then (gd (0 ≤ v5 ∧ v5 < a0.length) (if (((a0.getD v5.toNat 0).toNat : Int)) < a1 then (some (.inr (.inr false))) else (if a2 < (((a0.getD v5.toNat 0).toNat : Int)) then (some (.inr (.inr false))) else (some (.inl (IntKind.i64.wrap (v5 + 1))))))) else (some (.inr (.inl ())))
noncomputable def F55 (a0 : List UInt8) (a1 : Int) (a2 : Int) : Option Bool :=
 (AH (fun (s : Int) => K8 a0 a1 a2 s) 0).bind fun y => Sum.elim (fun (e : Unit) => LC) (fun (q : Bool) => some q) y
set_option maxHeartbeats 8000000 in
set_option pp.deepTerms false in
set_option maxRecDepth 60000 in
theorem K9 {H : A3} {K : AB → A3 → Prop} (a0 : List UInt8) (a1 : Int) (a2 : Int) {r : Bool} (h : F55 a0 a1 a2 = some r) (hK : K (.ret (.v (.bool r))) H) : A6 prog 55 [.v (str a0), .v (.int .u8 a1), .v (.int .u8 a2)] H K := by
 refine Ae (N := 26) func55 (by kernel_rfl) rfl (by kernel_rfl) (by kernel_rfl) fun cb hcb hw hbd hnb => ?_; clear hbd hnb; subst hcb; unfold F55 at h; refine A2 fun cb hc1 => ?_; refine vcK ?_
 try simp -implicitDefEqProofs (disch := omega) [go_sem]
 subst hc1; refine A2 fun cb hc2 => ?_; refine A2 fun cb hc3 => ?_; refine vcK ?_
 try simp -implicitDefEqProofs (disch := omega) [go_sem]
 subst hc3; obtain ⟨y4, hl4q, hk4⟩ := A5 h; refine Bk (fun tm' H' => .inl () = y4 ∧ H = H') ?_ fun cb hc4 => ?_
 ·rintro tm4e H4e ⟨rfl, rfl⟩
  have h : LC = some r := hk4; unfold LC at h; simp -implicitDefEqProofs only [go_sem]; subst hc2; refine A2 fun cb hc6 => ?_; refine vcK ?_
  try simp -implicitDefEqProofs (disch := omega) [go_sem]
  subst hc6; refine vcK ?_; simp -implicitDefEqProofs only [go_sem]; have er := Option.some.inj h; subst er
  try simp -implicitDefEqProofs (disch := omega) [go_sem]
  refine A4 (by exact A9 (Ext.refl hw)) (by first | with_reducible rfl | (simp -implicitDefEqProofs (disch := omega) [go_sem] <;> omega)) nbA hK
 ·refine Ai ?_; refine AF (fun (s : Int) tm' H' => H = H' ∧ tm' 0 = .v (str a0) ∧ tm' 1 = .v (.int .u8 a1) ∧ tm' 2 = .v (.int .u8 a2) ∧ tm' 7 = .v (.int .i64 s)) hl4q ?_ ?_
  ·refine .same ⟨rfl, ?_, ?_, ?_, ?_⟩ <;> first | with_reducible rfl | with_reducible assumption | (simp -implicitDefEqProofs (disch := omega) [go_sem] <;> omega)
  ·rintro I4 hI4 v5 x4 tm4 H4 ⟨rfl, An, AE, Cn, AR⟩ h hret4
   replace h : K8 a0 a1 a2 v5 = some x4 := h; unfold K8 at h; refine A2 fun cb hc7 => ?_; refine A2 fun cb hc8 => ?_; refine vcK ?_
   try simp -implicitDefEqProofs (disch := omega) [go_sem, An, AE, Cn, AR]
   subst hc8; refine Ac h (by first | with_reducible rfl | (simp -implicitDefEqProofs (disch := omega) [go_sem, An, AE, Cn, AR] <;> omega)) rfl ?_ ?_
   ·intro c9 h
    try simp (disch := omega) at c9
    refine vcK ?_; simp -implicitDefEqProofs only [go_sem]; subst hc7; refine A2 fun cb hc10 => ?_; refine Ai ?_; refine A2 fun cb hc11 => ?_; refine vcK ?_; obtain ⟨g12, h⟩ := Ab.1 h
    try simp (disch := omega) at g12
    try simp -implicitDefEqProofs (disch := omega) [go_sem, An, AE, Cn, AR]
    refine A7 h (by first | with_reducible rfl | (simp -implicitDefEqProofs (disch := omega) [go_sem, An, AE, Cn, AR] <;> omega)) ?_ ?_
    ·intro c16 h
     try simp (disch := omega) at c16
     try simp -implicitDefEqProofs (disch := omega) [go_sem, An, AE, Cn, AR]
     subst hc11; refine As (by first | with_reducible rfl | (simp -implicitDefEqProofs (disch := omega) [go_sem, An, AE, Cn, AR] <;> omega)) rfl ?_; refine A2 fun cb hc13 => ?_; refine vcK ?_
     try simp -implicitDefEqProofs (disch := omega) [go_sem, An, AE, Cn, AR]
     subst hc13; refine vcK ?_; simp -implicitDefEqProofs only [go_sem]; have e4 := Option.some.inj h; subst e4; have e4 := hret4 _ rfl; subst e4; replace h : some false = some r := hk4; have er := Option.some.inj h; subst er
     try simp -implicitDefEqProofs (disch := omega) [go_sem, An, AE, Cn, AR]
     refine A4 (by exact A9 (Ext.refl hw)) (by first | with_reducible rfl | (simp -implicitDefEqProofs (disch := omega) [go_sem, An, AE, Cn, AR] <;> omega)) nbA hK
    ·intro c16 h
     try simp (disch := omega) at c16
     try simp -implicitDefEqProofs (disch := omega) [go_sem, An, AE, Cn, AR]
     subst hc11; refine Ac h (by first | with_reducible rfl | (simp -implicitDefEqProofs (disch := omega) [go_sem, An, AE, Cn, AR] <;> omega)) rfl ?_ ?_
     ·intro c14 h
      try simp (disch := omega) at c14
      refine A2 fun cb hc15 => ?_; refine vcK ?_
      try simp -implicitDefEqProofs (disch := omega) [go_sem, An, AE, Cn, AR]
      subst hc15; refine vcK ?_; simp -implicitDefEqProofs only [go_sem]; have e4 := Option.some.inj h; subst e4; have e4 := hret4 _ rfl; subst e4; replace h : some false = some r := hk4; have er := Option.some.inj h; subst er
      try simp -implicitDefEqProofs (disch := omega) [go_sem, An, AE, Cn, AR]
      refine A4 (by exact A9 (Ext.refl hw)) (by first | with_reducible rfl | (simp -implicitDefEqProofs (disch := omega) [go_sem, An, AE, Cn, AR] <;> omega)) nbA hK
     ·intro c14 h
      try simp (disch := omega) at c14
      refine vcK ?_; simp -implicitDefEqProofs only [go_sem]; subst hc10; refine vcK ?_
      try simp -implicitDefEqProofs (disch := omega) [go_sem, An, AE, Cn, AR]
      have e4 := Option.some.inj h; subst e4; refine Au hI4 (IntKind.i64.wrap (v5 + 1)) ?_; refine .same ⟨rfl, ?_, ?_, ?_, ?_⟩ <;> first | with_reducible rfl | with_reducible assumption | (simp -implicitDefEqProofs (disch := omega) [go_sem, An, AE, Cn, AR] <;> omega)
   ·intro c9 h
    try simp (disch := omega) at c9
    refine vcK ?_; simp -implicitDefEqProofs only [go_sem]; have e4 := Option.some.inj h; subst e4; have hy4 := hret4 _ rfl; refine hc4 _ _ ?_; refine .same ⟨hy4, rfl⟩
noncomputable def F47 (a0 : List UInt8) : Option Bool :=
 if 1 ≤ (a0.length : Int) then (if (a0.length : Int) ≤ 20 then ((F55 a0 65 90).bind fun (x3 : Bool) => some x3) else (some false)) else (some false)
set_option maxHeartbeats 8000000 in
set_option pp.deepTerms false in
set_option maxRecDepth 60000 in
theorem V8 {H : A3} {K : AB → A3 → Prop} (a0 : List UInt8) {r : Bool} (h : F47 a0 = some r) (hK : K (.ret (.v (.bool r))) H) : A6 prog 47 [.v (str a0)] H K := by
 refine Ae (N := 15) func47 (by kernel_rfl) rfl (by kernel_rfl) (by kernel_rfl) fun cb hcb hw hbd hnb => ?_; clear hbd hnb; subst hcb; unfold F47 at h; refine A2 fun cb hc1 => ?_; refine vcK ?_
 try simp -implicitDefEqProofs (disch := omega) [go_sem]
 subst hc1; refine A2 fun cb hc2 => ?_; refine vcK ?_
 try simp -implicitDefEqProofs (disch := omega) [go_sem]
 refine A7 h (by first | with_reducible rfl | (simp -implicitDefEqProofs (disch := omega) [go_sem] <;> omega)) ?_ ?_
 ·intro c5 h
  try simp (disch := omega) at c5
  try simp -implicitDefEqProofs (disch := omega) [go_sem]
  refine A7 h (by first | with_reducible rfl | (simp -implicitDefEqProofs (disch := omega) [go_sem] <;> omega)) ?_ ?_
  ·intro c4 h
   try simp (disch := omega) at c4
   try simp -implicitDefEqProofs (disch := omega) [go_sem]
   obtain ⟨x3, hx3, h⟩ := A5 h; refine A6.eqA (args' := [.v (str a0), .v (.int .u8 65), .v (.int .u8 90)]) (by first | with_reducible rfl | (simp -implicitDefEqProofs (disch := omega) [go_sem] <;> omega)) (K9 a0 65 90 hx3 ?_)
   try simp -implicitDefEqProofs (disch := omega) [go_sem]
   subst hc2; refine vcK ?_; simp -implicitDefEqProofs only [go_sem]; have er := Option.some.inj h; subst er
   try simp -implicitDefEqProofs (disch := omega) [go_sem]
   refine A4 (by exact A9 (Ext.refl hw)) (by first | with_reducible rfl | (simp -implicitDefEqProofs (disch := omega) [go_sem] <;> omega)) nbA hK
  ·intro c4 h
   try simp (disch := omega) at c4
   try simp -implicitDefEqProofs (disch := omega) [go_sem]
   subst hc2; refine vcK ?_; simp -implicitDefEqProofs only [go_sem]; have er := Option.some.inj h; subst er
   try simp -implicitDefEqProofs (disch := omega) [go_sem]
   refine A4 (by exact A9 (Ext.refl hw)) (by first | with_reducible rfl | (simp -implicitDefEqProofs (disch := omega) [go_sem] <;> omega)) nbA hK
 ·intro c5 h
  try simp (disch := omega) at c5
  try simp -implicitDefEqProofs (disch := omega) [go_sem]
  subst hc2; refine vcK ?_; simp -implicitDefEqProofs only [go_sem]; have er := Option.some.inj h; subst er
  try simp -implicitDefEqProofs (disch := omega) [go_sem]
  refine A4 (by exact A9 (Ext.refl hw)) (by first | with_reducible rfl | (simp -implicitDefEqProofs (disch := omega) [go_sem] <;> omega)) nbA hK
noncomputable def F48 (a0 : List UInt8) : Option Bool :=
 if 1 ≤ (a0.length : Int) then (if (a0.length : Int) ≤ 200 then (gd (0 < a0.length) (if (((a0.getD 0 0).toNat : Int)) = 47 then ((F55 a0 33 126).bind fun (x4 : Bool) => some x4) else (some false))) else (some false)) else (some false)
set_option maxHeartbeats 8000000 in
set_option pp.deepTerms false in
set_option maxRecDepth 60000 in
theorem V9 {H : A3} {K : AB → A3 → Prop} (a0 : List UInt8) {r : Bool} (h : F48 a0 = some r) (hK : K (.ret (.v (.bool r))) H) : A6 prog 48 [.v (str a0)] H K := by
 refine Ae (N := 20) func48 (by kernel_rfl) rfl (by kernel_rfl) (by kernel_rfl) fun cb hcb hw hbd hnb => ?_; clear hbd hnb; subst hcb; unfold F48 at h; refine A2 fun cb hc1 => ?_; refine vcK ?_
 try simp -implicitDefEqProofs (disch := omega) [go_sem]
 subst hc1; refine A2 fun cb hc2 => ?_; refine vcK ?_
 try simp -implicitDefEqProofs (disch := omega) [go_sem]
 refine A7 h (by first | with_reducible rfl | (simp -implicitDefEqProofs (disch := omega) [go_sem] <;> omega)) ?_ ?_
 ·intro c7 h
  try simp (disch := omega) at c7
  try simp -implicitDefEqProofs (disch := omega) [go_sem]
  refine A7 h (by first | with_reducible rfl | (simp -implicitDefEqProofs (disch := omega) [go_sem] <;> omega)) ?_ ?_
  ·intro c6 h
   try simp (disch := omega) at c6
   obtain ⟨g3, h⟩ := Ab.1 h
   try simp (disch := omega) at g3
   try simp -implicitDefEqProofs (disch := omega) [go_sem]
   refine A7 h (by first | with_reducible rfl | (simp -implicitDefEqProofs (disch := omega) [go_sem] <;> omega)) ?_ ?_
   ·intro c5 h
    try simp (disch := omega) at c5
    try simp -implicitDefEqProofs (disch := omega) [go_sem]
    obtain ⟨x4, hx4, h⟩ := A5 h; refine A6.eqA (args' := [.v (str a0), .v (.int .u8 33), .v (.int .u8 126)]) (by first | with_reducible rfl | (simp -implicitDefEqProofs (disch := omega) [go_sem] <;> omega)) (K9 a0 33 126 hx4 ?_)
    try simp -implicitDefEqProofs (disch := omega) [go_sem]
    subst hc2; refine vcK ?_; simp -implicitDefEqProofs only [go_sem]; have er := Option.some.inj h; subst er
    try simp -implicitDefEqProofs (disch := omega) [go_sem]
    refine A4 (by exact A9 (Ext.refl hw)) (by first | with_reducible rfl | (simp -implicitDefEqProofs (disch := omega) [go_sem] <;> omega)) nbA hK
   ·intro c5 h
    try simp (disch := omega) at c5
    try simp -implicitDefEqProofs (disch := omega) [go_sem]
    subst hc2; refine vcK ?_; simp -implicitDefEqProofs only [go_sem]; have er := Option.some.inj h; subst er
    try simp -implicitDefEqProofs (disch := omega) [go_sem]
    refine A4 (by exact A9 (Ext.refl hw)) (by first | with_reducible rfl | (simp -implicitDefEqProofs (disch := omega) [go_sem] <;> omega)) nbA hK
  ·intro c6 h
   try simp (disch := omega) at c6
   try simp -implicitDefEqProofs (disch := omega) [go_sem]
   subst hc2; refine vcK ?_; simp -implicitDefEqProofs only [go_sem]; have er := Option.some.inj h; subst er
   try simp -implicitDefEqProofs (disch := omega) [go_sem]
   refine A4 (by exact A9 (Ext.refl hw)) (by first | with_reducible rfl | (simp -implicitDefEqProofs (disch := omega) [go_sem] <;> omega)) nbA hK
 ·intro c7 h
  try simp (disch := omega) at c7
  try simp -implicitDefEqProofs (disch := omega) [go_sem]
  subst hc2; refine vcK ?_; simp -implicitDefEqProofs only [go_sem]; have er := Option.some.inj h; subst er
  try simp -implicitDefEqProofs (disch := omega) [go_sem]
  refine A4 (by exact A9 (Ext.refl hw)) (by first | with_reducible rfl | (simp -implicitDefEqProofs (disch := omega) [go_sem] <;> omega)) nbA hK
noncomputable def F99 (a0 : Int) : Option Bool :=
 if 65 ≤ a0 then (if a0 ≤ 90 then (some true) else (if 97 ≤ a0 then (some (decide (a0 ≤ 122))) else (some false))) else (if 97 ≤ a0 then (some (decide (a0 ≤ 122))) else (some false))
set_option maxHeartbeats 8000000 in
set_option pp.deepTerms false in
set_option maxRecDepth 60000 in
theorem QF {H : A3} {K : AB → A3 → Prop} (a0 : Int) {r : Bool} (h : F99 a0 = some r) (hK : K (.ret (.v (.bool r))) H) : A6 prog 99 [.v (.int .u8 a0)] H K := by
 refine Ae (N := 17) func99 (by kernel_rfl) rfl (by kernel_rfl) (by kernel_rfl) fun cb hcb hw hbd hnb => ?_; clear hbd hnb; subst hcb; unfold F99 at h; refine A2 fun cb hc1 => ?_; refine vcK ?_
 try simp -implicitDefEqProofs (disch := omega) [go_sem]
 subst hc1; refine A2 fun cb hc2 => ?_; refine vcK ?_
 try simp -implicitDefEqProofs (disch := omega) [go_sem]
 refine A7 h (by first | with_reducible rfl | (simp -implicitDefEqProofs (disch := omega) [go_sem] <;> omega)) ?_ ?_
 ·intro c6 h
  try simp (disch := omega) at c6
  try simp -implicitDefEqProofs (disch := omega) [go_sem]
  refine A7 h (by first | with_reducible rfl | (simp -implicitDefEqProofs (disch := omega) [go_sem] <;> omega)) ?_ ?_
  ·intro c4 h
   try simp (disch := omega) at c4
   try simp -implicitDefEqProofs (disch := omega) [go_sem]
   subst hc2; refine vcK ?_; simp -implicitDefEqProofs only [go_sem]; have er := Option.some.inj h; subst er
   try simp -implicitDefEqProofs (disch := omega) [go_sem]
   refine A4 (by exact A9 (Ext.refl hw)) (by first | with_reducible rfl | (simp -implicitDefEqProofs (disch := omega) [go_sem] <;> omega)) nbA hK
  ·intro c4 h
   try simp (disch := omega) at c4
   try simp -implicitDefEqProofs (disch := omega) [go_sem]
   refine A7 h (by first | with_reducible rfl | (simp -implicitDefEqProofs (disch := omega) [go_sem] <;> omega)) ?_ ?_
   ·intro c3 h
    try simp (disch := omega) at c3
    try simp -implicitDefEqProofs (disch := omega) [go_sem]
    subst hc2; refine vcK ?_; simp -implicitDefEqProofs only [go_sem]; have er := Option.some.inj h; subst er
    try simp -implicitDefEqProofs (disch := omega) [go_sem]
    refine A4 (by exact A9 (Ext.refl hw)) (by first | with_reducible rfl | (simp -implicitDefEqProofs (disch := omega) [go_sem] <;> omega)) nbA hK
   ·intro c3 h
    try simp (disch := omega) at c3
    try simp -implicitDefEqProofs (disch := omega) [go_sem]
    subst hc2; refine vcK ?_; simp -implicitDefEqProofs only [go_sem]; have er := Option.some.inj h; subst er
    try simp -implicitDefEqProofs (disch := omega) [go_sem]
    refine A4 (by exact A9 (Ext.refl hw)) (by first | with_reducible rfl | (simp -implicitDefEqProofs (disch := omega) [go_sem] <;> omega)) nbA hK
 ·intro c6 h
  try simp (disch := omega) at c6
  try simp -implicitDefEqProofs (disch := omega) [go_sem]
  refine A7 h (by first | with_reducible rfl | (simp -implicitDefEqProofs (disch := omega) [go_sem] <;> omega)) ?_ ?_
  ·intro c5 h
   try simp (disch := omega) at c5
   try simp -implicitDefEqProofs (disch := omega) [go_sem]
   subst hc2; refine vcK ?_; simp -implicitDefEqProofs only [go_sem]; have er := Option.some.inj h; subst er
   try simp -implicitDefEqProofs (disch := omega) [go_sem]
   refine A4 (by exact A9 (Ext.refl hw)) (by first | with_reducible rfl | (simp -implicitDefEqProofs (disch := omega) [go_sem] <;> omega)) nbA hK
  ·intro c5 h
   try simp (disch := omega) at c5
   try simp -implicitDefEqProofs (disch := omega) [go_sem]
   subst hc2; refine vcK ?_; simp -implicitDefEqProofs only [go_sem]; have er := Option.some.inj h; subst er
   try simp -implicitDefEqProofs (disch := omega) [go_sem]
   refine A4 (by exact A9 (Ext.refl hw)) (by first | with_reducible rfl | (simp -implicitDefEqProofs (disch := omega) [go_sem] <;> omega)) nbA hK
end Go.Idl
namespace Go.Idl
open Go Go.Proofs.Tryz
noncomputable def Jk  : Option Bool :=
 some true
noncomputable def HQ (a0 : List UInt8) (v13 : Int) : Option (Int ⊕ (Unit ⊕ Bool)) :=
 if v13 < (a0.length : Int) then (gd (0 ≤ v13 ∧ v13 < a0.length) ((F99 (((a0.getD v13.toNat 0).toNat : Int))).bind fun (x21 : Bool) => if ¬ (x21 = true) then (if (((a0.getD v13.toNat 0).toNat : Int)) < 48 then (if ¬ (((a0.getD v13.toNat 0).toNat : Int)) = 45 then (some (.inr (.inr false))) else (some (.inl (IntKind.i64.wrap (v13 + 1))))) else (if 57 < (((a0.getD v13.toNat 0).toNat : Int)) then (if ¬ (((a0.getD v13.toNat 0).toNat : Int)) = 45 then (some (.inr (.inr false))) else (some (.inl (IntKind.i64.wrap (v13 + 1))))) else (some (.inl (IntKind.i64.wrap (v13 + 1)))))) else (some (.inl (IntKind.i64.wrap (v13 + 1)))))) else (some (.inr (.inl ())))
noncomputable def F70 (a0 : List UInt8) : Option Bool :=
 if (a0.length : Int) < 1 then (some false) else (if 64 < (a0.length : Int) then (some false) else (gd (0 < a0.length) ((F99 (((a0.getD 0 0).toNat : Int))).bind fun (x7 : Bool) => if ¬ (x7 = true) then (some false) else ((AH (fun (s : Int) => HQ a0 s) 0).bind fun y => Sum.elim (fun (e : Unit) => Jk) (fun (q : Bool) => some q) y))))
set_option maxHeartbeats 8000000 in
set_option pp.deepTerms false in
set_option maxRecDepth 60000 in
theorem QG {H : A3} {K : AB → A3 → Prop} (a0 : List UInt8) {r : Bool} (h : F70 a0 = some r) (hK : K (.ret (.v (.bool r))) H) : A6 prog 70 [.v (str a0)] H K := by
 refine Ae (N := 47) func70 (by kernel_rfl) rfl (by kernel_rfl) (by kernel_rfl) fun cb hcb hw hbd hnb => ?_; clear hbd hnb; subst hcb; unfold F70 at h; refine A2 fun cb hc1 => ?_; refine vcK ?_
 try simp -implicitDefEqProofs (disch := omega) [go_sem]
 subst hc1; refine A2 fun cb hc2 => ?_; refine A2 fun cb hc3 => ?_; refine vcK ?_
 try simp -implicitDefEqProofs (disch := omega) [go_sem]
 refine A7 h (by first | with_reducible rfl | (simp -implicitDefEqProofs (disch := omega) [go_sem] <;> omega)) ?_ ?_
 ·intro c30 h
  try simp (disch := omega) at c30
  try simp -implicitDefEqProofs (disch := omega) [go_sem]
  subst hc3; refine As (by first | with_reducible rfl | (simp -implicitDefEqProofs (disch := omega) [go_sem] <;> omega)) rfl ?_; refine A2 fun cb hc4 => ?_; refine vcK ?_
  try simp -implicitDefEqProofs (disch := omega) [go_sem]
  subst hc4; refine vcK ?_; simp -implicitDefEqProofs only [go_sem]; have er := Option.some.inj h; subst er
  try simp -implicitDefEqProofs (disch := omega) [go_sem]
  refine A4 (by exact A9 (Ext.refl hw)) (by first | with_reducible rfl | (simp -implicitDefEqProofs (disch := omega) [go_sem] <;> omega)) nbA hK
 ·intro c30 h
  try simp (disch := omega) at c30
  try simp -implicitDefEqProofs (disch := omega) [go_sem]
  refine A7 h (by first | with_reducible rfl | (simp -implicitDefEqProofs (disch := omega) [go_sem] <;> omega)) ?_ ?_
  ·intro c29 h
   try simp (disch := omega) at c29
   try simp -implicitDefEqProofs (disch := omega) [go_sem]
   subst hc3; refine As (by first | with_reducible rfl | (simp -implicitDefEqProofs (disch := omega) [go_sem] <;> omega)) rfl ?_; refine A2 fun cb hc5 => ?_; refine vcK ?_
   try simp -implicitDefEqProofs (disch := omega) [go_sem]
   subst hc5; refine vcK ?_; simp -implicitDefEqProofs only [go_sem]; have er := Option.some.inj h; subst er
   try simp -implicitDefEqProofs (disch := omega) [go_sem]
   refine A4 (by exact A9 (Ext.refl hw)) (by first | with_reducible rfl | (simp -implicitDefEqProofs (disch := omega) [go_sem] <;> omega)) nbA hK
  ·intro c29 h
   try simp (disch := omega) at c29
   obtain ⟨g6, h⟩ := Ab.1 h
   try simp (disch := omega) at g6
   try simp -implicitDefEqProofs (disch := omega) [go_sem]
   obtain ⟨x7, hx7, h⟩ := A5 h; refine A6.eqA (args' := [.v (.int .u8 (((a0.getD 0 0).toNat : Int)))]) (by first | with_reducible rfl | (simp -implicitDefEqProofs (disch := omega) [go_sem] <;> omega)) (QF (((a0.getD 0 0).toNat : Int)) hx7 ?_)
   try simp -implicitDefEqProofs (disch := omega) [go_sem]
   subst hc3; refine Ac h (by first | with_reducible rfl | (simp -implicitDefEqProofs (disch := omega) [go_sem] <;> omega)) rfl ?_ ?_
   ·intro c8 h
    try simp (disch := omega) at c8
    refine A2 fun cb hc9 => ?_; refine vcK ?_
    try simp -implicitDefEqProofs (disch := omega) [go_sem]
    subst hc9; refine vcK ?_; simp -implicitDefEqProofs only [go_sem]; have er := Option.some.inj h; subst er
    try simp -implicitDefEqProofs (disch := omega) [go_sem]
    refine A4 (by exact A9 (Ext.refl hw)) (by first | with_reducible rfl | (simp -implicitDefEqProofs (disch := omega) [go_sem] <;> omega)) nbA hK
   ·intro c8 h
    try simp (disch := omega) at c8
    refine vcK ?_; simp -implicitDefEqProofs only [go_sem]; subst hc2; refine A2 fun cb hc10 => ?_; refine A2 fun cb hc11 => ?_; refine vcK ?_
    try simp -implicitDefEqProofs (disch := omega) [go_sem]
    subst hc11; obtain ⟨y12, hl12q, hk12⟩ := A5 h; refine Bk (fun tm' H' => .inl () = y12 ∧ H = H') ?_ fun cb hc12 => ?_
    ·rintro tm12e H12e ⟨rfl, rfl⟩
     have h : Jk = some r := hk12; unfold Jk at h; simp -implicitDefEqProofs only [go_sem]; subst hc10; refine A2 fun cb hc14 => ?_; refine vcK ?_
     try simp -implicitDefEqProofs (disch := omega) [go_sem]
     subst hc14; refine vcK ?_; simp -implicitDefEqProofs only [go_sem]; have er := Option.some.inj h; subst er
     try simp -implicitDefEqProofs (disch := omega) [go_sem]
     refine A4 (by exact A9 (Ext.refl hw)) (by first | with_reducible rfl | (simp -implicitDefEqProofs (disch := omega) [go_sem] <;> omega)) nbA hK
    ·refine Ai ?_; refine AF (fun (s : Int) tm' H' => H = H' ∧ tm' 0 = .v (str a0) ∧ tm' 3 = .v (.int .i64 s)) hl12q ?_ ?_
     ·refine .same ⟨rfl, ?_, ?_⟩ <;> first | with_reducible rfl | with_reducible assumption | (simp -implicitDefEqProofs (disch := omega) [go_sem] <;> omega)
     ·rintro I12 hI12 v13 x12 tm12 H12 ⟨rfl, C7, C8⟩ h hret12
      replace h : HQ a0 v13 = some x12 := h; unfold HQ at h; refine A2 fun cb hc15 => ?_; refine A2 fun cb hc16 => ?_; refine vcK ?_
      try simp -implicitDefEqProofs (disch := omega) [go_sem, C7, C8]
      subst hc16; refine Ac h (by first | with_reducible rfl | (simp -implicitDefEqProofs (disch := omega) [go_sem, C7, C8] <;> omega)) rfl ?_ ?_
      ·intro c17 h
       try simp (disch := omega) at c17
       refine vcK ?_; simp -implicitDefEqProofs only [go_sem]; subst hc15; refine A2 fun cb hc18 => ?_; refine Ai ?_; refine A2 fun cb hc19 => ?_; refine vcK ?_; obtain ⟨g20, h⟩ := Ab.1 h
       try simp (disch := omega) at g20
       try simp -implicitDefEqProofs (disch := omega) [go_sem, C7, C8]
       obtain ⟨x21, hx21, h⟩ := A5 h; refine A6.eqA (args' := [.v (.int .u8 (((a0.getD v13.toNat 0).toNat : Int)))]) (by first | with_reducible rfl | (simp -implicitDefEqProofs (disch := omega) [go_sem, C7, C8] <;> omega)) (QF (((a0.getD v13.toNat 0).toNat : Int)) hx21 ?_)
       try simp -implicitDefEqProofs (disch := omega) [go_sem, C7, C8]
       refine A7 h (by first | with_reducible rfl | (simp -implicitDefEqProofs (disch := omega) [go_sem, C7, C8] <;> omega)) ?_ ?_
       ·intro c28 h
        try simp (disch := omega) at c28
        try simp -implicitDefEqProofs (disch := omega) [go_sem, C7, C8]
        refine A7 h (by first | with_reducible rfl | (simp -implicitDefEqProofs (disch := omega) [go_sem, C7, C8] <;> omega)) ?_ ?_
        ·intro c27 h
         try simp (disch := omega) at c27
         try simp -implicitDefEqProofs (disch := omega) [go_sem, C7, C8]
         subst hc19; refine Ac h (by first | with_reducible rfl | (simp -implicitDefEqProofs (disch := omega) [go_sem, C7, C8] <;> omega)) rfl ?_ ?_
         ·intro c22 h
          try simp (disch := omega) at c22
          refine A2 fun cb hc23 => ?_; refine vcK ?_
          try simp -implicitDefEqProofs (disch := omega) [go_sem, C7, C8]
          subst hc23; refine vcK ?_; simp -implicitDefEqProofs only [go_sem]; have e12 := Option.some.inj h; subst e12; have e12 := hret12 _ rfl; subst e12; replace h : some false = some r := hk12; have er := Option.some.inj h; subst er
          try simp -implicitDefEqProofs (disch := omega) [go_sem, C7, C8]
          refine A4 (by exact A9 (Ext.refl hw)) (by first | with_reducible rfl | (simp -implicitDefEqProofs (disch := omega) [go_sem, C7, C8] <;> omega)) nbA hK
         ·intro c22 h
          try simp (disch := omega) at c22
          refine vcK ?_; simp -implicitDefEqProofs only [go_sem]; subst hc18; refine vcK ?_
          try simp -implicitDefEqProofs (disch := omega) [go_sem, C7, C8]
          have e12 := Option.some.inj h; subst e12; refine Au hI12 (IntKind.i64.wrap (v13 + 1)) ?_; refine .same ⟨rfl, ?_, ?_⟩ <;> first | with_reducible rfl | with_reducible assumption | (simp -implicitDefEqProofs (disch := omega) [go_sem, C7, C8] <;> omega)
        ·intro c27 h
         try simp (disch := omega) at c27
         try simp -implicitDefEqProofs (disch := omega) [go_sem, C7, C8]
         refine A7 h (by first | with_reducible rfl | (simp -implicitDefEqProofs (disch := omega) [go_sem, C7, C8] <;> omega)) ?_ ?_
         ·intro c26 h
          try simp (disch := omega) at c26
          try simp -implicitDefEqProofs (disch := omega) [go_sem, C7, C8]
          subst hc19; refine Ac h (by first | with_reducible rfl | (simp -implicitDefEqProofs (disch := omega) [go_sem, C7, C8] <;> omega)) rfl ?_ ?_
          ·intro c24 h
           try simp (disch := omega) at c24
           refine A2 fun cb hc25 => ?_; refine vcK ?_
           try simp -implicitDefEqProofs (disch := omega) [go_sem, C7, C8]
           subst hc25; refine vcK ?_; simp -implicitDefEqProofs only [go_sem]; have e12 := Option.some.inj h; subst e12; have e12 := hret12 _ rfl; subst e12; replace h : some false = some r := hk12; have er := Option.some.inj h; subst er
           try simp -implicitDefEqProofs (disch := omega) [go_sem, C7, C8]
           refine A4 (by exact A9 (Ext.refl hw)) (by first | with_reducible rfl | (simp -implicitDefEqProofs (disch := omega) [go_sem, C7, C8] <;> omega)) nbA hK
          ·intro c24 h
           try simp (disch := omega) at c24
           refine vcK ?_; simp -implicitDefEqProofs only [go_sem]; subst hc18; refine vcK ?_
           try simp -implicitDefEqProofs (disch := omega) [go_sem, C7, C8]
           have e12 := Option.some.inj h; subst e12; refine Au hI12 (IntKind.i64.wrap (v13 + 1)) ?_; refine .same ⟨rfl, ?_, ?_⟩ <;> first | with_reducible rfl | with_reducible assumption | (simp -implicitDefEqProofs (disch := omega) [go_sem, C7, C8] <;> omega)
         ·intro c26 h
          try simp (disch := omega) at c26
          try simp -implicitDefEqProofs (disch := omega) [go_sem, C7, C8]
          subst hc19; refine AG (by first | with_reducible rfl | (simp -implicitDefEqProofs (disch := omega) [go_sem, C7, C8] <;> omega)) rfl ?_; refine vcK ?_; simp -implicitDefEqProofs only [go_sem]; subst hc18; refine vcK ?_
          try simp -implicitDefEqProofs (disch := omega) [go_sem, C7, C8]
          have e12 := Option.some.inj h; subst e12; refine Au hI12 (IntKind.i64.wrap (v13 + 1)) ?_; refine .same ⟨rfl, ?_, ?_⟩ <;> first | with_reducible rfl | with_reducible assumption | (simp -implicitDefEqProofs (disch := omega) [go_sem, C7, C8] <;> omega)
       ·intro c28 h
        try simp (disch := omega) at c28
        try simp -implicitDefEqProofs (disch := omega) [go_sem, C7, C8]
        subst hc19; refine AG (by first | with_reducible rfl | (simp -implicitDefEqProofs (disch := omega) [go_sem, C7, C8] <;> omega)) rfl ?_; refine vcK ?_; simp -implicitDefEqProofs only [go_sem]; subst hc18; refine vcK ?_
        try simp -implicitDefEqProofs (disch := omega) [go_sem, C7, C8]
        have e12 := Option.some.inj h; subst e12; refine Au hI12 (IntKind.i64.wrap (v13 + 1)) ?_; refine .same ⟨rfl, ?_, ?_⟩ <;> first | with_reducible rfl | with_reducible assumption | (simp -implicitDefEqProofs (disch := omega) [go_sem, C7, C8] <;> omega)
      ·intro c17 h
       try simp (disch := omega) at c17
       refine vcK ?_; simp -implicitDefEqProofs only [go_sem]; have e12 := Option.some.inj h; subst e12; have hy12 := hret12 _ rfl; refine hc12 _ _ ?_; refine .same ⟨hy12, rfl⟩
noncomputable def LD (v8 : List UInt8) : Option (List UInt8) :=
 some v8
noncomputable def Im (a0 : List UInt8) (v6 : List UInt8) (v7 : Int) : Option (((List UInt8) × Int) ⊕ (List UInt8)) :=
 if v7 < (a0.length : Int) then (gd (0 ≤ v7 ∧ v7 < a0.length) (if 65 ≤ (((a0.getD v7.toNat 0).toNat : Int)) then (if (((a0.getD v7.toNat 0).toNat : Int)) ≤ 90 then (gd (0 ≤ (IntKind.u8.wrap ((((a0.getD v7.toNat 0).toNat : Int)) + 32)) ∧ (IntKind.u8.wrap ((((a0.getD v7.toNat 0).toNat : Int)) + 32)) ≤ 255) (gd ((v6.length : Int) + (([UInt8.ofNat (IntKind.u8.wrap ((((a0.getD v7.toNat 0).toNat : Int)) + 32)).toNat] : List UInt8)).length ≤ 9223372036854775807) (some (.inl ((v6 ++ (([UInt8.ofNat (IntKind.u8.wrap ((((a0.getD v7.toNat 0).toNat : Int)) + 32)).toNat] : List UInt8)), IntKind.i64.wrap (v7 + 1))))))) else (gd (0 ≤ (((a0.getD v7.toNat 0).toNat : Int)) ∧ (((a0.getD v7.toNat 0).toNat : Int)) ≤ 255) (gd ((v6.length : Int) + (([UInt8.ofNat (((a0.getD v7.toNat 0).toNat : Int)).toNat] : List UInt8)).length ≤ 9223372036854775807) (some (.inl ((v6 ++ (([UInt8.ofNat (((a0.getD v7.toNat 0).toNat : Int)).toNat] : List UInt8)), IntKind.i64.wrap (v7 + 1)))))))) else (gd (0 ≤ (((a0.getD v7.toNat 0).toNat : Int)) ∧ (((a0.getD v7.toNat 0).toNat : Int)) ≤ 255) (gd ((v6.length : Int) + (([UInt8.ofNat (((a0.getD v7.toNat 0).toNat : Int)).toNat] : List UInt8)).length ≤ 9223372036854775807) (some (.inl ((v6 ++ (([UInt8.ofNat (((a0.getD v7.toNat 0).toNat : Int)).toNat] : List UInt8)), IntKind.i64.wrap (v7 + 1))))))))) else (some (.inr v6))
noncomputable def F71 (a0 : List UInt8) : Option (List UInt8) :=
 (AH (fun (s : (List UInt8) × Int) => Im a0 s.1 s.2) ([], 0)).bind fun (e : (List UInt8)) => LD e
set_option maxHeartbeats 8000000 in
set_option pp.deepTerms false in
set_option maxRecDepth 60000 in
theorem NQ {H : A3} {K : AB → A3 → Prop} (a0 : List UInt8) {r : (List UInt8)} (h : F71 a0 = some r) (hK : K (.ret (.v (str r))) H) : A6 prog 71 [.v (str a0)] H K := by
 refine Ae (N := 29) func71 (by kernel_rfl) rfl (by kernel_rfl) (by kernel_rfl) fun cb hcb hw hbd hnb => ?_; clear hbd hnb; subst hcb; unfold F71 at h; refine A2 fun cb hc1 => ?_; refine vcK ?_
 try simp -implicitDefEqProofs (disch := omega) [go_sem]
 subst hc1; refine A2 fun cb hc2 => ?_; refine vcK ?_
 try simp -implicitDefEqProofs (disch := omega) [go_sem]
 subst hc2; refine A2 fun cb hc3 => ?_; refine A2 fun cb hc4 => ?_; refine vcK ?_
 try simp -implicitDefEqProofs (disch := omega) [go_sem]
 subst hc4; obtain ⟨y5, hl5q, hk5⟩ := A5 h; refine Bk (fun tm' H' => ∃ v8 : List UInt8, v8 = y5 ∧ H = H' ∧ tm' 3 = .v (str v8)) ?_ fun cb hc5 => ?_
 ·rintro tm5e H5e ⟨v8, rfl, rfl, t3_5e⟩
  have h : LD v8 = some r := hk5; unfold LD at h; simp -implicitDefEqProofs only [go_sem]; subst hc3; refine A2 fun cb hc9 => ?_; refine vcK ?_
  try simp -implicitDefEqProofs (disch := omega) [go_sem, t3_5e]
  subst hc9; refine vcK ?_; simp -implicitDefEqProofs only [go_sem]; have er := Option.some.inj h; subst er
  try simp -implicitDefEqProofs (disch := omega) [go_sem, t3_5e]
  refine A4 (by exact A9 (Ext.refl hw)) (by first | with_reducible rfl | (simp -implicitDefEqProofs (disch := omega) [go_sem, t3_5e] <;> omega)) nbA hK
 ·refine Ai ?_; refine AF (fun (s : (List UInt8) × Int) tm' H' => H = H' ∧ tm' 0 = .v (str a0) ∧ tm' 3 = .v (str s.1) ∧ tm' 4 = .v (.int .i64 s.2)) hl5q ?_ ?_
  ·refine .same ⟨rfl, ?_, ?_, ?_⟩ <;> first | with_reducible rfl | with_reducible assumption | (simp -implicitDefEqProofs (disch := omega) [go_sem] <;> omega)
  ·rintro I5 hI5 ⟨v6, v7⟩ x5 tm5 H5 ⟨rfl, A_, C9, EZ⟩ h hret5
   replace h : Im a0 v6 v7 = some x5 := h; unfold Im at h; refine A2 fun cb hc10 => ?_; refine A2 fun cb hc11 => ?_; refine vcK ?_
   try simp -implicitDefEqProofs (disch := omega) [go_sem, A_, C9, EZ]
   subst hc11; refine Ac h (by first | with_reducible rfl | (simp -implicitDefEqProofs (disch := omega) [go_sem, A_, C9, EZ] <;> omega)) rfl ?_ ?_
   ·intro c12 h
    try simp (disch := omega) at c12
    refine vcK ?_; simp -implicitDefEqProofs only [go_sem]; subst hc10; refine A2 fun cb hc13 => ?_; refine Ai ?_; refine A2 fun cb hc14 => ?_; refine vcK ?_; obtain ⟨g15, h⟩ := Ab.1 h
    try simp (disch := omega) at g15
    try simp -implicitDefEqProofs (disch := omega) [go_sem, A_, C9, EZ]
    subst hc14; refine A2 fun cb hc16 => ?_; refine A2 fun cb hc17 => ?_; refine vcK ?_
    try simp -implicitDefEqProofs (disch := omega) [go_sem, A_, C9, EZ]
    refine A7 h (by first | with_reducible rfl | (simp -implicitDefEqProofs (disch := omega) [go_sem, A_, C9, EZ] <;> omega)) ?_ ?_
    ·intro c25 h
     try simp (disch := omega) at c25
     try simp -implicitDefEqProofs (disch := omega) [go_sem, A_, C9, EZ]
     subst hc17; refine Ac h (by first | with_reducible rfl | (simp -implicitDefEqProofs (disch := omega) [go_sem, A_, C9, EZ] <;> omega)) rfl ?_ ?_
     ·intro c18 h
      try simp (disch := omega) at c18
      refine vcK ?_
      try simp -implicitDefEqProofs (disch := omega) [go_sem, A_, C9, EZ]
      subst hc16; refine vcK ?_; obtain ⟨g19, h⟩ := Ab.1 h
      try simp (disch := omega) at g19
      obtain ⟨g20, h⟩ := Ab.1 h
      try simp (disch := omega) at g20
      try simp -implicitDefEqProofs (disch := omega) [go_sem] at g19
      try simp -implicitDefEqProofs (disch := omega) [go_sem] at g20
      try simp -implicitDefEqProofs (disch := omega) [go_sem, A_, C9, EZ]
      subst hc13; refine vcK ?_
      try simp -implicitDefEqProofs (disch := omega) [go_sem, A_, C9, EZ]
      have e5 := Option.some.inj h; subst e5; refine Au hI5 ((v6 ++ (([UInt8.ofNat (IntKind.u8.wrap ((((a0.getD v7.toNat 0).toNat : Int)) + 32)).toNat] : List UInt8)), IntKind.i64.wrap (v7 + 1))) ?_; refine .same ⟨rfl, ?_, ?_, ?_⟩ <;> first | with_reducible rfl | with_reducible assumption | (simp -implicitDefEqProofs (disch := omega) [go_sem, A_, C9, EZ] <;> omega)
     ·intro c18 h
      try simp (disch := omega) at c18
      refine vcK ?_; simp -implicitDefEqProofs only [go_sem]; subst hc16; refine vcK ?_; obtain ⟨g21, h⟩ := Ab.1 h
      try simp (disch := omega) at g21
      obtain ⟨g22, h⟩ := Ab.1 h
      try simp (disch := omega) at g22
      try simp -implicitDefEqProofs (disch := omega) [go_sem, A_, C9, EZ]
      subst hc13; refine vcK ?_
      try simp -implicitDefEqProofs (disch := omega) [go_sem, A_, C9, EZ]
      have e5 := Option.some.inj h; subst e5; refine Au hI5 ((v6 ++ (([UInt8.ofNat (((a0.getD v7.toNat 0).toNat : Int)).toNat] : List UInt8)), IntKind.i64.wrap (v7 + 1))) ?_; refine .same ⟨rfl, ?_, ?_, ?_⟩ <;> first | with_reducible rfl | with_reducible assumption | (simp -implicitDefEqProofs (disch := omega) [go_sem, A_, C9, EZ] <;> omega)
    ·intro c25 h
     try simp (disch := omega) at c25
     try simp -implicitDefEqProofs (disch := omega) [go_sem, A_, C9, EZ]
     subst hc17; refine AG (by first | with_reducible rfl | (simp -implicitDefEqProofs (disch := omega) [go_sem, A_, C9, EZ] <;> omega)) rfl ?_; refine vcK ?_; simp -implicitDefEqProofs only [go_sem]; subst hc16; refine vcK ?_; obtain ⟨g23, h⟩ := Ab.1 h
     try simp (disch := omega) at g23
     obtain ⟨g24, h⟩ := Ab.1 h
     try simp (disch := omega) at g24
     try simp -implicitDefEqProofs (disch := omega) [go_sem, A_, C9, EZ]
     subst hc13; refine vcK ?_
     try simp -implicitDefEqProofs (disch := omega) [go_sem, A_, C9, EZ]
     have e5 := Option.some.inj h; subst e5; refine Au hI5 ((v6 ++ (([UInt8.ofNat (((a0.getD v7.toNat 0).toNat : Int)).toNat] : List UInt8)), IntKind.i64.wrap (v7 + 1))) ?_; refine .same ⟨rfl, ?_, ?_, ?_⟩ <;> first | with_reducible rfl | with_reducible assumption | (simp -implicitDefEqProofs (disch := omega) [go_sem, A_, C9, EZ] <;> omega)
   ·intro c12 h
    try simp (disch := omega) at c12
    refine vcK ?_; simp -implicitDefEqProofs only [go_sem]; have e5 := Option.some.inj h; subst e5; have hy5 := hret5 _ rfl; refine hc5 _ _ ?_; refine .same ⟨v6, hy5, rfl, by first | with_reducible rfl | with_reducible assumption | (simp -implicitDefEqProofs (disch := omega) [go_sem, A_, C9, EZ] <;> omega)⟩
noncomputable def F72 (a0 : List UInt8) : Option Bool :=
 if (a0.length : Int) ≤ 200 then ((F55 a0 32 126).bind fun (x3 : Bool) => if x3 = true then (if a0 = [] then (some true) else (gd (0 < a0.length) (if ¬ (((a0.getD 0 0).toNat : Int)) = 32 then (gd (0 ≤ (IntKind.i64.wrap ((a0.length : Int) - 1)) ∧ (IntKind.i64.wrap ((a0.length : Int) - 1)) < a0.length) (some (decide (¬ (((a0.getD (IntKind.i64.wrap ((a0.length : Int) - 1)).toNat 0).toNat : Int)) = 32)))) else (some false)))) else (some false)) else (some false)
set_option maxHeartbeats 8000000 in
set_option pp.deepTerms false in
set_option maxRecDepth 60000 in
theorem QH {H : A3} {K : AB → A3 → Prop} (a0 : List UInt8) {r : Bool} (h : F72 a0 = some r) (hK : K (.ret (.v (.bool r))) H) : A6 prog 72 [.v (str a0)] H K := by
 refine Ae (N := 27) func72 (by kernel_rfl) rfl (by kernel_rfl) (by kernel_rfl) fun cb hcb hw hbd hnb => ?_; clear hbd hnb; subst hcb; unfold F72 at h; refine A2 fun cb hc1 => ?_; refine vcK ?_
 try simp -implicitDefEqProofs (disch := omega) [go_sem]
 subst hc1; refine A2 fun cb hc2 => ?_; refine vcK ?_
 try simp -implicitDefEqProofs (disch := omega) [go_sem]
 refine A7 h (by first | with_reducible rfl | (simp -implicitDefEqProofs (disch := omega) [go_sem] <;> omega)) ?_ ?_
 ·intro c9 h
  try simp (disch := omega) at c9
  try simp -implicitDefEqProofs (disch := omega) [go_sem]
  obtain ⟨x3, hx3, h⟩ := A5 h; refine A6.eqA (args' := [.v (str a0), .v (.int .u8 32), .v (.int .u8 126)]) (by first | with_reducible rfl | (simp -implicitDefEqProofs (disch := omega) [go_sem] <;> omega)) (K9 a0 32 126 hx3 ?_)
  try simp -implicitDefEqProofs (disch := omega) [go_sem]
  refine A7 h (by first | with_reducible rfl | (simp -implicitDefEqProofs (disch := omega) [go_sem] <;> omega)) ?_ ?_
  ·intro c8 h
   try simp (disch := omega) at c8
   try simp -implicitDefEqProofs (disch := omega) [go_sem]
   refine A7 h (by first | with_reducible rfl | (simp -implicitDefEqProofs (disch := omega) [go_sem] <;> omega)) ?_ ?_
   ·intro c7 h
    try simp (disch := omega) at c7
    try simp -implicitDefEqProofs (disch := omega) [go_sem]
    subst hc2; refine vcK ?_; simp -implicitDefEqProofs only [go_sem]; have er := Option.some.inj h; subst er
    try simp -implicitDefEqProofs (disch := omega) [go_sem]
    refine A4 (by exact A9 (Ext.refl hw)) (by first | with_reducible rfl | (simp -implicitDefEqProofs (disch := omega) [go_sem] <;> omega)) nbA hK
   ·intro c7 h
    try simp (disch := omega) at c7
    obtain ⟨g4, h⟩ := Ab.1 h
    try simp (disch := omega) at g4
    try simp -implicitDefEqProofs (disch := omega) [go_sem]
    refine A7 h (by first | with_reducible rfl | (simp -implicitDefEqProofs (disch := omega) [go_sem] <;> omega)) ?_ ?_
    ·intro c6 h
     try simp (disch := omega) at c6
     obtain ⟨g5, h⟩ := Ab.1 h
     try simp (disch := omega) at g5
     try simp -implicitDefEqProofs (disch := omega) [go_sem]
     subst hc2; refine vcK ?_; simp -implicitDefEqProofs only [go_sem]; have er := Option.some.inj h; subst er
     try simp -implicitDefEqProofs (disch := omega) [go_sem]
     refine A4 (by exact A9 (Ext.refl hw)) (by first | with_reducible rfl | (simp -implicitDefEqProofs (disch := omega) [go_sem] <;> omega)) nbA hK
    ·intro c6 h
     try simp (disch := omega) at c6
     try simp -implicitDefEqProofs (disch := omega) [go_sem]
     subst hc2; refine vcK ?_; simp -implicitDefEqProofs only [go_sem]; have er := Option.some.inj h; subst er
     try simp -implicitDefEqProofs (disch := omega) [go_sem]
     refine A4 (by exact A9 (Ext.refl hw)) (by first | with_reducible rfl | (simp -implicitDefEqProofs (disch := omega) [go_sem] <;> omega)) nbA hK
  ·intro c8 h
   try simp (disch := omega) at c8
   try simp -implicitDefEqProofs (disch := omega) [go_sem]
   subst hc2; refine vcK ?_; simp -implicitDefEqProofs only [go_sem]; have er := Option.some.inj h; subst er
   try simp -implicitDefEqProofs (disch := omega) [go_sem]
   refine A4 (by exact A9 (Ext.refl hw)) (by first | with_reducible rfl | (simp -implicitDefEqProofs (disch := omega) [go_sem] <;> omega)) nbA hK
 ·intro c9 h
  try simp (disch := omega) at c9
  try simp -implicitDefEqProofs (disch := omega) [go_sem]
  subst hc2; refine vcK ?_; simp -implicitDefEqProofs only [go_sem]; have er := Option.some.inj h; subst er
  try simp -implicitDefEqProofs (disch := omega) [go_sem]
  refine A4 (by exact A9 (Ext.refl hw)) (by first | with_reducible rfl | (simp -implicitDefEqProofs (disch := omega) [go_sem] <;> omega)) nbA hK
noncomputable def LF (a0 : List S55) : Option Bool :=
 some (decide ((a0.length : Int) ≤ 16))
noncomputable def FV (a0 : List S55) (v5 : Int) : Option (Int ⊕ (Unit ⊕ Bool)) :=
 if v5 < (a0.length : Int) then (gd (0 ≤ v5 ∧ v5 < a0.length) ((F70 ((a0.getD v5.toNat S55.zero).fName)).bind fun (x14 : Bool) => if ¬ (x14 = true) then (some (.inr (.inr false))) else ((F71 ((a0.getD v5.toNat S55.zero).fName)).bind fun (x16 : (List UInt8)) => if ¬ x16 = ((a0.getD v5.toNat S55.zero).fName) then (some (.inr (.inr false))) else ((F72 ((a0.getD v5.toNat S55.zero).A8)).bind fun (x18 : Bool) => if ¬ (x18 = true) then (some (.inr (.inr false))) else (if ((a0.getD v5.toNat S55.zero).fName) = ([99, 111, 110, 116, 101, 110, 116, 45, 108, 101, 110, 103, 116, 104]) then (some (.inr (.inr false))) else (if ((a0.getD v5.toNat S55.zero).fName) = ([116, 114, 97, 110, 115, 102, 101, 114, 45, 101, 110, 99, 111, 100, 105, 110, 103]) then (some (.inr (.inr false))) else (if 0 < v5 then (gd (0 ≤ (IntKind.i64.wrap (v5 - 1)) ∧ (IntKind.i64.wrap (v5 - 1)) < a0.length) (if ¬ Op.bytesLess ((a0.getD (IntKind.i64.wrap (v5 - 1)).toNat S55.zero).fName) ((a0.getD v5.toNat S55.zero).fName) = true then (some (.inr (.inr false))) else (some (.inl (IntKind.i64.wrap (v5 + 1)))))) else (some (.inl (IntKind.i64.wrap (v5 + 1))))))))))) else (some (.inr (.inl ())))
noncomputable def F44 (a0 : List S55) : Option Bool :=
 (AH (fun (s : Int) => FV a0 s) 0).bind fun y => Sum.elim (fun (e : Unit) => LF a0) (fun (q : Bool) => some q) y
set_option maxHeartbeats 8000000 in
set_option pp.deepTerms false in
set_option maxRecDepth 60000 in
theorem QI {H : A3} {K : AB → A3 → Prop} (a0 : List S55) {r : Bool} (h : F44 a0 = some r) (hK : K (.ret (.v (.bool r))) H) : A6 prog 44 [.sl 2 (a0.map fun x => [.v (str x.fName), .v (str x.A8)])] H K := by
 refine Ae (N := 59) func44 (by kernel_rfl) rfl (by kernel_rfl) (by kernel_rfl) fun cb hcb hw hbd hnb => ?_; clear hbd hnb; subst hcb; unfold F44 at h; refine A2 fun cb hc1 => ?_; refine vcK ?_
 try simp -implicitDefEqProofs (disch := omega) [go_sem]
 subst hc1; refine A2 fun cb hc2 => ?_; refine A2 fun cb hc3 => ?_; refine vcK ?_
 try simp -implicitDefEqProofs (disch := omega) [go_sem]
 subst hc3; obtain ⟨y4, hl4q, hk4⟩ := A5 h; refine Bk (fun tm' H' => .inl () = y4 ∧ H = H' ∧ tm' 0 = .sl 2 (a0.map fun x => [.v (str x.fName), .v (str x.A8)])) ?_ fun cb hc4 => ?_
 ·rintro tm4e H4e ⟨rfl, rfl, t0_4e⟩
  have h : LF a0 = some r := hk4; unfold LF at h; simp -implicitDefEqProofs only [go_sem]; subst hc2; refine A2 fun cb hc6 => ?_; refine vcK ?_
  try simp -implicitDefEqProofs (disch := omega) [go_sem, t0_4e]
  subst hc6; refine vcK ?_; simp -implicitDefEqProofs only [go_sem]; have er := Option.some.inj h; subst er
  try simp -implicitDefEqProofs (disch := omega) [go_sem, t0_4e]
  refine A4 (by exact A9 (Ext.refl hw)) (by first | with_reducible rfl | (simp -implicitDefEqProofs (disch := omega) [go_sem, t0_4e] <;> omega)) nbA hK
 ·refine Ai ?_; refine AF (fun (s : Int) tm' H' => H = H' ∧ tm' 0 = .sl 2 (a0.map fun x => [.v (str x.fName), .v (str x.A8)]) ∧ tm' 3 = .v (.int .i64 s)) hl4q ?_ ?_
  ·refine .same ⟨rfl, ?_, ?_⟩ <;> first | with_reducible rfl | with_reducible assumption | (simp -implicitDefEqProofs (disch := omega) [go_sem] <;> omega)
  ·rintro I4 hI4 v5 x4 tm4 H4 ⟨rfl, An, BH⟩ h hret4
   replace h : FV a0 v5 = some x4 := h; unfold FV at h; refine A2 fun cb hc7 => ?_; refine A2 fun cb hc8 => ?_; refine vcK ?_
   try simp -implicitDefEqProofs (disch := omega) [go_sem, An, BH]
   subst hc8; refine Ac h (by first | with_reducible rfl | (simp -implicitDefEqProofs (disch := omega) [go_sem, An, BH] <;> omega)) rfl ?_ ?_
   ·intro c9 h
    try simp (disch := omega) at c9
    refine vcK ?_; simp -implicitDefEqProofs only [go_sem]; subst hc7; refine A2 fun cb hc10 => ?_; refine Ai ?_; refine A2 fun cb hc11 => ?_; refine vcK ?_; obtain ⟨g12, h⟩ := Ab.1 h
    try simp (disch := omega) at g12
    try simp -implicitDefEqProofs (disch := omega) [go_sem, An, BH]
    subst hc11; refine A2 fun cb hc13 => ?_; refine vcK ?_
    try simp -implicitDefEqProofs (disch := omega) [go_sem, An, BH]
    obtain ⟨x14, hx14, h⟩ := A5 h; refine A6.eqA (args' := [.v (str ((a0.getD v5.toNat S55.zero).fName))]) (by first | with_reducible rfl | (simp -implicitDefEqProofs (disch := omega) [go_sem, An, BH] <;> omega)) (QG ((a0.getD v5.toNat S55.zero).fName) hx14 ?_)
    try simp -implicitDefEqProofs (disch := omega) [go_sem, An, BH]
    refine A7 h (by first | with_reducible rfl | (simp -implicitDefEqProofs (disch := omega) [go_sem, An, BH] <;> omega)) ?_ ?_
    ·intro c30 h
     try simp (disch := omega) at c30
     try simp -implicitDefEqProofs (disch := omega) [go_sem, An, BH]
     subst hc13; refine As (by first | with_reducible rfl | (simp -implicitDefEqProofs (disch := omega) [go_sem, An, BH] <;> omega)) rfl ?_; refine A2 fun cb hc15 => ?_; refine vcK ?_
     try simp -implicitDefEqProofs (disch := omega) [go_sem, An, BH]
     subst hc15; refine vcK ?_; simp -implicitDefEqProofs only [go_sem]; have e4 := Option.some.inj h; subst e4; have e4 := hret4 _ rfl; subst e4; replace h : some false = some r := hk4; have er := Option.some.inj h; subst er
     try simp -implicitDefEqProofs (disch := omega) [go_sem, An, BH]
     refine A4 (by exact A9 (Ext.refl hw)) (by first | with_reducible rfl | (simp -implicitDefEqProofs (disch := omega) [go_sem, An, BH] <;> omega)) nbA hK
    ·intro c30 h
     try simp (disch := omega) at c30
     try simp -implicitDefEqProofs (disch := omega) [go_sem, An, BH]
     obtain ⟨x16, hx16, h⟩ := A5 h; refine A6.eqA (args' := [.v (str ((a0.getD v5.toNat S55.zero).fName))]) (by first | with_reducible rfl | (simp -implicitDefEqProofs (disch := omega) [go_sem, An, BH] <;> omega)) (NQ ((a0.getD v5.toNat S55.zero).fName) hx16 ?_)
     try simp -implicitDefEqProofs (disch := omega) [go_sem, An, BH]
     refine A7 h (by first | with_reducible rfl | (simp -implicitDefEqProofs (disch := omega) [go_sem, An, BH] <;> omega)) ?_ ?_
     ·intro c29 h
      try simp (disch := omega) at c29
      try simp -implicitDefEqProofs (disch := omega) [go_sem, An, BH]
      subst hc13; refine As (by first | with_reducible rfl | (simp -implicitDefEqProofs (disch := omega) [go_sem, An, BH] <;> omega)) rfl ?_; refine A2 fun cb hc17 => ?_; refine vcK ?_
      try simp -implicitDefEqProofs (disch := omega) [go_sem, An, BH]
      subst hc17; refine vcK ?_; simp -implicitDefEqProofs only [go_sem]; have e4 := Option.some.inj h; subst e4; have e4 := hret4 _ rfl; subst e4; replace h : some false = some r := hk4; have er := Option.some.inj h; subst er
      try simp -implicitDefEqProofs (disch := omega) [go_sem, An, BH]
      refine A4 (by exact A9 (Ext.refl hw)) (by first | with_reducible rfl | (simp -implicitDefEqProofs (disch := omega) [go_sem, An, BH] <;> omega)) nbA hK
     ·intro c29 h
      try simp (disch := omega) at c29
      try simp -implicitDefEqProofs (disch := omega) [go_sem, An, BH]
      obtain ⟨x18, hx18, h⟩ := A5 h; refine A6.eqA (args' := [.v (str ((a0.getD v5.toNat S55.zero).A8))]) (by first | with_reducible rfl | (simp -implicitDefEqProofs (disch := omega) [go_sem, An, BH] <;> omega)) (QH ((a0.getD v5.toNat S55.zero).A8) hx18 ?_)
      try simp -implicitDefEqProofs (disch := omega) [go_sem, An, BH]
      refine A7 h (by first | with_reducible rfl | (simp -implicitDefEqProofs (disch := omega) [go_sem, An, BH] <;> omega)) ?_ ?_
      ·intro c28 h
       try simp (disch := omega) at c28
       try simp -implicitDefEqProofs (disch := omega) [go_sem, An, BH]
       subst hc13; refine As (by first | with_reducible rfl | (simp -implicitDefEqProofs (disch := omega) [go_sem, An, BH] <;> omega)) rfl ?_; refine A2 fun cb hc19 => ?_; refine vcK ?_
       try simp -implicitDefEqProofs (disch := omega) [go_sem, An, BH]
       subst hc19; refine vcK ?_; simp -implicitDefEqProofs only [go_sem]; have e4 := Option.some.inj h; subst e4; have e4 := hret4 _ rfl; subst e4; replace h : some false = some r := hk4; have er := Option.some.inj h; subst er
       try simp -implicitDefEqProofs (disch := omega) [go_sem, An, BH]
       refine A4 (by exact A9 (Ext.refl hw)) (by first | with_reducible rfl | (simp -implicitDefEqProofs (disch := omega) [go_sem, An, BH] <;> omega)) nbA hK
      ·intro c28 h
       try simp (disch := omega) at c28
       try simp -implicitDefEqProofs (disch := omega) [go_sem, An, BH]
       refine A7 h (by first | with_reducible rfl | (simp -implicitDefEqProofs (disch := omega) [go_sem, An, BH] <;> omega)) ?_ ?_
       ·intro c27 h
        try simp (disch := omega) at c27
        try simp -implicitDefEqProofs (disch := omega) [go_sem, An, BH]
        subst hc13; refine As (by first | with_reducible rfl | (simp -implicitDefEqProofs (disch := omega) [go_sem, An, BH] <;> omega)) rfl ?_; refine A2 fun cb hc20 => ?_; refine vcK ?_
        try simp -implicitDefEqProofs (disch := omega) [go_sem, An, BH]
        subst hc20; refine vcK ?_; simp -implicitDefEqProofs only [go_sem]; have e4 := Option.some.inj h; subst e4; have e4 := hret4 _ rfl; subst e4; replace h : some false = some r := hk4; have er := Option.some.inj h; subst er
        try simp -implicitDefEqProofs (disch := omega) [go_sem, An, BH]
        refine A4 (by exact A9 (Ext.refl hw)) (by first | with_reducible rfl | (simp -implicitDefEqProofs (disch := omega) [go_sem, An, BH] <;> omega)) nbA hK
       ·intro c27 h
        try simp (disch := omega) at c27
        try simp -implicitDefEqProofs (disch := omega) [go_sem, An, BH]
        refine A7 h (by first | with_reducible rfl | (simp -implicitDefEqProofs (disch := omega) [go_sem, An, BH] <;> omega)) ?_ ?_
        ·intro c26 h
         try simp (disch := omega) at c26
         try simp -implicitDefEqProofs (disch := omega) [go_sem, An, BH]
         subst hc13; refine As (by first | with_reducible rfl | (simp -implicitDefEqProofs (disch := omega) [go_sem, An, BH] <;> omega)) rfl ?_; refine A2 fun cb hc21 => ?_; refine vcK ?_
         try simp -implicitDefEqProofs (disch := omega) [go_sem, An, BH]
         subst hc21; refine vcK ?_; simp -implicitDefEqProofs only [go_sem]; have e4 := Option.some.inj h; subst e4; have e4 := hret4 _ rfl; subst e4; replace h : some false = some r := hk4; have er := Option.some.inj h; subst er
         try simp -implicitDefEqProofs (disch := omega) [go_sem, An, BH]
         refine A4 (by exact A9 (Ext.refl hw)) (by first | with_reducible rfl | (simp -implicitDefEqProofs (disch := omega) [go_sem, An, BH] <;> omega)) nbA hK
        ·intro c26 h
         try simp (disch := omega) at c26
         try simp -implicitDefEqProofs (disch := omega) [go_sem, An, BH]
         refine A7 h (by first | with_reducible rfl | (simp -implicitDefEqProofs (disch := omega) [go_sem, An, BH] <;> omega)) ?_ ?_
         ·intro c25 h
          try simp (disch := omega) at c25
          obtain ⟨g22, h⟩ := Ab.1 h
          try simp (disch := omega) at g22
          try simp -implicitDefEqProofs (disch := omega) [go_sem, An, BH]
          subst hc13; refine Ac h (by first | with_reducible rfl | (simp -implicitDefEqProofs (disch := omega) [go_sem, An, BH] <;> omega)) rfl ?_ ?_
          ·intro c23 h
           try simp (disch := omega) at c23
           refine A2 fun cb hc24 => ?_; refine vcK ?_
           try simp -implicitDefEqProofs (disch := omega) [go_sem, An, BH]
           subst hc24; refine vcK ?_; simp -implicitDefEqProofs only [go_sem]; have e4 := Option.some.inj h; subst e4; have e4 := hret4 _ rfl; subst e4; replace h : some false = some r := hk4; have er := Option.some.inj h; subst er
           try simp -implicitDefEqProofs (disch := omega) [go_sem, An, BH]
           refine A4 (by exact A9 (Ext.refl hw)) (by first | with_reducible rfl | (simp -implicitDefEqProofs (disch := omega) [go_sem, An, BH] <;> omega)) nbA hK
          ·intro c23 h
           try simp (disch := omega) at c23
           refine vcK ?_; simp -implicitDefEqProofs only [go_sem]; subst hc10; refine vcK ?_
           try simp -implicitDefEqProofs (disch := omega) [go_sem, An, BH]
           have e4 := Option.some.inj h; subst e4; refine Au hI4 (IntKind.i64.wrap (v5 + 1)) ?_; refine .same ⟨rfl, ?_, ?_⟩ <;> first | with_reducible rfl | with_reducible assumption | (simp -implicitDefEqProofs (disch := omega) [go_sem, An, BH] <;> omega)
         ·intro c25 h
          try simp (disch := omega) at c25
          try simp -implicitDefEqProofs (disch := omega) [go_sem, An, BH]
          subst hc13; refine AG (by first | with_reducible rfl | (simp -implicitDefEqProofs (disch := omega) [go_sem, An, BH] <;> omega)) rfl ?_; refine vcK ?_; simp -implicitDefEqProofs only [go_sem]; subst hc10; refine vcK ?_
          try simp -implicitDefEqProofs (disch := omega) [go_sem, An, BH]
          have e4 := Option.some.inj h; subst e4; refine Au hI4 (IntKind.i64.wrap (v5 + 1)) ?_; refine .same ⟨rfl, ?_, ?_⟩ <;> first | with_reducible rfl | with_reducible assumption | (simp -implicitDefEqProofs (disch := omega) [go_sem, An, BH] <;> omega)
   ·intro c9 h
    try simp (disch := omega) at c9
    refine vcK ?_; simp -implicitDefEqProofs only [go_sem]; have e4 := Option.some.inj h; subst e4; have hy4 := hret4 _ rfl; refine hc4 _ _ ?_; refine .same ⟨hy4, rfl, by first | with_reducible rfl | with_reducible assumption | (simp -implicitDefEqProofs (disch := omega) [go_sem, An, BH] <;> omega)⟩
end Go.Idl
namespace Go.Idl
open Go Go.Proofs.Tryz
noncomputable def F49 (a0 : List UInt8) : Option (Except Unit (S42)) :=
 (F50 a0 ([32])).bind fun (x3 : (List (List UInt8))) => if (x3.length : Int) = 3 then (gd (0 < x3.length) ((F45 (x3.getD 0 [])).bind fun (x6 : Bool) => if x6 = true then (gd (1 < x3.length) ((F46 (x3.getD 1 [])).bind fun (x8 : Bool) => if x8 = true then (gd (2 < x3.length) (if (x3.getD 2 []) = ([72, 84, 84, 80, 47, 49, 46, 49]) then (some ((.ok (⟨x3.getD 0 [], x3.getD 1 [], [], []⟩ : S42)))) else (some (.error ())))) else (some (.error ())))) else (some (.error ())))) else (some (.error ()))
set_option maxHeartbeats 8000000 in
set_option pp.deepTerms false in
set_option maxRecDepth 60000 in
theorem Va {H : A3} {K : AB → A3 → Prop} (a0 : List UInt8) (hV : VOK prog H) {r : Except Unit (S42)} (h : F49 a0 = some r) (hP : ∀ e, r = .error e → K (.pan (CX e)) H) (hK : ∀ v : S42, r = .ok v → K (.ret (.ag ([.v (str v.AI), .v (str v.Bw), .sl 2 (v.Ax.map fun x => [.v (str x.fName), .v (str x.A8)]), .sl 1 (v.AT.map fun x => [.v (.int .u8 x.toNat)])]))) H) : A6 prog 49 [.v (str a0)] H K := by
 refine Ae (N := 35) func49 (by kernel_rfl) rfl (by kernel_rfl) (by kernel_rfl) fun cb hcb hw hbd hnb => ?_; clear hbd hnb; subst hcb; unfold F49 at h; refine A2 fun cb hc1 => ?_; refine vcK ?_
 try simp -implicitDefEqProofs (disch := omega) [go_sem, bdP]
 subst hc1; refine A2 fun cb hc2 => ?_; refine vcK ?_
 try simp -implicitDefEqProofs (disch := omega) [go_sem, bdP]
 obtain ⟨x3, hx3, h⟩ := A5 h; refine A6.eqA (args' := [.v (str a0), .v (str ([32]))]) (by first | with_reducible rfl | (simp -implicitDefEqProofs (disch := omega) [go_sem, bdP] <;> omega)) (UM a0 ([32]) (by first | exact hV.of rfl | exact hV.of ((Ext.refl hw)).sn | exact hV.of (Ext.sn (H := H) (by exact A9 (Ext.refl hw))) | exact (VOK.of hV rfl).tok | exact (VOK.of hV ((Ext.refl hw)).sn).tok | exact (VOK.of hV (Ext.sn (H := H) (by exact A9 (Ext.refl hw)))).tok) hx3 ?_)
 try simp -implicitDefEqProofs (disch := omega) [go_sem, bdP]
 subst hc2; refine A2 fun cb hc4 => ?_; refine vcK ?_
 try simp -implicitDefEqProofs (disch := omega) [go_sem, bdP]
 refine A7 h (by first | with_reducible rfl | (simp -implicitDefEqProofs (disch := omega) [go_sem, bdP] <;> omega)) ?_ ?_
 ·intro c14 h
  try simp (disch := omega) at c14
  obtain ⟨g5, h⟩ := Ab.1 h
  try simp (disch := omega) at g5
  try simp -implicitDefEqProofs (disch := omega) [go_sem, bdP]
  obtain ⟨x6, hx6, h⟩ := A5 h; refine A6.eqA (args' := [.v (str (x3.getD 0 []))]) (by first | with_reducible rfl | (simp -implicitDefEqProofs (disch := omega) [go_sem, bdP] <;> omega)) (Ql (x3.getD 0 []) hx6 ?_)
  try simp -implicitDefEqProofs (disch := omega) [go_sem, bdP]
  refine A7 h (by first | with_reducible rfl | (simp -implicitDefEqProofs (disch := omega) [go_sem, bdP] <;> omega)) ?_ ?_
  ·intro c13 h
   try simp (disch := omega) at c13
   obtain ⟨g7, h⟩ := Ab.1 h
   try simp (disch := omega) at g7
   try simp -implicitDefEqProofs (disch := omega) [go_sem, bdP]
   obtain ⟨x8, hx8, h⟩ := A5 h; refine A6.eqA (args' := [.v (str (x3.getD 1 []))]) (by first | with_reducible rfl | (simp -implicitDefEqProofs (disch := omega) [go_sem, bdP] <;> omega)) (Qn (x3.getD 1 []) hx8 ?_)
   try simp -implicitDefEqProofs (disch := omega) [go_sem, bdP]
   refine A7 h (by first | with_reducible rfl | (simp -implicitDefEqProofs (disch := omega) [go_sem, bdP] <;> omega)) ?_ ?_
   ·intro c12 h
    try simp (disch := omega) at c12
    obtain ⟨g9, h⟩ := Ab.1 h
    try simp (disch := omega) at g9
    try simp -implicitDefEqProofs (disch := omega) [go_sem, bdP]
    refine A6.eqA (args' := [.v (.bool (decide ((x3.getD 2 []) = ([72, 84, 84, 80, 47, 49, 46, 49]))))]) (by first | with_reducible rfl | (simp -implicitDefEqProofs (disch := omega) [go_sem, bdP] <;> omega)) ?_; by_cases m10 : ¬ ((x3.getD 2 []) = ([72, 84, 84, 80, 47, 49, 46, 49]))
    ·rw [if_neg m10] at h; refine BK  (by first | simpa using m10 | exact Bool.eq_false_iff.2 (fun q => m10 (by simpa using q))) ?_
     try simp (disch := omega) at m10
     have er := Option.some.inj h; subst er
     try simp -implicitDefEqProofs (disch := omega) [go_sem, bdP]
     exact C4 (by exact BW (Ext.refl hw)) (Dl.refl _) (hP _ rfl)
    have m10 := Classical.not_not.1 m10; rw [if_pos m10] at h; refine Dv  (by simpa using m10) ?_
    try simp (disch := omega) at m10
    try simp -implicitDefEqProofs (disch := omega) [go_sem, bdP]
    subst hc4; refine A2 fun cb hc11 => ?_; refine Ck [] [0, 1, 2, 3, 4, 5, 6, 7] (by kernel_rfl) (by kernel_rfl) (fun _ _ _ _ h => h) ?_
    try simp -implicitDefEqProofs (disch := omega) [go_sem, bdP]
    subst hc11; refine vcK ?_; simp -implicitDefEqProofs only [go_sem]; have er := Option.some.inj h; subst er
    try simp -implicitDefEqProofs (disch := omega) [go_sem, bdP]
    refine Az (J := H) (r' := _) (Ext.CK (by exact A9 (Ext.refl hw))) (by first | with_reducible rfl | (simp -implicitDefEqProofs (disch := omega) [go_sem, bdP] <;> omega)) (.wk _ (.ag ([.v (str (x3.getD 0 [])), .v (str (x3.getD 1 [])), .sl 2 (([] : List S55).map fun x => [.v (str x.fName), .v (str x.A8)]), .sl 1 (([] : List UInt8).map fun x => [.v (.int .u8 x.toNat)])])) (by repeat (first | exact WkL.nil | refine WkL.cons ?_ ?_ | exact Wk.refl _ | exact Wk.nil _ | refine Wk.agL ?_ | refine Wk.tuL ?_ | (refine Wk.eqv ?_; focus (simp -implicitDefEqProofs (disch := omega) [go_sem, str]; done)))) (by first | exact nbA | exact BJ | exact Bu)) (hK _ rfl)
   ·intro c12 h
    try simp (disch := omega) at c12
    try simp -implicitDefEqProofs (disch := omega) [go_sem, bdP]
    refine A6.eqA (args' := [.v (.bool false)]) (by first | with_reducible rfl | (simp -implicitDefEqProofs (disch := omega) [go_sem, bdP] <;> omega)) (BK  rfl ?_); have er := Option.some.inj h; subst er
    try simp -implicitDefEqProofs (disch := omega) [go_sem, bdP]
    exact C4 (by exact BW (Ext.refl hw)) (Dl.refl _) (hP _ rfl)
  ·intro c13 h
   try simp (disch := omega) at c13
   try simp -implicitDefEqProofs (disch := omega) [go_sem, bdP]
   refine A6.eqA (args' := [.v (.bool false)]) (by first | with_reducible rfl | (simp -implicitDefEqProofs (disch := omega) [go_sem, bdP] <;> omega)) (BK  rfl ?_); have er := Option.some.inj h; subst er
   try simp -implicitDefEqProofs (disch := omega) [go_sem, bdP]
   exact C4 (by exact BW (Ext.refl hw)) (Dl.refl _) (hP _ rfl)
 ·intro c14 h
  try simp (disch := omega) at c14
  try simp -implicitDefEqProofs (disch := omega) [go_sem, bdP]
  refine A6.eqA (args' := [.v (.bool false)]) (by first | with_reducible rfl | (simp -implicitDefEqProofs (disch := omega) [go_sem, bdP] <;> omega)) (BK  rfl ?_); have er := Option.some.inj h; subst er
  try simp -implicitDefEqProofs (disch := omega) [go_sem, bdP]
  exact C4 (by exact BW (Ext.refl hw)) (Dl.refl _) (hP _ rfl)
noncomputable def F52 (a0 : S42) (a1 : List S55) (a2 : List UInt8) : Option S42 :=
 some (⟨a0.AI, a0.Bw, a1, a2⟩ : S42)
set_option maxHeartbeats 8000000 in
set_option pp.deepTerms false in
set_option maxRecDepth 60000 in
theorem Vb {H : A3} {K : AB → A3 → Prop} (a0 : S42) (a1 : List S55) (a2 : List UInt8) (ka0 : Nat) (Ao : H.obj ka0 = some (.cells ([.v (str a0.AI), .v (str a0.Bw), .sl 2 (a0.Ax.map fun x => [.v (str x.fName), .v (str x.A8)]), .sl 1 (a0.AT.map fun x => [.v (.int .u8 x.toNat)])]))) {r : S42} (h : F52 a0 a1 a2 = some r) (hK : K (.ret (.tu [])) (Et H [(ka0, .cells ([.v (str r.AI), .v (str r.Bw), .sl 2 (r.Ax.map fun x => [.v (str x.fName), .v (str x.A8)]), .sl 1 (r.AT.map fun x => [.v (.int .u8 x.toNat)])]))])) : A6 prog 52 [.p ka0 0, .sl 2 (a1.map fun x => [.v (str x.fName), .v (str x.A8)]), .sl 1 (a2.map fun x => [.v (.int .u8 x.toNat)])] H K := by
 refine Ae (N := 14) func52 (by kernel_rfl) rfl (by kernel_rfl) (by kernel_rfl) fun cb hcb hw hbd hnb => ?_; clear hbd hnb; subst hcb; unfold F52 at h; have P3 : ka0 < H.next := Nat.lt_of_not_le fun q => by rw [hw _ q] at Ao; cases Ao
 refine vcK ?_
 try simp -implicitDefEqProofs (disch := omega) [go_sem, Ao]
 have er := Option.some.inj h; subst er
 try simp -implicitDefEqProofs (disch := omega) [go_sem, Ao]
 refine Az (r' := .tu []) (io1 ka0 (.cells ([.v (str a0.AI), .v (str a0.Bw), .sl 2 (a1.map fun x => [.v (str x.fName), .v (str x.A8)]), .sl 1 (a2.map fun x => [.v (.int .u8 x.toNat)])])) (by exact A9 (Ext.AD (Ext.refl hw) ka0)) (by omega) (by first | with_reducible assumption | rfl | simp -implicitDefEqProofs (disch := omega) [go_sem, Ao]) (by first | exact nbA | exact BJ | exact Bu)) (by first | with_reducible rfl | (simp -implicitDefEqProofs (disch := omega) [go_sem, Ao] <;> omega)) (.same (by first | exact nbA | exact BJ | exact Bu)) hK
noncomputable def F51 (a0 : List UInt8) : Option (S42 × Int) :=
 (F64 ((⟨(⟨a0⟩ : S98)⟩ : AQ))).bind fun (x5 : Except Unit ((List UInt8) × AQ)) => orP x5 (fun (ex5 : Unit) => some (((⟨[], [], [], []⟩ : S42), 220))) (fun (y6 : (List UInt8) × AQ) => (F49 y6.1).bind fun (x7 : Except Unit (S42)) => orP x7 (fun (ex7 : Unit) => some (((⟨[], [], [], []⟩ : S42), 220))) (fun (y8 : S42) => (F65 y6.2).bind fun (x10 : Except Unit ((List (List UInt8 × (List UInt8))) × AQ)) => orP x10 (fun (ex10 : Unit) => some (((⟨[], [], [], []⟩ : S42), 220))) (fun (y11 : (List (List UInt8 × (List UInt8))) × AQ) => (F66 y11.2 y11.1).bind fun (x13 : Except Unit ((List UInt8) × AQ × (List (List UInt8 × (List UInt8))))) => orP x13 (fun (ex13 : Unit) => some (((⟨[], [], [], []⟩ : S42), 220))) (fun (y14 : (List UInt8) × AQ × (List (List UInt8 × (List UInt8)))) => if (y14.2.1.BA.fb.length : Int) = 0 then ((F67 y14.2.2).bind fun (x16 : (List S55)) => (F27 x16 y14.1).bind fun (x17 : Bool) => if x17 = true then ((F67 y14.2.2).bind fun (x20 : (List S55)) => (F52 y8 x20 y14.1).bind fun (x21 : S42) => some (x21, 0)) else (some (((⟨[], [], [], []⟩ : S42), 220)))) else (some (((⟨[], [], [], []⟩ : S42), 220)))))))
set_option maxHeartbeats 8000000 in
set_option pp.deepTerms false in
set_option maxRecDepth 60000 in
theorem Vc {H : A3} {K : AB → A3 → Prop} (a0 : List UInt8) (hV : VOK prog H) {r : S42 × Int} (h : F51 a0 = some r) (hK : K (.ret (.tu [.ag ([.v (str r.1.AI), .v (str r.1.Bw), .sl 2 (r.1.Ax.map fun x => [.v (str x.fName), .v (str x.A8)]), .sl 1 (r.1.AT.map fun x => [.v (.int .u8 x.toNat)])]), .v (.int .i64 r.2)])) H) : A6 prog 51 [.sl 1 (a0.map fun x => [.v (.int .u8 x.toNat)]), .v (.func (.func 49) #[] #[]), .v (.func (.func 52) #[] #[])] H K := by
 refine J_ (N := 45) func51 (by kernel_rfl) rfl (by kernel_rfl) (by kernel_rfl) fun cb hcb hw => ?_; subst hcb; unfold F51 at h; refine G3 fun cb hc1 => ?_; refine GI.of ?_; refine vcK ?_
 try simp -implicitDefEqProofs (disch := omega) [go_sem, bdP]
 subst hc1; refine G3 fun cb hc2 => ?_; refine IU (by kernel_rfl) ?_; simp (decide := true) only [HC, KU, K1]
 try simp -implicitDefEqProofs (disch := omega) [go_sem, bdP]
 subst hc2; refine GI.of ?_; refine A2 fun cb hc3 => ?_; refine vcK ?_
 try simp -implicitDefEqProofs (disch := omega) [go_sem, bdP]
 subst hc3; refine A2 fun cb hc4 => ?_; refine vcK ?_
 try simp -implicitDefEqProofs (disch := omega) [go_sem, bdP]
 obtain ⟨x5, hx5, h⟩ := A5 h; refine A6.eqA (args' := [.p (H.next + 2) 0]) (by first | with_reducible rfl | (simp -implicitDefEqProofs (disch := omega) [go_sem, bdP] <;> omega)) (GS ((⟨(⟨a0⟩ : S98)⟩ : AQ)) (H.next + 2) (by first | with_reducible assumption | simp -implicitDefEqProofs (disch := omega) [go_sem, bdP]) (by first | exact hV.of rfl | exact hV.of ((Ext.refl hw)).sn | exact hV.of (Ext.sn (H := H) (by exact A9 (Ext.refl hw))) | exact (VOK.of hV rfl).tok | exact (VOK.of hV ((Ext.refl hw)).sn).tok | exact (VOK.of hV (Ext.sn (H := H) (by exact A9 (Ext.refl hw)))).tok) hx5 ?_ ?_)
 ·intro ex5 qx5; subst qx5; replace h := Bj h; have er := Option.some.inj h; subst er
  try simp -implicitDefEqProofs (disch := omega) [go_sem, bdP]
  refine CZ ?_; refine Bi.eqA (args' := [.p H.next 0, .p (H.next + 1) 0]) (by first | with_reducible rfl | (simp -implicitDefEqProofs (disch := omega) [go_sem, bdP]; done) | rfl) (G8 H.next (H.next + 1) (.v (str [])) (.v (str [])) (.v (.slice none 0 0)) (.v (.slice none 0 0)) (.v (.int .i64 0)) (by first | with_reducible assumption | simp -implicitDefEqProofs (disch := omega) [go_sem, bdP]) (by first | with_reducible assumption | simp -implicitDefEqProofs (disch := omega) [go_sem, bdP]) (by first | omega | (simp [go_sem]; done) | (simp [go_sem]; omega)) ?_)
  try simp -implicitDefEqProofs (disch := omega) [go_sem, bdP]
  refine Az (J := H) (r' := _) (Ext.CK (by exact A9 (Ext.refl hw))) (by first | with_reducible rfl | (simp -implicitDefEqProofs (disch := omega) [go_sem, bdP] <;> omega)) (.wk _ (.tu [.ag ([.v (str []), .v (str []), .sl 2 (([] : List S55).map fun x => [.v (str x.fName), .v (str x.A8)]), .sl 1 (([] : List UInt8).map fun x => [.v (.int .u8 x.toNat)])]), .v (.int .i64 220)]) (by repeat (first | exact WkL.nil | refine WkL.cons ?_ ?_ | exact Wk.refl _ | exact Wk.nil _ | refine Wk.agL ?_ | refine Wk.tuL ?_ | (refine Wk.eqv ?_; focus (simp -implicitDefEqProofs (disch := omega) [go_sem, str]; done)))) (by first | exact nbA | exact BJ | exact Bu)) hK
 intro y6 qx5; subst qx5; replace h := Bt h
 try simp -implicitDefEqProofs (disch := omega) [go_sem, bdP]
 obtain ⟨x7, hx7, h⟩ := A5 h; refine A6.eqA (args' := [.v (str y6.1)]) (by first | with_reducible rfl | (simp -implicitDefEqProofs (disch := omega) [go_sem, bdP] <;> omega)) (Va y6.1 (by first | exact hV.of rfl | exact hV.of ((Ext.refl hw)).sn | exact hV.of (Ext.sn (H := H) (by exact A9 (Ext.refl hw))) | exact (VOK.of hV rfl).tok | exact (VOK.of hV ((Ext.refl hw)).sn).tok | exact (VOK.of hV (Ext.sn (H := H) (by exact A9 (Ext.refl hw)))).tok) hx7 ?_ ?_)
 ·intro ex7 qx7; subst qx7; replace h := Bj h; have er := Option.some.inj h; subst er
  try simp -implicitDefEqProofs (disch := omega) [go_sem, bdP]
  refine CZ ?_; refine Bi.eqA (args' := [.p H.next 0, .p (H.next + 1) 0]) (by first | with_reducible rfl | (simp -implicitDefEqProofs (disch := omega) [go_sem, bdP]; done) | rfl) (G8 H.next (H.next + 1) (.v (str [])) (.v (str [])) (.v (.slice none 0 0)) (.v (.slice none 0 0)) (.v (.int .i64 0)) (by first | with_reducible assumption | simp -implicitDefEqProofs (disch := omega) [go_sem, bdP]) (by first | with_reducible assumption | simp -implicitDefEqProofs (disch := omega) [go_sem, bdP]) (by first | omega | (simp [go_sem]; done) | (simp [go_sem]; omega)) ?_)
  try simp -implicitDefEqProofs (disch := omega) [go_sem, bdP]
  refine Az (J := H) (r' := _) (Ext.CK (by exact A9 (Ext.refl hw))) (by first | with_reducible rfl | (simp -implicitDefEqProofs (disch := omega) [go_sem, bdP] <;> omega)) (.wk _ (.tu [.ag ([.v (str []), .v (str []), .sl 2 (([] : List S55).map fun x => [.v (str x.fName), .v (str x.A8)]), .sl 1 (([] : List UInt8).map fun x => [.v (.int .u8 x.toNat)])]), .v (.int .i64 220)]) (by repeat (first | exact WkL.nil | refine WkL.cons ?_ ?_ | exact Wk.refl _ | exact Wk.nil _ | refine Wk.agL ?_ | refine Wk.tuL ?_ | (refine Wk.eqv ?_; focus (simp -implicitDefEqProofs (disch := omega) [go_sem, str]; done)))) (by first | exact nbA | exact BJ | exact Bu)) hK
 intro y8 qx7; subst qx7; replace h := Bt h
 try simp -implicitDefEqProofs (disch := omega) [go_sem, bdP]
 subst hc4; refine A2 fun cb hc9 => ?_; refine vcK ?_
 try simp -implicitDefEqProofs (disch := omega) [go_sem, bdP]
 obtain ⟨x10, hx10, h⟩ := A5 h; refine A6.eqA (args' := [.p (H.next + 2) 0]) (by first | with_reducible rfl | (simp -implicitDefEqProofs (disch := omega) [go_sem, bdP] <;> omega)) (QA y6.2 (H.next + 2) (by first | with_reducible assumption | simp -implicitDefEqProofs (disch := omega) [go_sem, bdP]) (by first | exact hV.of rfl | exact hV.of ((Ext.refl hw)).sn | exact hV.of (Ext.sn (H := H) (by exact A9 (Ext.refl hw))) | exact (VOK.of hV rfl).tok | exact (VOK.of hV ((Ext.refl hw)).sn).tok | exact (VOK.of hV (Ext.sn (H := H) (by exact A9 (Ext.refl hw)))).tok) hx10 ?_ ?_)
 ·intro ex10 qx10; subst qx10; replace h := Bj h; have er := Option.some.inj h; subst er
  try simp -implicitDefEqProofs (disch := omega) [go_sem, bdP]
  refine CZ ?_; refine Bi.eqA (args' := [.p H.next 0, .p (H.next + 1) 0]) (by first | with_reducible rfl | (simp -implicitDefEqProofs (disch := omega) [go_sem, bdP]; done) | rfl) (G8 H.next (H.next + 1) (.v (str y8.AI)) (.v (str y8.Bw)) (.sl 2 (y8.Ax.map fun x => [.v (str x.fName), .v (str x.A8)])) (.sl 1 (y8.AT.map fun x => [.v (.int .u8 x.toNat)])) (.v (.int .i64 0)) (by first | with_reducible assumption | simp -implicitDefEqProofs (disch := omega) [go_sem, bdP]) (by first | with_reducible assumption | simp -implicitDefEqProofs (disch := omega) [go_sem, bdP]) (by first | omega | (simp [go_sem]; done) | (simp [go_sem]; omega)) ?_)
  try simp -implicitDefEqProofs (disch := omega) [go_sem, bdP]
  refine Az (J := H) (r' := _) (Ext.CK (by exact A9 (Ext.refl hw))) (by first | with_reducible rfl | (simp -implicitDefEqProofs (disch := omega) [go_sem, bdP] <;> omega)) (.wk _ (.tu [.ag ([.v (str []), .v (str []), .sl 2 (([] : List S55).map fun x => [.v (str x.fName), .v (str x.A8)]), .sl 1 (([] : List UInt8).map fun x => [.v (.int .u8 x.toNat)])]), .v (.int .i64 220)]) (by repeat (first | exact WkL.nil | refine WkL.cons ?_ ?_ | exact Wk.refl _ | exact Wk.nil _ | refine Wk.agL ?_ | refine Wk.tuL ?_ | (refine Wk.eqv ?_; focus (simp -implicitDefEqProofs (disch := omega) [go_sem, str]; done)))) (by first | exact nbA | exact BJ | exact Bu)) hK
 intro y11 qx10; subst qx10; replace h := Bt h
 try simp -implicitDefEqProofs (disch := omega) [go_sem, bdP]
 subst hc9; refine A2 fun cb hc12 => ?_; refine vcK ?_
 try simp -implicitDefEqProofs (disch := omega) [go_sem, bdP]
 obtain ⟨x13, hx13, h⟩ := A5 h; refine A6.eqA (args' := [.p (H.next + 2) 0, .mp (H.next + 3)]) (by first | with_reducible rfl | (simp -implicitDefEqProofs (disch := omega) [go_sem, bdP] <;> omega)) (QC y11.2 y11.1 (H.next + 2) (H.next + 3) (by first | with_reducible assumption | simp -implicitDefEqProofs (disch := omega) [go_sem, bdP]) (by first | with_reducible assumption | simp -implicitDefEqProofs (disch := omega) [go_sem, bdP]) (by first | exact hV.of rfl | exact hV.of ((Ext.refl hw)).sn | exact hV.of (Ext.sn (H := H) (by exact A9 (Ext.refl hw))) | exact (VOK.of hV rfl).tok | exact (VOK.of hV ((Ext.refl hw)).sn).tok | exact (VOK.of hV (Ext.sn (H := H) (by exact A9 (Ext.refl hw)))).tok) hx13 ?_ ?_)
 ·intro ex13 qx13; subst qx13; replace h := Bj h; have er := Option.some.inj h; subst er
  try simp -implicitDefEqProofs (disch := omega) [go_sem, bdP]
  refine CZ ?_; refine Bi.eqA (args' := [.p H.next 0, .p (H.next + 1) 0]) (by first | with_reducible rfl | (simp -implicitDefEqProofs (disch := omega) [go_sem, bdP]; done) | rfl) (G8 H.next (H.next + 1) (.v (str y8.AI)) (.v (str y8.Bw)) (.sl 2 (y8.Ax.map fun x => [.v (str x.fName), .v (str x.A8)])) (.sl 1 (y8.AT.map fun x => [.v (.int .u8 x.toNat)])) (.v (.int .i64 0)) (by first | with_reducible assumption | simp -implicitDefEqProofs (disch := omega) [go_sem, bdP]) (by first | with_reducible assumption | simp -implicitDefEqProofs (disch := omega) [go_sem, bdP]) (by first | omega | (simp [go_sem]; done) | (simp [go_sem]; omega)) ?_)
  try simp -implicitDefEqProofs (disch := omega) [go_sem, bdP]
  refine Az (J := H) (r' := _) (Ext.CK (by exact A9 (Ext.refl hw))) (by first | with_reducible rfl | (simp -implicitDefEqProofs (disch := omega) [go_sem, bdP] <;> omega)) (.wk _ (.tu [.ag ([.v (str []), .v (str []), .sl 2 (([] : List S55).map fun x => [.v (str x.fName), .v (str x.A8)]), .sl 1 (([] : List UInt8).map fun x => [.v (.int .u8 x.toNat)])]), .v (.int .i64 220)]) (by repeat (first | exact WkL.nil | refine WkL.cons ?_ ?_ | exact Wk.refl _ | exact Wk.nil _ | refine Wk.agL ?_ | refine Wk.tuL ?_ | (refine Wk.eqv ?_; focus (simp -implicitDefEqProofs (disch := omega) [go_sem, str]; done)))) (by first | exact nbA | exact BJ | exact Bu)) hK
 intro y14 qx13; subst qx13; replace h := Bt h
 try simp -implicitDefEqProofs (disch := omega) [go_sem, bdP]
 subst hc12; refine A2 fun cb hc15 => ?_; refine vcK ?_
 try simp -implicitDefEqProofs (disch := omega) [go_sem, bdP]
 refine A7 h (by first | with_reducible rfl | (simp -implicitDefEqProofs (disch := omega) [go_sem, bdP] <;> omega)) ?_ ?_
 ·intro c23 h
  try simp (disch := omega) at c23
  try simp -implicitDefEqProofs (disch := omega) [go_sem, bdP]
  obtain ⟨x16, hx16, h⟩ := A5 h; refine A6.eqA (args' := [.mp (H.next + 3)]) (by first | with_reducible rfl | (simp -implicitDefEqProofs (disch := omega) [go_sem, bdP] <;> omega)) (Lw y14.2.2 (H.next + 3) (by first | with_reducible assumption | simp -implicitDefEqProofs (disch := omega) [go_sem, bdP]) hx16 ?_)
  try simp -implicitDefEqProofs (disch := omega) [go_sem, bdP]
  obtain ⟨x17, hx17, h⟩ := A5 h; refine A6.eqA (args' := [.sl 2 (x16.map fun x => [.v (str x.fName), .v (str x.A8)]), .sl 1 (y14.1.map fun x => [.v (.int .u8 x.toNat)])]) (by first | with_reducible rfl | (simp -implicitDefEqProofs (disch := omega) [go_sem, bdP] <;> omega)) (NJ x16 y14.1 hx17 ?_)
  try simp -implicitDefEqProofs (disch := omega) [go_sem, bdP]
  refine A6.eqA (args' := [.v (.bool x17)]) (by first | with_reducible rfl | (simp -implicitDefEqProofs (disch := omega) [go_sem, bdP] <;> omega)) ?_; by_cases m18 : ¬ (x17 = true)
  ·rw [if_neg m18] at h; refine BK  (by first | simpa using m18 | exact Bool.eq_false_iff.2 (fun q => m18 (by simpa using q))) ?_
   try simp (disch := omega) at m18
   have er := Option.some.inj h; subst er
   try simp -implicitDefEqProofs (disch := omega) [go_sem, bdP]
   refine CZ ?_; refine Bi.eqA (args' := [.p H.next 0, .p (H.next + 1) 0]) (by first | with_reducible rfl | (simp -implicitDefEqProofs (disch := omega) [go_sem, bdP]; done) | rfl) (G8 H.next (H.next + 1) (.v (str y8.AI)) (.v (str y8.Bw)) (.sl 2 (y8.Ax.map fun x => [.v (str x.fName), .v (str x.A8)])) (.sl 1 (y8.AT.map fun x => [.v (.int .u8 x.toNat)])) (.v (.int .i64 0)) (by first | with_reducible assumption | simp -implicitDefEqProofs (disch := omega) [go_sem, bdP]) (by first | with_reducible assumption | simp -implicitDefEqProofs (disch := omega) [go_sem, bdP]) (by first | omega | (simp [go_sem]; done) | (simp [go_sem]; omega)) ?_)
   try simp -implicitDefEqProofs (disch := omega) [go_sem, bdP]
   refine Az (J := H) (r' := _) (Ext.CK (by exact A9 (Ext.refl hw))) (by first | with_reducible rfl | (simp -implicitDefEqProofs (disch := omega) [go_sem, bdP] <;> omega)) (.wk _ (.tu [.ag ([.v (str []), .v (str []), .sl 2 (([] : List S55).map fun x => [.v (str x.fName), .v (str x.A8)]), .sl 1 (([] : List UInt8).map fun x => [.v (.int .u8 x.toNat)])]), .v (.int .i64 220)]) (by repeat (first | exact WkL.nil | refine WkL.cons ?_ ?_ | exact Wk.refl _ | exact Wk.nil _ | refine Wk.agL ?_ | refine Wk.tuL ?_ | (refine Wk.eqv ?_; focus (simp -implicitDefEqProofs (disch := omega) [go_sem, str]; done)))) (by first | exact nbA | exact BJ | exact Bu)) hK
  have m18 := Classical.not_not.1 m18; rw [if_pos m18] at h; refine Dv  (by simpa using m18) ?_
  try simp (disch := omega) at m18
  try simp -implicitDefEqProofs (disch := omega) [go_sem, bdP]
  subst hc15; refine A2 fun cb hc19 => ?_; refine vcK ?_
  try simp -implicitDefEqProofs (disch := omega) [go_sem, bdP]
  obtain ⟨x20, hx20, h⟩ := A5 h; refine A6.eqA (args' := [.mp (H.next + 3)]) (by first | with_reducible rfl | (simp -implicitDefEqProofs (disch := omega) [go_sem, bdP] <;> omega)) (Lw y14.2.2 (H.next + 3) (by first | with_reducible assumption | simp -implicitDefEqProofs (disch := omega) [go_sem, bdP]) hx20 ?_)
  try simp -implicitDefEqProofs (disch := omega) [go_sem, bdP]
  obtain ⟨x21, hx21, h⟩ := A5 h; refine A6.eqA (args' := [.p H.next 0, .sl 2 (x20.map fun x => [.v (str x.fName), .v (str x.A8)]), .sl 1 (y14.1.map fun x => [.v (.int .u8 x.toNat)])]) (by first | with_reducible rfl | (simp -implicitDefEqProofs (disch := omega) [go_sem, bdP] <;> omega)) (Vb y8 x20 y14.1 H.next (by first | with_reducible assumption | simp -implicitDefEqProofs (disch := omega) [go_sem, bdP]) hx21 ?_)
  try simp -implicitDefEqProofs (disch := omega) [go_sem, bdP]
  subst hc19; refine A2 fun cb hc22 => ?_; refine vcK ?_
  try simp -implicitDefEqProofs (disch := omega) [go_sem, bdP]
  subst hc22; refine vcK ?_; simp -implicitDefEqProofs only [go_sem]; have er := Option.some.inj h; subst er
  try simp -implicitDefEqProofs (disch := omega) [go_sem, bdP]
  refine Oa ?_; refine Bi.eqA (args' := [.p H.next 0, .p (H.next + 1) 0]) (by first | with_reducible rfl | (simp -implicitDefEqProofs (disch := omega) [go_sem, bdP]; done) | rfl) (Sy ?_)
  try simp -implicitDefEqProofs (disch := omega) [go_sem, bdP]
  refine A4 (by exact A9 (Ext.refl hw)) (by first | with_reducible rfl | (simp -implicitDefEqProofs (disch := omega) [go_sem, bdP] <;> omega)) nbA hK
 ·intro c23 h
  try simp (disch := omega) at c23
  try simp -implicitDefEqProofs (disch := omega) [go_sem, bdP]
  refine A6.eqA (args' := [.v (.bool false)]) (by first | with_reducible rfl | (simp -implicitDefEqProofs (disch := omega) [go_sem, bdP] <;> omega)) (BK  rfl ?_); have er := Option.some.inj h; subst er
  try simp -implicitDefEqProofs (disch := omega) [go_sem, bdP]
  refine CZ ?_; refine Bi.eqA (args' := [.p H.next 0, .p (H.next + 1) 0]) (by first | with_reducible rfl | (simp -implicitDefEqProofs (disch := omega) [go_sem, bdP]; done) | rfl) (G8 H.next (H.next + 1) (.v (str y8.AI)) (.v (str y8.Bw)) (.sl 2 (y8.Ax.map fun x => [.v (str x.fName), .v (str x.A8)])) (.sl 1 (y8.AT.map fun x => [.v (.int .u8 x.toNat)])) (.v (.int .i64 0)) (by first | with_reducible assumption | simp -implicitDefEqProofs (disch := omega) [go_sem, bdP]) (by first | with_reducible assumption | simp -implicitDefEqProofs (disch := omega) [go_sem, bdP]) (by first | omega | (simp [go_sem]; done) | (simp [go_sem]; omega)) ?_)
  try simp -implicitDefEqProofs (disch := omega) [go_sem, bdP]
  refine Az (J := H) (r' := _) (Ext.CK (by exact A9 (Ext.refl hw))) (by first | with_reducible rfl | (simp -implicitDefEqProofs (disch := omega) [go_sem, bdP] <;> omega)) (.wk _ (.tu [.ag ([.v (str []), .v (str []), .sl 2 (([] : List S55).map fun x => [.v (str x.fName), .v (str x.A8)]), .sl 1 (([] : List UInt8).map fun x => [.v (.int .u8 x.toNat)])]), .v (.int .i64 220)]) (by repeat (first | exact WkL.nil | refine WkL.cons ?_ ?_ | exact Wk.refl _ | exact Wk.nil _ | refine Wk.agL ?_ | refine Wk.tuL ?_ | (refine Wk.eqv ?_; focus (simp -implicitDefEqProofs (disch := omega) [go_sem, str]; done)))) (by first | exact nbA | exact BJ | exact Bu)) hK
noncomputable def F20 (a0 : List UInt8) : Option (Except Unit (S42 × Int)) :=
 (F51 a0).bind fun (x4 : S42 × Int) => some ((.ok (x4.1, x4.2)))
set_option maxHeartbeats 8000000 in
set_option pp.deepTerms false in
set_option maxRecDepth 60000 in
theorem Vd {H : A3} {K : AB → A3 → Prop} (a0 : List UInt8) (hV : VOK prog H) {r : Except Unit (S42 × Int)} (h : F20 a0 = some r) (hP : ∀ e, r = .error e → K (.pan (CX e)) H) (hK : ∀ v : S42 × Int, r = .ok v → K (.ret (.tu [.ag ([.v (str v.1.AI), .v (str v.1.Bw), .sl 2 (v.1.Ax.map fun x => [.v (str x.fName), .v (str x.A8)]), .sl 1 (v.1.AT.map fun x => [.v (.int .u8 x.toNat)])]), .v (.int .i64 v.2)])) H) : A6 prog 20 [.sl 1 (a0.map fun x => [.v (.int .u8 x.toNat)])] H K := by
 refine Ae (N := 10) func20 (by kernel_rfl) rfl (by kernel_rfl) (by kernel_rfl) fun cb hcb hw hbd hnb => ?_; clear hbd hnb; subst hcb; unfold F20 at h; refine A2 fun cb hc1 => ?_; refine vcK ?_
 try simp -implicitDefEqProofs (disch := omega) [go_sem]
 subst hc1; refine A2 fun cb hc2 => ?_; refine vcK ?_
 try simp -implicitDefEqProofs (disch := omega) [go_sem]
 subst hc2; refine A2 fun cb hc3 => ?_; refine vcK ?_
 try simp -implicitDefEqProofs (disch := omega) [go_sem]
 obtain ⟨x4, hx4, h⟩ := A5 h; refine A6.eqA (args' := [.sl 1 (a0.map fun x => [.v (.int .u8 x.toNat)]), .v (.func (.func 49) #[] #[]), .v (.func (.func 52) #[] #[])]) (by first | with_reducible rfl | (simp -implicitDefEqProofs (disch := omega) [go_sem] <;> omega)) (Vc a0 (by first | exact hV.of rfl | exact hV.of ((Ext.refl hw)).sn | exact hV.of (Ext.sn (H := H) (by exact A9 (Ext.refl hw))) | exact (VOK.of hV rfl).tok | exact (VOK.of hV ((Ext.refl hw)).sn).tok | exact (VOK.of hV (Ext.sn (H := H) (by exact A9 (Ext.refl hw)))).tok) hx4 ?_)
 try simp -implicitDefEqProofs (disch := omega) [go_sem]
 subst hc3; refine vcK ?_; simp -implicitDefEqProofs only [go_sem]; have er := Option.some.inj h; subst er
 try simp -implicitDefEqProofs (disch := omega) [go_sem]
 refine A4 (by exact A9 (Ext.refl hw)) (by first | with_reducible rfl | (simp -implicitDefEqProofs (disch := omega) [go_sem] <;> omega)) nbA (hK _ rfl)
noncomputable def Io (v4 : Int) (v5 : List UInt8) : Option ((Int × (List UInt8)) ⊕ (List UInt8)) :=
 gd (0 ≤ (IntKind.u8.wrap (IntKind.i64.wrap (48 + (v4.tmod 10)))) ∧ (IntKind.u8.wrap (IntKind.i64.wrap (48 + (v4.tmod 10)))) ≤ 255) (gd (((([UInt8.ofNat (IntKind.u8.wrap (IntKind.i64.wrap (48 + (v4.tmod 10)))).toNat] : List UInt8)).length : Int) + v5.length ≤ 9223372036854775807) (if (IntKind.i64.wrap (v4.tdiv 10)) = 0 then (some (.inr ((([UInt8.ofNat (IntKind.u8.wrap (IntKind.i64.wrap (48 + (v4.tmod 10)))).toNat] : List UInt8)) ++ v5))) else (some (.inl ((IntKind.i64.wrap (v4.tdiv 10), (([UInt8.ofNat (IntKind.u8.wrap (IntKind.i64.wrap (48 + (v4.tmod 10)))).toNat] : List UInt8)) ++ v5))))))
noncomputable def F39 (a0 : Int) : Option (List UInt8) :=
 (AH (fun (s : Int × (List UInt8)) => Io s.1 s.2) (a0, [])).bind fun (q : (List UInt8)) => some q
set_option maxHeartbeats 8000000 in
set_option pp.deepTerms false in
set_option maxRecDepth 60000 in
theorem Ve {H : A3} {K : AB → A3 → Prop} (a0 : Int) {r : (List UInt8)} (h : F39 a0 = some r) (hK : K (.ret (.v (str r))) H) : A6 prog 39 [.v (.int .i64 a0)] H K := by
 refine Ae (N := 17) func39 (by kernel_rfl) rfl (by kernel_rfl) (by kernel_rfl) fun cb hcb hw hbd hnb => ?_; clear hbd hnb; subst hcb; unfold F39 at h; refine A2 fun cb hc1 => ?_; refine vcK ?_
 try simp -implicitDefEqProofs (disch := omega) [go_sem]
 subst hc1; refine A2 fun cb hc2 => ?_; refine vcK ?_
 try simp -implicitDefEqProofs (disch := omega) [go_sem]
 subst hc2; obtain ⟨y3, hl3q, hk3⟩ := A5 h; refine Ai ?_; refine AF (fun (s : Int × (List UInt8)) tm' H' => H = H' ∧ tm' 0 = .v (.int .i64 s.1) ∧ tm' 3 = .v (str s.2)) hl3q ?_ ?_
 ·refine .same ⟨rfl, ?_, ?_⟩ <;> first | with_reducible rfl | with_reducible assumption | (simp -implicitDefEqProofs (disch := omega) [go_sem] <;> omega)
 ·rintro I3 hI3 ⟨v4, v5⟩ x3 tm3 H3 ⟨rfl, Aw, B6⟩ h hret3
  replace h : Io v4 v5 = some x3 := h; unfold Io at h; refine Ai ?_; refine A2 fun cb hc6 => ?_; refine vcK ?_; obtain ⟨g7, h⟩ := Ab.1 h
  try simp (disch := omega) at g7
  obtain ⟨g8, h⟩ := Ab.1 h
  try simp (disch := omega) at g8
  try simp -implicitDefEqProofs (disch := omega) [go_sem] at g7
  try simp -implicitDefEqProofs (disch := omega) [go_sem] at g8
  try simp -implicitDefEqProofs (disch := omega) [go_sem, Aw, B6]
  subst hc6; refine A2 fun cb hc9 => ?_; refine vcK ?_
  try simp -implicitDefEqProofs (disch := omega) [go_sem, Aw, B6]
  subst hc9; refine A2 fun cb hc10 => ?_; refine vcK ?_
  try simp -implicitDefEqProofs (disch := omega) [go_sem, Aw, B6]
  subst hc10; refine Ac h (by first | with_reducible rfl | (simp -implicitDefEqProofs (disch := omega) [go_sem, Aw, B6] <;> omega)) rfl ?_ ?_
  ·intro c11 h
   try simp (disch := omega) at c11
   refine A2 fun cb hc12 => ?_; refine vcK ?_
   try simp -implicitDefEqProofs (disch := omega) [go_sem, Aw, B6]
   subst hc12; refine vcK ?_; simp -implicitDefEqProofs only [go_sem]; have e3 := Option.some.inj h; subst e3; have e3 := hret3 _ rfl; subst e3; replace h : some ((([UInt8.ofNat (IntKind.u8.wrap (IntKind.i64.wrap (48 + (v4.tmod 10)))).toNat] : List UInt8)) ++ v5) = some r := hk3; have er := Option.some.inj h; subst er
   try simp -implicitDefEqProofs (disch := omega) [go_sem, Aw, B6]
   refine A4 (by exact A9 (Ext.refl hw)) (by first | with_reducible rfl | (simp -implicitDefEqProofs (disch := omega) [go_sem, Aw, B6] <;> omega)) nbA hK
  ·intro c11 h
   try simp (disch := omega) at c11
   refine vcK ?_; simp -implicitDefEqProofs only [go_sem]; have e3 := Option.some.inj h; subst e3; refine Au hI3 ((IntKind.i64.wrap (v4.tdiv 10), (([UInt8.ofNat (IntKind.u8.wrap (IntKind.i64.wrap (48 + (v4.tmod 10)))).toNat] : List UInt8)) ++ v5)) ?_; refine .same ⟨rfl, ?_, ?_⟩ <;> first | with_reducible rfl | with_reducible assumption | (simp -implicitDefEqProofs (disch := omega) [go_sem, Aw, B6] <;> omega)
end Go.Idl
namespace Go.Idl
open Go Go.Proofs.Tryz
noncomputable def LG  : Option Bool :=
 some true
noncomputable def Ip (a0 : List S55) (a1 : List S55) (v9 : Int) : Option (Int ⊕ (Unit ⊕ Bool)) :=
 if v9 < (a0.length : Int) then (gd (0 ≤ v9 ∧ v9 < a0.length) (gd (0 ≤ v9 ∧ v9 < a1.length) (if ¬ (((a0.getD v9.toNat S55.zero).fName) = ((a1.getD v9.toNat S55.zero).fName) ∧ ((a0.getD v9.toNat S55.zero).A8) = ((a1.getD v9.toNat S55.zero).A8)) then (some (.inr (.inr false))) else (some (.inl (IntKind.i64.wrap (v9 + 1))))))) else (some (.inr (.inl ())))
noncomputable def F40 (a0 : List S55) (a1 : List S55) : Option Bool :=
 if ¬ (a0.length : Int) = (a1.length : Int) then (some false) else ((AH (fun (s : Int) => Ip a0 a1 s) 0).bind fun y => Sum.elim (fun (e : Unit) => LG) (fun (q : Bool) => some q) y)
set_option maxHeartbeats 8000000 in
set_option pp.deepTerms false in
set_option maxRecDepth 60000 in
theorem QJ {H : A3} {K : AB → A3 → Prop} (a0 : List S55) (a1 : List S55) {r : Bool} (h : F40 a0 a1 = some r) (hK : K (.ret (.v (.bool r))) H) : A6 prog 40 [.sl 2 (a0.map fun x => [.v (str x.fName), .v (str x.A8)]), .sl 2 (a1.map fun x => [.v (str x.fName), .v (str x.A8)])] H K := by
 refine Ae (N := 26) func40 (by kernel_rfl) rfl (by kernel_rfl) (by kernel_rfl) fun cb hcb hw hbd hnb => ?_; clear hbd hnb; subst hcb; unfold F40 at h; refine A2 fun cb hc1 => ?_; refine vcK ?_
 try simp -implicitDefEqProofs (disch := omega) [go_sem]
 subst hc1; refine A2 fun cb hc2 => ?_; refine A2 fun cb hc3 => ?_; refine vcK ?_
 try simp -implicitDefEqProofs (disch := omega) [go_sem]
 subst hc3; refine Ac h (by first | with_reducible rfl | (simp -implicitDefEqProofs (disch := omega) [go_sem] <;> omega)) rfl ?_ ?_
 ·intro c4 h
  try simp (disch := omega) at c4
  refine A2 fun cb hc5 => ?_; refine vcK ?_
  try simp -implicitDefEqProofs (disch := omega) [go_sem]
  subst hc5; refine vcK ?_; simp -implicitDefEqProofs only [go_sem]; have er := Option.some.inj h; subst er
  try simp -implicitDefEqProofs (disch := omega) [go_sem]
  refine A4 (by exact A9 (Ext.refl hw)) (by first | with_reducible rfl | (simp -implicitDefEqProofs (disch := omega) [go_sem] <;> omega)) nbA hK
 ·intro c4 h
  try simp (disch := omega) at c4
  refine vcK ?_; simp -implicitDefEqProofs only [go_sem]; subst hc2; refine A2 fun cb hc6 => ?_; refine A2 fun cb hc7 => ?_; refine vcK ?_
  try simp -implicitDefEqProofs (disch := omega) [go_sem]
  subst hc7; obtain ⟨y8, hl8q, hk8⟩ := A5 h; refine Bk (fun tm' H' => .inl () = y8 ∧ H = H') ?_ fun cb hc8 => ?_
  ·rintro tm8e H8e ⟨rfl, rfl⟩
   have h : LG = some r := hk8; unfold LG at h; simp -implicitDefEqProofs only [go_sem]; subst hc6; refine A2 fun cb hc10 => ?_; refine vcK ?_
   try simp -implicitDefEqProofs (disch := omega) [go_sem]
   subst hc10; refine vcK ?_; simp -implicitDefEqProofs only [go_sem]; have er := Option.some.inj h; subst er
   try simp -implicitDefEqProofs (disch := omega) [go_sem]
   refine A4 (by exact A9 (Ext.refl hw)) (by first | with_reducible rfl | (simp -implicitDefEqProofs (disch := omega) [go_sem] <;> omega)) nbA hK
  ·refine Ai ?_; refine AF (fun (s : Int) tm' H' => H = H' ∧ tm' 0 = .sl 2 (a0.map fun x => [.v (str x.fName), .v (str x.A8)]) ∧ tm' 1 = .sl 2 (a1.map fun x => [.v (str x.fName), .v (str x.A8)]) ∧ tm' 5 = .v (.int .i64 s)) hl8q ?_ ?_
   ·refine .same ⟨rfl, ?_, ?_, ?_⟩ <;> first | with_reducible rfl | with_reducible assumption | (simp -implicitDefEqProofs (disch := omega) [go_sem] <;> omega)
   ·rintro I8 hI8 v9 x8 tm8 H8 ⟨rfl, LH, LI, LJ⟩ h hret8
    replace h : Ip a0 a1 v9 = some x8 := h; unfold Ip at h; refine A2 fun cb hc11 => ?_; refine A2 fun cb hc12 => ?_; refine vcK ?_
    try simp -implicitDefEqProofs (disch := omega) [go_sem, LH, LI, LJ]
    subst hc12; refine Ac h (by first | with_reducible rfl | (simp -implicitDefEqProofs (disch := omega) [go_sem, LH, LI, LJ] <;> omega)) rfl ?_ ?_
    ·intro c13 h
     try simp (disch := omega) at c13
     refine vcK ?_; simp -implicitDefEqProofs only [go_sem]; subst hc11; refine A2 fun cb hc14 => ?_; refine Ai ?_; refine A2 fun cb hc15 => ?_; refine Ck [] [0, 1, 2, 3, 4, 5, 6, 7, 8] (by kernel_rfl) (by kernel_rfl) (fun _ _ _ _ h => h) ?_; obtain ⟨g16, h⟩ := Ab.1 h
     try simp (disch := omega) at g16
     obtain ⟨g17, h⟩ := Ab.1 h
     try simp (disch := omega) at g17
     try simp -implicitDefEqProofs (disch := omega) [go_sem, LH, LI, LJ]
     subst hc15; refine Ac h (by first | with_reducible rfl | (simp -implicitDefEqProofs (disch := omega) [go_sem, LH, LI, LJ] <;> omega)) rfl ?_ ?_
     ·intro c18 h
      try simp (disch := omega) at c18
      refine A2 fun cb hc19 => ?_; refine vcK ?_
      try simp -implicitDefEqProofs (disch := omega) [go_sem, LH, LI, LJ]
      subst hc19; refine vcK ?_; simp -implicitDefEqProofs only [go_sem]; have e8 := Option.some.inj h; subst e8; have e8 := hret8 _ rfl; subst e8; replace h : some false = some r := hk8; have er := Option.some.inj h; subst er
      try simp -implicitDefEqProofs (disch := omega) [go_sem, LH, LI, LJ]
      refine A4 (by exact A9 (Ext.refl hw)) (by first | with_reducible rfl | (simp -implicitDefEqProofs (disch := omega) [go_sem, LH, LI, LJ] <;> omega)) nbA hK
     ·intro c18 h
      try simp (disch := omega) at c18
      refine vcK ?_; simp -implicitDefEqProofs only [go_sem]; subst hc14; refine vcK ?_
      try simp -implicitDefEqProofs (disch := omega) [go_sem, LH, LI, LJ]
      have e8 := Option.some.inj h; subst e8; refine Au hI8 (IntKind.i64.wrap (v9 + 1)) ?_; refine .same ⟨rfl, ?_, ?_, ?_⟩ <;> first | with_reducible rfl | with_reducible assumption | (simp -implicitDefEqProofs (disch := omega) [go_sem, LH, LI, LJ] <;> omega)
    ·intro c13 h
     try simp (disch := omega) at c13
     refine vcK ?_; simp -implicitDefEqProofs only [go_sem]; have e8 := Option.some.inj h; subst e8; have hy8 := hret8 _ rfl; refine hc8 _ _ ?_; refine .same ⟨hy8, rfl⟩
noncomputable def F22 (a0 : S42) (a1 : S42) : Option Bool :=
 if a0.AI = a1.AI then (if a0.Bw = a1.Bw then ((F40 a0.Ax a1.Ax).bind fun (x3 : Bool) => if x3 = true then (some (decide (a0.AT = a1.AT))) else (some false)) else (some false)) else (some false)
set_option maxHeartbeats 8000000 in
set_option pp.deepTerms false in
set_option maxRecDepth 60000 in
theorem QK {H : A3} {K : AB → A3 → Prop} (a0 : S42) (a1 : S42) {r : Bool} (h : F22 a0 a1 = some r) (hK : K (.ret (.v (.bool r))) H) : A6 prog 22 [.ag ([.v (str a0.AI), .v (str a0.Bw), .sl 2 (a0.Ax.map fun x => [.v (str x.fName), .v (str x.A8)]), .sl 1 (a0.AT.map fun x => [.v (.int .u8 x.toNat)])]), .ag ([.v (str a1.AI), .v (str a1.Bw), .sl 2 (a1.Ax.map fun x => [.v (str x.fName), .v (str x.A8)]), .sl 1 (a1.AT.map fun x => [.v (.int .u8 x.toNat)])])] H K := by
 refine Ae (N := 33) func22 (by kernel_rfl) rfl (by kernel_rfl) (by kernel_rfl) fun cb hcb hw hbd hnb => ?_; clear hbd hnb; subst hcb; unfold F22 at h; refine A2 fun cb hc1 => ?_; refine vcK ?_
 try simp -implicitDefEqProofs (disch := omega) [go_sem]
 subst hc1; refine A2 fun cb hc2 => ?_; refine vcK ?_
 try simp -implicitDefEqProofs (disch := omega) [go_sem]
 refine A7 h (by first | with_reducible rfl | (simp -implicitDefEqProofs (disch := omega) [go_sem] <;> omega)) ?_ ?_
 ·intro c6 h
  try simp (disch := omega) at c6
  try simp -implicitDefEqProofs (disch := omega) [go_sem]
  refine A7 h (by first | with_reducible rfl | (simp -implicitDefEqProofs (disch := omega) [go_sem] <;> omega)) ?_ ?_
  ·intro c5 h
   try simp (disch := omega) at c5
   try simp -implicitDefEqProofs (disch := omega) [go_sem]
   obtain ⟨x3, hx3, h⟩ := A5 h; refine A6.eqA (args' := [.sl 2 (a0.Ax.map fun x => [.v (str x.fName), .v (str x.A8)]), .sl 2 (a1.Ax.map fun x => [.v (str x.fName), .v (str x.A8)])]) (by first | with_reducible rfl | (simp -implicitDefEqProofs (disch := omega) [go_sem] <;> omega)) (QJ a0.Ax a1.Ax hx3 ?_)
   try simp -implicitDefEqProofs (disch := omega) [go_sem]
   refine A7 h (by first | with_reducible rfl | (simp -implicitDefEqProofs (disch := omega) [go_sem] <;> omega)) ?_ ?_
   ·intro c4 h
    try simp (disch := omega) at c4
    try simp -implicitDefEqProofs (disch := omega) [go_sem]
    subst hc2; refine vcK ?_; simp -implicitDefEqProofs only [go_sem]; have er := Option.some.inj h; subst er
    try simp -implicitDefEqProofs (disch := omega) [go_sem]
    refine A4 (by exact A9 (Ext.refl hw)) (by first | with_reducible rfl | (simp -implicitDefEqProofs (disch := omega) [go_sem] <;> omega)) nbA hK
   ·intro c4 h
    try simp (disch := omega) at c4
    try simp -implicitDefEqProofs (disch := omega) [go_sem]
    subst hc2; refine vcK ?_; simp -implicitDefEqProofs only [go_sem]; have er := Option.some.inj h; subst er
    try simp -implicitDefEqProofs (disch := omega) [go_sem]
    refine A4 (by exact A9 (Ext.refl hw)) (by first | with_reducible rfl | (simp -implicitDefEqProofs (disch := omega) [go_sem] <;> omega)) nbA hK
  ·intro c5 h
   try simp (disch := omega) at c5
   try simp -implicitDefEqProofs (disch := omega) [go_sem]
   subst hc2; refine vcK ?_; simp -implicitDefEqProofs only [go_sem]; have er := Option.some.inj h; subst er
   try simp -implicitDefEqProofs (disch := omega) [go_sem]
   refine A4 (by exact A9 (Ext.refl hw)) (by first | with_reducible rfl | (simp -implicitDefEqProofs (disch := omega) [go_sem] <;> omega)) nbA hK
 ·intro c6 h
  try simp (disch := omega) at c6
  try simp -implicitDefEqProofs (disch := omega) [go_sem]
  subst hc2; refine vcK ?_; simp -implicitDefEqProofs only [go_sem]; have er := Option.some.inj h; subst er
  try simp -implicitDefEqProofs (disch := omega) [go_sem]
  refine A4 (by exact A9 (Ext.refl hw)) (by first | with_reducible rfl | (simp -implicitDefEqProofs (disch := omega) [go_sem] <;> omega)) nbA hK
noncomputable def NR  : Option ((List UInt8) × Int) :=
 some ([], -1)
noncomputable def EM (a0 : List UInt8) (a1 : Int) (v5 : Int) : Option (Int ⊕ (Unit ⊕ ((List UInt8) × Int))) :=
 if (IntKind.i64.wrap (v5 + 1)) < (a0.length : Int) then (gd (0 ≤ v5 ∧ v5 < a0.length) (if (((a0.getD v5.toNat 0).toNat : Int)) = 13 then (gd (0 ≤ (IntKind.i64.wrap (v5 + 1)) ∧ (IntKind.i64.wrap (v5 + 1)) < a0.length) (if (((a0.getD (IntKind.i64.wrap (v5 + 1)).toNat 0).toNat : Int)) = 10 then (gd (0 ≤ a1) (gd (a1 ≤ v5) (gd (v5 ≤ a0.length) (some (.inr (.inr (((a0.take v5.toNat).drop a1.toNat, IntKind.i64.wrap (v5 + 2))))))))) else (some (.inl (IntKind.i64.wrap (v5 + 1)))))) else (some (.inl (IntKind.i64.wrap (v5 + 1)))))) else (some (.inr (.inl ())))
noncomputable def F53 (a0 : List UInt8) (a1 : Int) : Option ((List UInt8) × Int) :=
 (AH (fun (s : Int) => EM a0 a1 s) a1).bind fun y => Sum.elim (fun (e : Unit) => NR) (fun (q : (List UInt8) × Int) => some q) y
set_option maxHeartbeats 8000000 in
set_option pp.deepTerms false in
set_option maxRecDepth 60000 in
theorem Ka {H : A3} {K : AB → A3 → Prop} (a0 : List UInt8) (a1 : Int) {r : (List UInt8) × Int} (h : F53 a0 a1 = some r) (hK : K (.ret (.tu [.v (str r.1), .v (.int .i64 r.2)])) H) : A6 prog 53 [.sl 1 (a0.map fun x => [.v (.int .u8 x.toNat)]), .v (.int .i64 a1)] H K := by
 refine Ae (N := 35) func53 (by kernel_rfl) rfl (by kernel_rfl) (by kernel_rfl) fun cb hcb hw hbd hnb => ?_; clear hbd hnb; subst hcb; unfold F53 at h; refine A2 fun cb hc1 => ?_; refine vcK ?_
 try simp -implicitDefEqProofs (disch := omega) [go_sem]
 subst hc1; refine A2 fun cb hc2 => ?_; refine A2 fun cb hc3 => ?_; refine vcK ?_
 try simp -implicitDefEqProofs (disch := omega) [go_sem]
 subst hc3; obtain ⟨y4, hl4q, hk4⟩ := A5 h; refine Bk (fun tm' H' => .inl () = y4 ∧ H = H') ?_ fun cb hc4 => ?_
 ·rintro tm4e H4e ⟨rfl, rfl⟩
  have h : NR = some r := hk4; unfold NR at h; simp -implicitDefEqProofs only [go_sem]; subst hc2; refine A2 fun cb hc6 => ?_; refine vcK ?_
  try simp -implicitDefEqProofs (disch := omega) [go_sem]
  subst hc6; refine vcK ?_; simp -implicitDefEqProofs only [go_sem]; have er := Option.some.inj h; subst er
  try simp -implicitDefEqProofs (disch := omega) [go_sem]
  refine A4 (by exact A9 (Ext.refl hw)) (by first | with_reducible rfl | (simp -implicitDefEqProofs (disch := omega) [go_sem] <;> omega)) nbA hK
 ·refine Ai ?_; refine AF (fun (s : Int) tm' H' => H = H' ∧ tm' 0 = .sl 1 (a0.map fun x => [.v (.int .u8 x.toNat)]) ∧ tm' 1 = .v (.int .i64 a1) ∧ tm' 6 = .v (.int .i64 s)) hl4q ?_ ?_
  ·refine .same ⟨rfl, ?_, ?_, ?_⟩ <;> first | with_reducible rfl | with_reducible assumption | (simp -implicitDefEqProofs (disch := omega) [go_sem] <;> omega)
  ·rintro I4 hI4 v5 x4 tm4 H4 ⟨rfl, An, AE, GU⟩ h hret4
   replace h : EM a0 a1 v5 = some x4 := h; unfold EM at h; refine A2 fun cb hc7 => ?_; refine A2 fun cb hc8 => ?_; refine vcK ?_
   try simp -implicitDefEqProofs (disch := omega) [go_sem, An, AE, GU]
   subst hc8; refine Ac h (by first | with_reducible rfl | (simp -implicitDefEqProofs (disch := omega) [go_sem, An, AE, GU] <;> omega)) rfl ?_ ?_
   ·intro c9 h
    try simp (disch := omega) at c9
    refine vcK ?_; simp -implicitDefEqProofs only [go_sem]; subst hc7; refine A2 fun cb hc10 => ?_; refine Ai ?_; refine A2 fun cb hc11 => ?_; refine vcK ?_; obtain ⟨g12, h⟩ := Ab.1 h
    try simp (disch := omega) at g12
    try simp -implicitDefEqProofs (disch := omega) [go_sem, An, AE, GU]
    refine A7 h (by first | with_reducible rfl | (simp -implicitDefEqProofs (disch := omega) [go_sem, An, AE, GU] <;> omega)) ?_ ?_
    ·intro c19 h
     try simp (disch := omega) at c19
     obtain ⟨g13, h⟩ := Ab.1 h
     try simp (disch := omega) at g13
     try simp -implicitDefEqProofs (disch := omega) [go_sem, An, AE, GU]
     subst hc11; refine Ac h (by first | with_reducible rfl | (simp -implicitDefEqProofs (disch := omega) [go_sem, An, AE, GU] <;> omega)) rfl ?_ ?_
     ·intro c14 h
      try simp (disch := omega) at c14
      refine A2 fun cb hc15 => ?_; refine vcK ?_; obtain ⟨g16, h⟩ := Ab.1 h
      try simp (disch := omega) at g16
      obtain ⟨g17, h⟩ := Ab.1 h
      try simp (disch := omega) at g17
      obtain ⟨g18, h⟩ := Ab.1 h
      try simp (disch := omega) at g18
      try simp -implicitDefEqProofs (disch := omega) [go_sem, An, AE, GU]
      subst hc15; refine vcK ?_; simp -implicitDefEqProofs only [go_sem]; have e4 := Option.some.inj h; subst e4; have e4 := hret4 _ rfl; subst e4; replace h : some (((a0.take v5.toNat).drop a1.toNat, IntKind.i64.wrap (v5 + 2))) = some r := hk4; have er := Option.some.inj h; subst er
      try simp -implicitDefEqProofs (disch := omega) [go_sem, An, AE, GU]
      refine A4 (by exact A9 (Ext.refl hw)) (by first | with_reducible rfl | (simp -implicitDefEqProofs (disch := omega) [go_sem, An, AE, GU] <;> omega)) nbA hK
     ·intro c14 h
      try simp (disch := omega) at c14
      refine vcK ?_; simp -implicitDefEqProofs only [go_sem]; subst hc10; refine vcK ?_
      try simp -implicitDefEqProofs (disch := omega) [go_sem, An, AE, GU]
      have e4 := Option.some.inj h; subst e4; refine Au hI4 (IntKind.i64.wrap (v5 + 1)) ?_; refine .same ⟨rfl, ?_, ?_, ?_⟩ <;> first | with_reducible rfl | with_reducible assumption | (simp -implicitDefEqProofs (disch := omega) [go_sem, An, AE, GU] <;> omega)
    ·intro c19 h
     try simp (disch := omega) at c19
     try simp -implicitDefEqProofs (disch := omega) [go_sem, An, AE, GU]
     subst hc11; refine AG (by first | with_reducible rfl | (simp -implicitDefEqProofs (disch := omega) [go_sem, An, AE, GU] <;> omega)) rfl ?_; refine vcK ?_; simp -implicitDefEqProofs only [go_sem]; subst hc10; refine vcK ?_
     try simp -implicitDefEqProofs (disch := omega) [go_sem, An, AE, GU]
     have e4 := Option.some.inj h; subst e4; refine Au hI4 (IntKind.i64.wrap (v5 + 1)) ?_; refine .same ⟨rfl, ?_, ?_, ?_⟩ <;> first | with_reducible rfl | with_reducible assumption | (simp -implicitDefEqProofs (disch := omega) [go_sem, An, AE, GU] <;> omega)
   ·intro c9 h
    try simp (disch := omega) at c9
    refine vcK ?_; simp -implicitDefEqProofs only [go_sem]; have e4 := Option.some.inj h; subst e4; have hy4 := hret4 _ rfl; refine hc4 _ _ ?_; refine .same ⟨hy4, rfl⟩
noncomputable def LK (v7 : List UInt8) : Option (List UInt8) :=
 some v7
noncomputable def G9 (v6 : List UInt8) : Option ((List UInt8) ⊕ (List UInt8)) :=
 if 0 < (v6.length : Int) then (gd (0 ≤ (IntKind.i64.wrap ((v6.length : Int) - 1)) ∧ (IntKind.i64.wrap ((v6.length : Int) - 1)) < v6.length) (if (((v6.getD (IntKind.i64.wrap ((v6.length : Int) - 1)).toNat 0).toNat : Int)) = 32 then (gd (0 ≤ IntKind.i64.wrap ((v6.length : Int) - 1)) (gd (IntKind.i64.wrap ((v6.length : Int) - 1) ≤ v6.length) (some (.inl ((v6.take (IntKind.i64.wrap ((v6.length : Int) - 1)).toNat)))))) else (if (((v6.getD (IntKind.i64.wrap ((v6.length : Int) - 1)).toNat 0).toNat : Int)) = 9 then (gd (0 ≤ IntKind.i64.wrap ((v6.length : Int) - 1)) (gd (IntKind.i64.wrap ((v6.length : Int) - 1) ≤ v6.length) (some (.inl ((v6.take (IntKind.i64.wrap ((v6.length : Int) - 1)).toNat)))))) else (some (.inr v6))))) else (some (.inr v6))
noncomputable def Jl (v4 : List UInt8) : Option (List UInt8) :=
 (AH (fun (s : (List UInt8)) => G9 s) v4).bind fun (e : (List UInt8)) => LK e
noncomputable def Ga (v3 : List UInt8) : Option ((List UInt8) ⊕ (List UInt8)) :=
 if 0 < (v3.length : Int) then (gd (0 < v3.length) (if (((v3.getD 0 0).toNat : Int)) = 32 then (gd (1 ≤ v3.length) (some (.inl (v3.drop 1)))) else (if (((v3.getD 0 0).toNat : Int)) = 9 then (gd (1 ≤ v3.length) (some (.inl (v3.drop 1)))) else (some (.inr v3))))) else (some (.inr v3))
noncomputable def P4 (a0 : List UInt8) : Option (List UInt8) :=
 (AH (fun (s : (List UInt8)) => Ga s) a0).bind fun (e : (List UInt8)) => Jl e
set_option maxHeartbeats 8000000 in
set_option pp.deepTerms false in
set_option maxRecDepth 60000 in
theorem Of {H : A3} {K : AB → A3 → Prop} (a0 : List UInt8) {r : (List UInt8)} (h : P4 a0 = some r) (hK : K (.ret (.v (str r))) H) : A6 prog 103 [.v (str a0)] H K := by
 refine Ae (N := 43) func103 (by kernel_rfl) rfl (by kernel_rfl) (by kernel_rfl) fun cb hcb hw hbd hnb => ?_; clear hbd hnb; subst hcb; unfold P4 at h; refine A2 fun cb hc1 => ?_; refine vcK ?_
 try simp -implicitDefEqProofs (disch := omega) [go_sem]
 subst hc1; obtain ⟨y2, hl2q, hk2⟩ := A5 h; refine Dj (fun tm' H' => ∃ v4 : List UInt8, v4 = y2 ∧ H = H' ∧ tm' 0 = .v (str v4)) ?_ fun cb hc2 => ?_
 ·rintro tm2e H2e ⟨v4, rfl, rfl, t0_2e⟩
  have h : Jl v4 = some r := hk2; unfold Jl at h; obtain ⟨y5, hl5q, hk5⟩ := A5 h; refine Dj (fun tm' H' => ∃ v7 : List UInt8, v7 = y5 ∧ H = H' ∧ tm' 0 = .v (str v7)) ?_ fun cb hc5 => ?_
  ·rintro tm5e H5e ⟨v7, rfl, rfl, t0_5e⟩
   have h : LK v7 = some r := hk5; unfold LK at h; refine A2 fun cb hc8 => ?_; refine vcK ?_
   try simp -implicitDefEqProofs (disch := omega) [go_sem, t0_5e]
   subst hc8; refine vcK ?_; simp -implicitDefEqProofs only [go_sem]; have er := Option.some.inj h; subst er
   try simp -implicitDefEqProofs (disch := omega) [go_sem, t0_5e]
   refine A4 (by exact A9 (Ext.refl hw)) (by first | with_reducible rfl | (simp -implicitDefEqProofs (disch := omega) [go_sem, t0_5e] <;> omega)) nbA hK
  ·refine Ai ?_; refine AF (fun (s : (List UInt8)) tm' H' => H = H' ∧ tm' 0 = .v (str s)) hl5q ?_ ?_
   ·refine .same ⟨rfl, by first | with_reducible rfl | with_reducible assumption | (simp -implicitDefEqProofs (disch := omega) [go_sem, t0_2e] <;> omega)⟩
   ·rintro I5 hI5 v6 x5 tm5 H5 ⟨rfl, A_⟩ h hret5
    replace h : G9 v6 = some x5 := h; unfold G9 at h; refine A2 fun cb hc9 => ?_; refine A2 fun cb hc10 => ?_; refine vcK ?_
    try simp -implicitDefEqProofs (disch := omega) [go_sem, A_]
    refine A7 h (by first | with_reducible rfl | (simp -implicitDefEqProofs (disch := omega) [go_sem, A_] <;> omega)) ?_ ?_
    ·intro c18 h
     try simp (disch := omega) at c18
     obtain ⟨g11, h⟩ := Ab.1 h
     try simp (disch := omega) at g11
     try simp -implicitDefEqProofs (disch := omega) [go_sem, A_]
     refine A7 h (by first | with_reducible rfl | (simp -implicitDefEqProofs (disch := omega) [go_sem, A_] <;> omega)) ?_ ?_
     ·intro c17 h
      try simp (disch := omega) at c17
      try simp -implicitDefEqProofs (disch := omega) [go_sem, A_]
      subst hc10; refine As (by first | with_reducible rfl | (simp -implicitDefEqProofs (disch := omega) [go_sem, A_] <;> omega)) rfl ?_; refine vcK ?_; simp -implicitDefEqProofs only [go_sem]; subst hc9; refine Ai ?_; refine vcK ?_; obtain ⟨g12, h⟩ := Ab.1 h
      try simp (disch := omega) at g12
      obtain ⟨g13, h⟩ := Ab.1 h
      try simp (disch := omega) at g13
      try simp -implicitDefEqProofs (disch := omega) [go_sem] at g12
      try simp -implicitDefEqProofs (disch := omega) [go_sem] at g13
      try simp -implicitDefEqProofs (disch := omega) [go_sem, A_]
      have e5 := Option.some.inj h; subst e5; refine Au hI5 ((v6.take (IntKind.i64.wrap ((v6.length : Int) - 1)).toNat)) ?_; refine .same ⟨rfl, by first | with_reducible rfl | with_reducible assumption | (simp -implicitDefEqProofs (disch := omega) [go_sem, A_] <;> omega)⟩
     ·intro c17 h
      try simp (disch := omega) at c17
      try simp -implicitDefEqProofs (disch := omega) [go_sem, A_]
      subst hc10; refine Ac h (by first | with_reducible rfl | (simp -implicitDefEqProofs (disch := omega) [go_sem, A_] <;> omega)) rfl ?_ ?_
      ·intro c14 h
       try simp (disch := omega) at c14
       refine vcK ?_; simp -implicitDefEqProofs only [go_sem]; subst hc9; refine Ai ?_; refine vcK ?_; obtain ⟨g15, h⟩ := Ab.1 h
       try simp (disch := omega) at g15
       obtain ⟨g16, h⟩ := Ab.1 h
       try simp (disch := omega) at g16
       try simp -implicitDefEqProofs (disch := omega) [go_sem] at g15
       try simp -implicitDefEqProofs (disch := omega) [go_sem] at g16
       try simp -implicitDefEqProofs (disch := omega) [go_sem, A_]
       have e5 := Option.some.inj h; subst e5; refine Au hI5 ((v6.take (IntKind.i64.wrap ((v6.length : Int) - 1)).toNat)) ?_; refine .same ⟨rfl, by first | with_reducible rfl | with_reducible assumption | (simp -implicitDefEqProofs (disch := omega) [go_sem, A_] <;> omega)⟩
      ·intro c14 h
       try simp (disch := omega) at c14
       refine vcK ?_; simp -implicitDefEqProofs only [go_sem]; have e5 := Option.some.inj h; subst e5; have hy5 := hret5 _ rfl; refine hc5 _ _ ?_; refine .same ⟨v6, hy5, rfl, by first | with_reducible rfl | with_reducible assumption | (simp -implicitDefEqProofs (disch := omega) [go_sem, A_] <;> omega)⟩
    ·intro c18 h
     try simp (disch := omega) at c18
     try simp -implicitDefEqProofs (disch := omega) [go_sem, A_]
     subst hc10; refine AG (by first | with_reducible rfl | (simp -implicitDefEqProofs (disch := omega) [go_sem, A_] <;> omega)) rfl ?_; refine vcK ?_; simp -implicitDefEqProofs only [go_sem]; have e5 := Option.some.inj h; subst e5; have hy5 := hret5 _ rfl; refine hc5 _ _ ?_; refine .same ⟨v6, hy5, rfl, by first | with_reducible rfl | with_reducible assumption | (simp -implicitDefEqProofs (disch := omega) [go_sem, A_] <;> omega)⟩
 ·refine Ai ?_; refine AF (fun (s : (List UInt8)) tm' H' => H = H' ∧ tm' 0 = .v (str s)) hl2q ?_ ?_
  ·refine .same ⟨rfl, by first | with_reducible rfl | with_reducible assumption | (simp -implicitDefEqProofs (disch := omega) [go_sem] <;> omega)⟩
  ·rintro I2 hI2 v3 x2 tm2 H2 ⟨rfl, Gk⟩ h hret2
   replace h : Ga v3 = some x2 := h; unfold Ga at h; refine A2 fun cb hc19 => ?_; refine A2 fun cb hc20 => ?_; refine vcK ?_
   try simp -implicitDefEqProofs (disch := omega) [go_sem, Gk]
   refine A7 h (by first | with_reducible rfl | (simp -implicitDefEqProofs (disch := omega) [go_sem, Gk] <;> omega)) ?_ ?_
   ·intro c26 h
    try simp (disch := omega) at c26
    obtain ⟨g21, h⟩ := Ab.1 h
    try simp (disch := omega) at g21
    try simp -implicitDefEqProofs (disch := omega) [go_sem, Gk]
    refine A7 h (by first | with_reducible rfl | (simp -implicitDefEqProofs (disch := omega) [go_sem, Gk] <;> omega)) ?_ ?_
    ·intro c25 h
     try simp (disch := omega) at c25
     try simp -implicitDefEqProofs (disch := omega) [go_sem, Gk]
     subst hc20; refine As (by first | with_reducible rfl | (simp -implicitDefEqProofs (disch := omega) [go_sem, Gk] <;> omega)) rfl ?_; refine vcK ?_; simp -implicitDefEqProofs only [go_sem]; subst hc19; refine Ai ?_; refine vcK ?_; obtain ⟨g22, h⟩ := Ab.1 h
     try simp (disch := omega) at g22
     try simp -implicitDefEqProofs (disch := omega) [go_sem, Gk]
     have e2 := Option.some.inj h; subst e2; refine Au hI2 (v3.drop 1) ?_; refine .same ⟨rfl, by first | with_reducible rfl | with_reducible assumption | (simp -implicitDefEqProofs (disch := omega) [go_sem, Gk] <;> omega)⟩
    ·intro c25 h
     try simp (disch := omega) at c25
     try simp -implicitDefEqProofs (disch := omega) [go_sem, Gk]
     subst hc20; refine Ac h (by first | with_reducible rfl | (simp -implicitDefEqProofs (disch := omega) [go_sem, Gk] <;> omega)) rfl ?_ ?_
     ·intro c23 h
      try simp (disch := omega) at c23
      refine vcK ?_; simp -implicitDefEqProofs only [go_sem]; subst hc19; refine Ai ?_; refine vcK ?_; obtain ⟨g24, h⟩ := Ab.1 h
      try simp (disch := omega) at g24
      try simp -implicitDefEqProofs (disch := omega) [go_sem, Gk]
      have e2 := Option.some.inj h; subst e2; refine Au hI2 (v3.drop 1) ?_; refine .same ⟨rfl, by first | with_reducible rfl | with_reducible assumption | (simp -implicitDefEqProofs (disch := omega) [go_sem, Gk] <;> omega)⟩
     ·intro c23 h
      try simp (disch := omega) at c23
      refine vcK ?_; simp -implicitDefEqProofs only [go_sem]; have e2 := Option.some.inj h; subst e2; have hy2 := hret2 _ rfl; refine hc2 _ _ ?_; refine .same ⟨v3, hy2, rfl, by first | with_reducible rfl | with_reducible assumption | (simp -implicitDefEqProofs (disch := omega) [go_sem, Gk] <;> omega)⟩
   ·intro c26 h
    try simp (disch := omega) at c26
    try simp -implicitDefEqProofs (disch := omega) [go_sem, Gk]
    subst hc20; refine AG (by first | with_reducible rfl | (simp -implicitDefEqProofs (disch := omega) [go_sem, Gk] <;> omega)) rfl ?_; refine vcK ?_; simp -implicitDefEqProofs only [go_sem]; have e2 := Option.some.inj h; subst e2; have hy2 := hret2 _ rfl; refine hc2 _ _ ?_; refine .same ⟨v3, hy2, rfl, by first | with_reducible rfl | with_reducible assumption | (simp -implicitDefEqProofs (disch := omega) [go_sem, Gk] <;> omega)⟩
end Go.Idl
namespace Go.Idl
open Go Go.Proofs.Tryz
noncomputable def Gb (x8 : (List UInt8) × Int) (x40 : (List UInt8)) (v49 : List S55) (v51 : Int) : Option ((Int × (List S55)) ⊕ ((List S55) × Int)) :=
 if 0 < v51 then (gd (0 ≤ (IntKind.i64.wrap (v51 - 1)) ∧ (IntKind.i64.wrap (v51 - 1)) < v49.length) (if ((v49.getD (IntKind.i64.wrap (v51 - 1)).toNat S55.zero).fName) = x40 then (some (.inr ([], -1))) else (some (.inl (x8.2, v49))))) else (some (.inl (x8.2, v49)))
noncomputable def EC (x40 : (List UInt8)) (v46 : List S55) (v48 : Int) : Option (((List S55) × Int) ⊕ ((List S55) × Int)) :=
 if 0 < v48 then (gd (0 ≤ (IntKind.i64.wrap (v48 - 1)) ∧ (IntKind.i64.wrap (v48 - 1)) < v46.length) (if ¬ (Op.bytesLess ((v46.getD (IntKind.i64.wrap (v48 - 1)).toNat S55.zero).fName) x40 || decide (((v46.getD (IntKind.i64.wrap (v48 - 1)).toNat S55.zero).fName) = x40)) = true then (gd (0 ≤ v48 ∧ v48 < v46.length) (gd (0 ≤ (IntKind.i64.wrap (v48 - 1)) ∧ (IntKind.i64.wrap (v48 - 1)) < (v46.set v48.toNat (v46.getD (IntKind.i64.wrap (v48 - 1)).toNat S55.zero)).length) (some (.inl (((v46.set v48.toNat (v46.getD (IntKind.i64.wrap (v48 - 1)).toNat S55.zero)).set (IntKind.i64.wrap (v48 - 1)).toNat (v46.getD v48.toNat S55.zero), IntKind.i64.wrap (v48 - 1))))))) else (some (.inr (v46, v48))))) else (some (.inr (v46, v48)))
noncomputable def Fm (x8 : (List UInt8) × Int) (v23 : List S55) (v25 : Int) : Option ((Int × (List S55)) ⊕ ((List S55) × Int)) :=
 if (x8.1.length : Int) ≤ v25 then (some (.inr ([], -1))) else (gd (0 ≤ v25) (gd (v25 ≤ x8.1.length) ((F70 (x8.1.take v25.toNat)).bind fun (x31 : Bool) => if ¬ (x31 = true) then (some (.inr ([], -1))) else (gd (0 ≤ (IntKind.i64.wrap (v25 + 1))) (gd (IntKind.i64.wrap (v25 + 1) ≤ x8.1.length) ((P4 (x8.1.drop (IntKind.i64.wrap (v25 + 1)).toNat)).bind fun (x35 : (List UInt8)) => (F72 x35).bind fun (x36 : Bool) => if ¬ (x36 = true) then (some (.inr ([], -1))) else ((F71 (x8.1.take v25.toNat)).bind fun (x40 : (List UInt8)) => (P4 (x8.1.drop (IntKind.i64.wrap (v25 + 1)).toNat)).bind fun (x41 : (List UInt8)) => gd ((v23.length + ([(⟨x40, x41⟩ : S55)]).length) * 32 ≤ 140737488355328) ((AH (fun (s : (List S55) × Int) => EC x40 s.1 s.2) ((v23 ++ ([(⟨x40, x41⟩ : S55)])), (v23.length : Int))).bind fun (e : (List S55) × Int) => Gb x8 x40 e.1 e.2))))))))
noncomputable def C_ (x8 : (List UInt8) × Int) (v20 : List S55) (v22 : Int) : Option (((List S55) × Int) ⊕ ((List S55) × Int)) :=
 if v22 < (x8.1.length : Int) then (gd (0 ≤ v22 ∧ v22 < x8.1.length) (if ¬ (((x8.1.getD v22.toNat 0).toNat : Int)) = 58 then (some (.inl ((v20, IntKind.i64.wrap (v22 + 1))))) else (some (.inr (v20, v22))))) else (some (.inr (v20, v22)))
noncomputable def D_ (a0 : List UInt8) (v4 : Int) (v5 : List S55) : Option ((Int × (List S55)) ⊕ ((List S55) × Int)) :=
 (F53 a0 v4).bind fun (x8 : (List UInt8) × Int) => if x8.2 < 0 then (some (.inr ([], -1))) else (if x8.1 = [] then (some (.inr (v5, x8.2))) else ((AH (fun (s : (List S55) × Int) => C_ x8 s.1 s.2) (v5, 0)).bind fun (e : (List S55) × Int) => Fm x8 e.1 e.2))
noncomputable def F77 (a0 : List UInt8) (a1 : Int) : Option ((List S55) × Int) :=
 (AH (fun (s : Int × (List S55)) => D_ a0 s.1 s.2) (a1, [])).bind fun (q : (List S55) × Int) => some q
set_option maxHeartbeats 8000000 in
set_option pp.deepTerms false in
set_option maxRecDepth 60000 in
theorem Vf {H : A3} {K : AB → A3 → Prop} (a0 : List UInt8) (a1 : Int) {r : (List S55) × Int} (h : F77 a0 a1 = some r) (hK : K (.ret (.tu [.sl 2 (r.1.map fun x => [.v (str x.fName), .v (str x.A8)]), .v (.int .i64 r.2)])) H) : A6 prog 77 [.sl 1 (a0.map fun x => [.v (.int .u8 x.toNat)]), .v (.int .i64 a1)] H K := by
 refine Ae (N := 117) func77 (by kernel_rfl) rfl (by kernel_rfl) (by kernel_rfl) fun cb hcb hw hbd hnb => ?_; clear hbd hnb; subst hcb; unfold F77 at h; refine A2 fun cb hc1 => ?_; refine vcK ?_
 try simp -implicitDefEqProofs (disch := omega) [go_sem, bdP]
 subst hc1; refine A2 fun cb hc2 => ?_; refine vcK ?_
 try simp -implicitDefEqProofs (disch := omega) [go_sem, bdP]
 subst hc2; obtain ⟨y3, hl3q, hk3⟩ := A5 h; refine Ai ?_; refine AF (fun (s : Int × (List S55)) tm' H' => ∃ n6 : Nat, Ext H H' ∧ H.next ≤ H'.next ∧ H.next ≤ n6 ∧ n6 < H'.next ∧ tm' 0 = .sl 1 (a0.map fun x => [.v (.int .u8 x.toNat)]) ∧ tm' 1 = .v (.int .i64 s.1) ∧ tm' 6 = .os n6 s.2.length ∧ H'.obj n6 = some (.row 2 (s.2.map fun x => [.v (str x.fName), .v (str x.A8)]))) hl3q ?_ ?_
 ·refine UpI.gh (Gh.GM (d := 6) (sz := 2) (by omega) (by (simp -implicitDefEqProofs (disch := omega) [go_sem, bdP] <;> omega))) ?_; refine .same ⟨H.next, by exact A9 (Ext.refl hw), by first | with_reducible rfl | with_reducible assumption | omega | (simp -implicitDefEqProofs (disch := omega) [go_sem, bdP] <;> omega), by first | with_reducible rfl | with_reducible assumption | omega | (simp -implicitDefEqProofs (disch := omega) [go_sem, bdP] <;> omega), by first | with_reducible rfl | with_reducible assumption | omega | (simp -implicitDefEqProofs (disch := omega) [go_sem, bdP] <;> omega), ?_, ?_, ?_, ?_⟩ <;> first | with_reducible rfl | with_reducible assumption | (simp -implicitDefEqProofs (disch := omega) [go_sem, bdP] <;> omega)
 ·rintro I3 hI3 ⟨v4, v5⟩ x3 tm3 H3 ⟨n6, he3, hl3, Ty, Tz, Aw, BT, BU, Ap⟩ h hret3
  replace h : D_ a0 v4 v5 = some x3 := h; unfold D_ at h; refine Ai ?_; refine A2 fun cb hc7 => ?_; refine vcK ?_
  try simp -implicitDefEqProofs (disch := omega) [go_sem, bdP, Aw, BT, BU, Ap]
  obtain ⟨x8, hx8, h⟩ := A5 h; refine A6.eqA (args' := [.sl 1 (a0.map fun x => [.v (.int .u8 x.toNat)]), .v (.int .i64 v4)]) (by first | with_reducible rfl | (simp -implicitDefEqProofs (disch := omega) [go_sem, bdP, Aw, BT, BU, Ap] <;> omega)) (Ka a0 v4 hx8 ?_)
  try simp -implicitDefEqProofs (disch := omega) [go_sem, bdP, Aw, BT, BU, Ap]
  subst hc7; refine A2 fun cb hc9 => ?_; refine A2 fun cb hc10 => ?_; refine vcK ?_
  try simp -implicitDefEqProofs (disch := omega) [go_sem, bdP, Aw, BT, BU, Ap]
  subst hc10; refine Ac h (by first | with_reducible rfl | (simp -implicitDefEqProofs (disch := omega) [go_sem, bdP, Aw, BT, BU, Ap] <;> omega)) rfl ?_ ?_
  ·intro c11 h
   try simp (disch := omega) at c11
   refine A2 fun cb hc12 => ?_; refine vcK ?_
   try simp -implicitDefEqProofs (disch := omega) [go_sem, bdP, Aw, BT, BU, Ap]
   subst hc12; refine IWp.gh (Gh.C1 4 2 (by (simp -implicitDefEqProofs (disch := omega) [go_sem, bdP, Aw, BT, BU, Ap] <;> omega))) ?_; refine vcK ?_; simp -implicitDefEqProofs only [go_sem]; have e3 := Option.some.inj h; subst e3; have e3 := hret3 _ rfl; subst e3; replace h : some ([], -1) = some r := hk3; have er := Option.some.inj h; subst er
   try simp -implicitDefEqProofs (disch := omega) [go_sem, bdP, Aw, BT, BU, Ap]
   refine A4 (by exact A9 he3) (by first | with_reducible rfl | (simp -implicitDefEqProofs (disch := omega) [go_sem, bdP, Aw, BT, BU, Ap] <;> omega)) nbA hK
  ·intro c11 h
   try simp (disch := omega) at c11
   refine vcK ?_; simp -implicitDefEqProofs only [go_sem]; subst hc9; refine A2 fun cb hc13 => ?_; refine vcK ?_
   try simp -implicitDefEqProofs (disch := omega) [go_sem, bdP, Aw, BT, BU, Ap]
   subst hc13; refine A2 fun cb hc14 => ?_; refine A2 fun cb hc15 => ?_; refine vcK ?_
   try simp -implicitDefEqProofs (disch := omega) [go_sem, bdP, Aw, BT, BU, Ap]
   subst hc15; refine Ac h (by first | with_reducible rfl | (simp -implicitDefEqProofs (disch := omega) [go_sem, bdP, Aw, BT, BU, Ap] <;> omega)) rfl ?_ ?_
   ·intro c16 h
    try simp (disch := omega) at c16
    refine A2 fun cb hc17 => ?_; refine vcK ?_
    try simp -implicitDefEqProofs (disch := omega) [go_sem, bdP, Aw, BT, BU, Ap]
    subst hc17; refine IWp.gh (Gh.freeze (d := 4) (k := n6) (sz := 2) (es := v5.map fun x => [.v (str x.fName), .v (str x.A8)]) (by (simp -implicitDefEqProofs (disch := omega) [go_sem, bdP, Aw, BT, BU, Ap] <;> omega)) (by (simp -implicitDefEqProofs (disch := omega) [go_sem, bdP, Aw, BT, BU, Ap] <;> omega))) ?_; refine vcK ?_; simp -implicitDefEqProofs only [go_sem]; have e3 := Option.some.inj h; subst e3; have e3 := hret3 _ rfl; subst e3; replace h : some (v5, x8.2) = some r := hk3; have er := Option.some.inj h; subst er
    try simp -implicitDefEqProofs (disch := omega) [go_sem, bdP, Aw, BT, BU, Ap]
    refine A4 (by exact A9 he3) (by first | with_reducible rfl | (simp -implicitDefEqProofs (disch := omega) [go_sem, bdP, Aw, BT, BU, Ap] <;> omega)) nbA hK
   ·intro c16 h
    try simp (disch := omega) at c16
    refine vcK ?_; simp -implicitDefEqProofs only [go_sem]; subst hc14; refine A2 fun cb hc18 => ?_; refine vcK ?_
    try simp -implicitDefEqProofs (disch := omega) [go_sem, bdP, Aw, BT, BU, Ap]
    subst hc18; obtain ⟨y19, hl19q, hk19⟩ := A5 h; refine Dj (fun tm' H' => ∃ n24 : Nat, ∃ v23 : List S55, ∃ v25 : Int, (v23, v25) = y19 ∧ Ext H H' ∧ H3.next ≤ H'.next ∧ H.next ≤ n24 ∧ n24 < H'.next ∧ tm' 0 = .sl 1 (a0.map fun x => [.v (.int .u8 x.toNat)]) ∧ tm' 1 = .v (.int .i64 x8.2) ∧ tm' 6 = .os n24 v23.length ∧ tm' 7 = .v (str x8.1) ∧ tm' 9 = .v (.int .i64 v25) ∧ H'.obj n24 = some (.row 2 (v23.map fun x => [.v (str x.fName), .v (str x.A8)]))) ?_ fun cb hc19 => ?_
    ·rintro tm19e H19e ⟨n24, v23, v25, rfl, he19e, hl19e, hr0_19e, hs0_19e, t0_19e, t1_19e, t6_19e, t7_19e, t9_19e, or0_19e⟩
     have h : Fm x8 v23 v25 = some x3 := hk19; unfold Fm at h; refine A2 fun cb hc26 => ?_; refine A2 fun cb hc27 => ?_; refine vcK ?_
     try simp -implicitDefEqProofs (disch := omega) [go_sem, bdP, t0_19e, t1_19e, t6_19e, t7_19e, t9_19e, or0_19e]
     refine A7 h (by first | with_reducible rfl | (simp -implicitDefEqProofs (disch := omega) [go_sem, bdP, t0_19e, t1_19e, t6_19e, t7_19e, t9_19e, or0_19e] <;> omega)) ?_ ?_
     ·intro c76 h
      try simp (disch := omega) at c76
      try simp -implicitDefEqProofs (disch := omega) [go_sem, bdP, t0_19e, t1_19e, t6_19e, t7_19e, t9_19e, or0_19e]
      subst hc27; refine As (by first | with_reducible rfl | (simp -implicitDefEqProofs (disch := omega) [go_sem, bdP, t0_19e, t1_19e, t6_19e, t7_19e, t9_19e, or0_19e] <;> omega)) rfl ?_; refine A2 fun cb hc28 => ?_; refine vcK ?_
      try simp -implicitDefEqProofs (disch := omega) [go_sem, bdP, t0_19e, t1_19e, t6_19e, t7_19e, t9_19e, or0_19e]
      subst hc28; refine IWp.gh (Gh.C1 4 2 (by (simp -implicitDefEqProofs (disch := omega) [go_sem, bdP, t0_19e, t1_19e, t6_19e, t7_19e, t9_19e, or0_19e] <;> omega))) ?_; refine vcK ?_; simp -implicitDefEqProofs only [go_sem]; have e3 := Option.some.inj h; subst e3; have e3 := hret3 _ rfl; subst e3; replace h : some ([], -1) = some r := hk3; have er := Option.some.inj h; subst er
      try simp -implicitDefEqProofs (disch := omega) [go_sem, bdP, t0_19e, t1_19e, t6_19e, t7_19e, t9_19e, or0_19e]
      refine A4 (by exact A9 he19e) (by first | with_reducible rfl | (simp -implicitDefEqProofs (disch := omega) [go_sem, bdP, t0_19e, t1_19e, t6_19e, t7_19e, t9_19e, or0_19e] <;> omega)) nbA hK
     ·intro c76 h
      try simp (disch := omega) at c76
      obtain ⟨g29, h⟩ := Ab.1 h
      try simp (disch := omega) at g29
      obtain ⟨g30, h⟩ := Ab.1 h
      try simp (disch := omega) at g30
      try simp -implicitDefEqProofs (disch := omega) [go_sem, bdP, t0_19e, t1_19e, t6_19e, t7_19e, t9_19e, or0_19e]
      obtain ⟨x31, hx31, h⟩ := A5 h; refine A6.eqA (args' := [.v (str (x8.1.take v25.toNat))]) (by first | with_reducible rfl | (simp -implicitDefEqProofs (disch := omega) [go_sem, bdP, t0_19e, t1_19e, t6_19e, t7_19e, t9_19e, or0_19e] <;> omega)) (QG (x8.1.take v25.toNat) hx31 ?_)
      try simp -implicitDefEqProofs (disch := omega) [go_sem, bdP, t0_19e, t1_19e, t6_19e, t7_19e, t9_19e, or0_19e]
      refine A7 h (by first | with_reducible rfl | (simp -implicitDefEqProofs (disch := omega) [go_sem, bdP, t0_19e, t1_19e, t6_19e, t7_19e, t9_19e, or0_19e] <;> omega)) ?_ ?_
      ·intro c75 h
       try simp (disch := omega) at c75
       try simp -implicitDefEqProofs (disch := omega) [go_sem, bdP, t0_19e, t1_19e, t6_19e, t7_19e, t9_19e, or0_19e]
       subst hc27; refine As (by first | with_reducible rfl | (simp -implicitDefEqProofs (disch := omega) [go_sem, bdP, t0_19e, t1_19e, t6_19e, t7_19e, t9_19e, or0_19e] <;> omega)) rfl ?_; refine A2 fun cb hc32 => ?_; refine vcK ?_
       try simp -implicitDefEqProofs (disch := omega) [go_sem, bdP, t0_19e, t1_19e, t6_19e, t7_19e, t9_19e, or0_19e]
       subst hc32; refine IWp.gh (Gh.C1 4 2 (by (simp -implicitDefEqProofs (disch := omega) [go_sem, bdP, t0_19e, t1_19e, t6_19e, t7_19e, t9_19e, or0_19e] <;> omega))) ?_; refine vcK ?_; simp -implicitDefEqProofs only [go_sem]; have e3 := Option.some.inj h; subst e3; have e3 := hret3 _ rfl; subst e3; replace h : some ([], -1) = some r := hk3; have er := Option.some.inj h; subst er
       try simp -implicitDefEqProofs (disch := omega) [go_sem, bdP, t0_19e, t1_19e, t6_19e, t7_19e, t9_19e, or0_19e]
       refine A4 (by exact A9 he19e) (by first | with_reducible rfl | (simp -implicitDefEqProofs (disch := omega) [go_sem, bdP, t0_19e, t1_19e, t6_19e, t7_19e, t9_19e, or0_19e] <;> omega)) nbA hK
      ·intro c75 h
       try simp (disch := omega) at c75
       obtain ⟨g33, h⟩ := Ab.1 h
       try simp (disch := omega) at g33
       obtain ⟨g34, h⟩ := Ab.1 h
       try simp (disch := omega) at g34
       try simp -implicitDefEqProofs (disch := omega) [go_sem] at g33
       try simp -implicitDefEqProofs (disch := omega) [go_sem] at g34
       try simp -implicitDefEqProofs (disch := omega) [go_sem, bdP, t0_19e, t1_19e, t6_19e, t7_19e, t9_19e, or0_19e]
       obtain ⟨x35, hx35, h⟩ := A5 h; refine A6.eqA (args' := [.v (str (x8.1.drop (IntKind.i64.wrap (v25 + 1)).toNat))]) (by first | with_reducible rfl | (simp -implicitDefEqProofs (disch := omega) [go_sem, bdP, t0_19e, t1_19e, t6_19e, t7_19e, t9_19e, or0_19e] <;> omega)) (Of (x8.1.drop (IntKind.i64.wrap (v25 + 1)).toNat) hx35 ?_)
       try simp -implicitDefEqProofs (disch := omega) [go_sem, bdP, t0_19e, t1_19e, t6_19e, t7_19e, t9_19e, or0_19e]
       obtain ⟨x36, hx36, h⟩ := A5 h; refine A6.eqA (args' := [.v (str x35)]) (by first | with_reducible rfl | (simp -implicitDefEqProofs (disch := omega) [go_sem, bdP, t0_19e, t1_19e, t6_19e, t7_19e, t9_19e, or0_19e] <;> omega)) (QH x35 hx36 ?_)
       try simp -implicitDefEqProofs (disch := omega) [go_sem, bdP, t0_19e, t1_19e, t6_19e, t7_19e, t9_19e, or0_19e]
       subst hc27; refine Ac h (by first | with_reducible rfl | (simp -implicitDefEqProofs (disch := omega) [go_sem, bdP, t0_19e, t1_19e, t6_19e, t7_19e, t9_19e, or0_19e] <;> omega)) rfl ?_ ?_
       ·intro c37 h
        try simp (disch := omega) at c37
        refine A2 fun cb hc38 => ?_; refine vcK ?_
        try simp -implicitDefEqProofs (disch := omega) [go_sem, bdP, t0_19e, t1_19e, t6_19e, t7_19e, t9_19e, or0_19e]
        subst hc38; refine IWp.gh (Gh.C1 4 2 (by (simp -implicitDefEqProofs (disch := omega) [go_sem, bdP, t0_19e, t1_19e, t6_19e, t7_19e, t9_19e, or0_19e] <;> omega))) ?_; refine vcK ?_; simp -implicitDefEqProofs only [go_sem]; have e3 := Option.some.inj h; subst e3; have e3 := hret3 _ rfl; subst e3; replace h : some ([], -1) = some r := hk3; have er := Option.some.inj h; subst er
        try simp -implicitDefEqProofs (disch := omega) [go_sem, bdP, t0_19e, t1_19e, t6_19e, t7_19e, t9_19e, or0_19e]
        refine A4 (by exact A9 he19e) (by first | with_reducible rfl | (simp -implicitDefEqProofs (disch := omega) [go_sem, bdP, t0_19e, t1_19e, t6_19e, t7_19e, t9_19e, or0_19e] <;> omega)) nbA hK
       ·intro c37 h
        try simp (disch := omega) at c37
        refine vcK ?_; simp -implicitDefEqProofs only [go_sem]; subst hc26; refine A2 fun cb hc39 => ?_; refine Ck [3, 8] [0, 1, 2, 3, 4, 5, 6, 7, 8, 9, 10, 11] (by kernel_rfl) (by kernel_rfl) (fun _ _ _ _ h => h) ?_
        try simp -implicitDefEqProofs (disch := omega) [go_sem, bdP, t0_19e, t1_19e, t6_19e, t7_19e, t9_19e, or0_19e]
        obtain ⟨x40, hx40, h⟩ := A5 h; refine DS.mk _ (fun _ _ hK => A6.eqA (args' := [.v (str (x8.1.take v25.toNat))]) (by first | with_reducible rfl | (simp -implicitDefEqProofs (disch := omega) [go_sem, bdP, t0_19e, t1_19e, t6_19e, t7_19e, t9_19e, or0_19e] <;> omega)) (NQ (x8.1.take v25.toNat) hx40 hK)) ?_
        try simp -implicitDefEqProofs (disch := omega) [go_sem, bdP, t0_19e, t1_19e, t6_19e, t7_19e, t9_19e, or0_19e]
        obtain ⟨x41, hx41, h⟩ := A5 h; refine DS.mk _ (fun _ _ hK => A6.eqA (args' := [.v (str (x8.1.drop (IntKind.i64.wrap (v25 + 1)).toNat))]) (by first | with_reducible rfl | (simp -implicitDefEqProofs (disch := omega) [go_sem, bdP, t0_19e, t1_19e, t6_19e, t7_19e, t9_19e, or0_19e] <;> omega)) (Of (x8.1.drop (IntKind.i64.wrap (v25 + 1)).toNat) hx41 hK)) ?_
        try simp -implicitDefEqProofs (disch := omega) [go_sem, bdP, t0_19e, t1_19e, t6_19e, t7_19e, t9_19e, or0_19e]
        subst hc39; refine A2 fun cb hc42 => ?_; refine vcK ?_
        try simp -implicitDefEqProofs (disch := omega) [go_sem, bdP, t0_19e, t1_19e, t6_19e, t7_19e, t9_19e, or0_19e]
        subst hc42; refine A2 fun cb hc43 => ?_; refine vcK ?_; obtain ⟨g44, h⟩ := Ab.1 h
        try simp (disch := omega) at g44
        try simp -implicitDefEqProofs (disch := omega) [go_sem, bdP, t0_19e, t1_19e, t6_19e, t7_19e, t9_19e, or0_19e]
        subst hc43; obtain ⟨y45, hl45q, hk45⟩ := A5 h; refine Dj (fun tm' H' => ∃ n50 : Nat, ∃ v49 : List S55, ∃ v51 : Int, (v49, v51) = y45 ∧ Ext H H' ∧ H19e.next + 1 ≤ H'.next ∧ H.next ≤ n50 ∧ n50 < H'.next ∧ ¬ H19e.next = n50 ∧ tm' 0 = .sl 1 (a0.map fun x => [.v (.int .u8 x.toNat)]) ∧ tm' 1 = .v (.int .i64 x8.2) ∧ tm' 6 = .os n50 v49.length ∧ tm' 10 = .p H19e.next 0 ∧ tm' 11 = .v (.int .i64 v51) ∧ H'.obj H19e.next = some (.cells ([.v (str x40), .v (str x41)])) ∧ H'.obj n50 = some (.row 2 (v49.map fun x => [.v (str x.fName), .v (str x.A8)]))) ?_ fun cb hc45 => ?_
        ·rintro tm45e H45e ⟨n50, v49, v51, rfl, he45e, hl45e, hr0_45e, hs0_45e, hq73, t0_45e, t1_45e, t6_45e, t10_45e, t11_45e, ob0_45e, or0_45e⟩
         have h : Gb x8 x40 v49 v51 = some x3 := hk45; unfold Gb at h; refine A2 fun cb hc52 => ?_; refine Ck [] [0, 1, 2, 3, 4, 5, 6, 7, 8, 9, 10, 11, 12] (by kernel_rfl) (by kernel_rfl) (fun _ _ _ _ h => h) ?_
         try simp -implicitDefEqProofs (disch := omega) [go_sem, bdP, t0_45e, t1_45e, t6_45e, t10_45e, t11_45e, ob0_45e, or0_45e]
         refine A7 h (by first | with_reducible rfl | (simp -implicitDefEqProofs (disch := omega) [go_sem, bdP, t0_45e, t1_45e, t6_45e, t10_45e, t11_45e, ob0_45e, or0_45e] <;> omega)) ?_ ?_
         ·intro c58 h
          try simp (disch := omega) at c58
          obtain ⟨g53, h⟩ := Ab.1 h
          try simp (disch := omega) at g53
          have hrf55 := Qd (f := fun (x : S55) => [.v (str x.fName), .v (str x.A8)]) (l := v49) (d := S55.zero) (i := (IntKind.i64.wrap (v51 - 1)).toNat) (s := 2) (o := 0) (fun _ => rfl) (by omega) (by omega)
          try simp -implicitDefEqProofs (disch := omega) only [List.append_eq, Nat.zero_mul, Nat.add_zero, List.drop_zero, List.getD_eq_getElem?_getD, List.getElem?_eq_getElem, List.getElem?_cons_zero, List.getElem?_cons_succ, Option.getD_some] at hrf55
          have hrl54 := Mx (f := fun (x : S55) => [.v (str x.fName), .v (str x.A8)]) (l := v49) (d := S55.zero) (i := (IntKind.i64.wrap (v51 - 1)).toNat) (s := 2) (fun _ => rfl) (by omega)
          try simp -implicitDefEqProofs (disch := omega) only [List.append_eq, Nat.zero_mul, List.drop_zero, List.getD_eq_getElem?_getD, List.getElem?_eq_getElem, Option.getD_some] at hrl54
          try simp -implicitDefEqProofs (disch := omega) [go_sem] at g53
          try simp -implicitDefEqProofs (disch := omega) [go_sem, bdP, t0_45e, t1_45e, t6_45e, t10_45e, t11_45e, ob0_45e, or0_45e, hrf55, hrl54]
          subst hc52; refine Ac h (by first | with_reducible rfl | (simp -implicitDefEqProofs (disch := omega) [go_sem, bdP, t0_45e, t1_45e, t6_45e, t10_45e, t11_45e, ob0_45e, or0_45e, hrf55, hrl54] <;> omega)) rfl ?_ ?_
          ·intro c56 h
           try simp (disch := omega) at c56
           refine A2 fun cb hc57 => ?_; refine vcK ?_
           try simp -implicitDefEqProofs (disch := omega) [go_sem, bdP, t0_45e, t1_45e, t6_45e, t10_45e, t11_45e, ob0_45e, or0_45e, hrf55, hrl54]
           subst hc57; refine IWp.gh (Gh.C1 4 2 (by (simp -implicitDefEqProofs (disch := omega) [go_sem, bdP, t0_45e, t1_45e, t6_45e, t10_45e, t11_45e, ob0_45e, or0_45e, hrf55, hrl54] <;> omega))) ?_; refine vcK ?_; simp -implicitDefEqProofs only [go_sem]; have e3 := Option.some.inj h; subst e3; have e3 := hret3 _ rfl; subst e3; replace h : some ([], -1) = some r := hk3; have er := Option.some.inj h; subst er
           try simp -implicitDefEqProofs (disch := omega) [go_sem, bdP, t0_45e, t1_45e, t6_45e, t10_45e, t11_45e, ob0_45e, or0_45e, hrf55, hrl54]
           refine A4 (by exact A9 he45e) (by first | with_reducible rfl | (simp -implicitDefEqProofs (disch := omega) [go_sem, bdP, t0_45e, t1_45e, t6_45e, t10_45e, t11_45e, ob0_45e, or0_45e, hrf55, hrl54] <;> omega)) nbA hK
          ·intro c56 h
           try simp (disch := omega) at c56
           refine vcK ?_; simp -implicitDefEqProofs only [go_sem]; have e3 := Option.some.inj h; subst e3; refine Au hI3 (x8.2, v49) ?_; refine .same ⟨n50, by exact A9 he45e, by first | with_reducible rfl | with_reducible assumption | omega | (simp -implicitDefEqProofs (disch := omega) [go_sem, bdP, t0_45e, t1_45e, t6_45e, t10_45e, t11_45e, ob0_45e, or0_45e, hrf55, hrl54] <;> omega), by first | with_reducible rfl | with_reducible assumption | omega | (simp -implicitDefEqProofs (disch := omega) [go_sem, bdP, t0_45e, t1_45e, t6_45e, t10_45e, t11_45e, ob0_45e, or0_45e, hrf55, hrl54] <;> omega), by first | with_reducible rfl | with_reducible assumption | omega | (simp -implicitDefEqProofs (disch := omega) [go_sem, bdP, t0_45e, t1_45e, t6_45e, t10_45e, t11_45e, ob0_45e, or0_45e, hrf55, hrl54] <;> omega), ?_, ?_, ?_, ?_⟩ <;> first | with_reducible rfl | with_reducible assumption | (simp -implicitDefEqProofs (disch := omega) [go_sem, bdP, t0_45e, t1_45e, t6_45e, t10_45e, t11_45e, ob0_45e, or0_45e, hrf55, hrl54] <;> omega)
         ·intro c58 h
          try simp (disch := omega) at c58
          try simp -implicitDefEqProofs (disch := omega) [go_sem, bdP, t0_45e, t1_45e, t6_45e, t10_45e, t11_45e, ob0_45e, or0_45e]
          subst hc52; refine AG (by first | with_reducible rfl | (simp -implicitDefEqProofs (disch := omega) [go_sem, bdP, t0_45e, t1_45e, t6_45e, t10_45e, t11_45e, ob0_45e, or0_45e] <;> omega)) rfl ?_; refine vcK ?_; simp -implicitDefEqProofs only [go_sem]; have e3 := Option.some.inj h; subst e3; refine Au hI3 (x8.2, v49) ?_; refine .same ⟨n50, by exact A9 he45e, by first | with_reducible rfl | with_reducible assumption | omega | (simp -implicitDefEqProofs (disch := omega) [go_sem, bdP, t0_45e, t1_45e, t6_45e, t10_45e, t11_45e, ob0_45e, or0_45e] <;> omega), by first | with_reducible rfl | with_reducible assumption | omega | (simp -implicitDefEqProofs (disch := omega) [go_sem, bdP, t0_45e, t1_45e, t6_45e, t10_45e, t11_45e, ob0_45e, or0_45e] <;> omega), by first | with_reducible rfl | with_reducible assumption | omega | (simp -implicitDefEqProofs (disch := omega) [go_sem, bdP, t0_45e, t1_45e, t6_45e, t10_45e, t11_45e, ob0_45e, or0_45e] <;> omega), ?_, ?_, ?_, ?_⟩ <;> first | with_reducible rfl | with_reducible assumption | (simp -implicitDefEqProofs (disch := omega) [go_sem, bdP, t0_45e, t1_45e, t6_45e, t10_45e, t11_45e, ob0_45e, or0_45e] <;> omega)
        ·refine Ai ?_; refine AF (fun (s : (List S55) × Int) tm' H' => ∃ n47 : Nat, Ext H H' ∧ H19e.next + 1 ≤ H'.next ∧ H.next ≤ n47 ∧ n47 < H'.next ∧ ¬ H19e.next = n47 ∧ tm' 0 = .sl 1 (a0.map fun x => [.v (.int .u8 x.toNat)]) ∧ tm' 1 = .v (.int .i64 x8.2) ∧ tm' 6 = .os n47 s.1.length ∧ tm' 10 = .p H19e.next 0 ∧ tm' 11 = .v (.int .i64 s.2) ∧ H'.obj H19e.next = some (.cells ([.v (str x40), .v (str x41)])) ∧ H'.obj n47 = some (.row 2 (s.1.map fun x => [.v (str x.fName), .v (str x.A8)]))) hl45q ?_ ?_
         ·refine .same ⟨n24, by exact A9 he19e, by first | with_reducible rfl | with_reducible assumption | omega | (simp -implicitDefEqProofs (disch := omega) [go_sem, bdP, t0_19e, t1_19e, t6_19e, t7_19e, t9_19e, or0_19e] <;> omega), by first | with_reducible rfl | with_reducible assumption | omega | (simp -implicitDefEqProofs (disch := omega) [go_sem, bdP, t0_19e, t1_19e, t6_19e, t7_19e, t9_19e, or0_19e] <;> omega), by first | with_reducible rfl | with_reducible assumption | omega | (simp -implicitDefEqProofs (disch := omega) [go_sem, bdP, t0_19e, t1_19e, t6_19e, t7_19e, t9_19e, or0_19e] <;> omega), by first | with_reducible rfl | with_reducible assumption | omega | (simp -implicitDefEqProofs (disch := omega) [go_sem, bdP, t0_19e, t1_19e, t6_19e, t7_19e, t9_19e, or0_19e] <;> omega), ?_, ?_, ?_, ?_, ?_, ?_, ?_⟩ <;> first | with_reducible rfl | with_reducible assumption | (simp -implicitDefEqProofs (disch := omega) [go_sem, bdP, t0_19e, t1_19e, t6_19e, t7_19e, t9_19e, or0_19e] <;> omega)
         ·rintro I45 hI45 ⟨v46, v48⟩ x45 tm45 H45 ⟨n47, he45, hl45, Zz, ZA, hq74, CQ, CR, CS, Cc, Cd, Ce, Cf⟩ h hret45
          replace h : EC x40 v46 v48 = some x45 := h; unfold EC at h; refine A2 fun cb hc59 => ?_; refine A2 fun cb hc60 => ?_; refine Ck [] [0, 1, 2, 3, 4, 5, 6, 7, 8, 9, 10, 11, 12] (by kernel_rfl) (by kernel_rfl) (fun _ _ _ _ h => h) ?_
          try simp -implicitDefEqProofs (disch := omega) [go_sem, bdP, CQ, CR, CS, Cc, Cd, Ce, Cf]
          refine A7 h (by first | with_reducible rfl | (simp -implicitDefEqProofs (disch := omega) [go_sem, bdP, CQ, CR, CS, Cc, Cd, Ce, Cf] <;> omega)) ?_ ?_
          ·intro c72 h
           try simp (disch := omega) at c72
           obtain ⟨g61, h⟩ := Ab.1 h
           try simp (disch := omega) at g61
           have hrf63 := Qd (f := fun (x : S55) => [.v (str x.fName), .v (str x.A8)]) (l := v46) (d := S55.zero) (i := (IntKind.i64.wrap (v48 - 1)).toNat) (s := 2) (o := 0) (fun _ => rfl) (by omega) (by omega)
           try simp -implicitDefEqProofs (disch := omega) only [List.append_eq, Nat.zero_mul, Nat.add_zero, List.drop_zero, List.getD_eq_getElem?_getD, List.getElem?_eq_getElem, List.getElem?_cons_zero, List.getElem?_cons_succ, Option.getD_some] at hrf63
           have hrl62 := Mx (f := fun (x : S55) => [.v (str x.fName), .v (str x.A8)]) (l := v46) (d := S55.zero) (i := (IntKind.i64.wrap (v48 - 1)).toNat) (s := 2) (fun _ => rfl) (by omega)
           try simp -implicitDefEqProofs (disch := omega) only [List.append_eq, Nat.zero_mul, List.drop_zero, List.getD_eq_getElem?_getD, List.getElem?_eq_getElem, Option.getD_some] at hrl62
           try simp -implicitDefEqProofs (disch := omega) [go_sem] at g61
           try simp -implicitDefEqProofs (disch := omega) [go_sem, bdP, CQ, CR, CS, Cc, Cd, Ce, Cf, hrf63, hrl62]
           subst hc60; refine Ac h (by first | with_reducible rfl | (simp -implicitDefEqProofs (disch := omega) [go_sem, bdP, CQ, CR, CS, Cc, Cd, Ce, Cf, hrf63, hrl62] <;> omega)) rfl ?_ ?_
           ·intro c64 h
            try simp (disch := omega) at c64
            refine vcK ?_; simp -implicitDefEqProofs only [go_sem]; subst hc59; refine Ai ?_; refine A2 fun cb hc65 => ?_; refine Ck [] [0, 1, 2, 3, 4, 5, 6, 7, 8, 9, 10, 11, 12, 13, 14, 15, 16, 17] (by kernel_rfl) (by kernel_rfl) (fun _ _ _ _ h => h) ?_; have hrl66 := Mx (f := fun (x : S55) => [.v (str x.fName), .v (str x.A8)]) (l := v46) (d := S55.zero) (i := (IntKind.i64.wrap (v48 - 1)).toNat) (s := 2) (fun _ => rfl) (by omega)
            try simp -implicitDefEqProofs (disch := omega) only [List.append_eq, Nat.zero_mul, List.drop_zero, List.getD_eq_getElem?_getD, List.getElem?_eq_getElem, Option.getD_some] at hrl66
            obtain ⟨g67, h⟩ := Ab.1 h
            try simp (disch := omega) at g67
            have hrl68 := Mx (f := fun (x : S55) => [.v (str x.fName), .v (str x.A8)]) (l := v46) (d := S55.zero) (i := v48.toNat) (s := 2) (fun _ => rfl) (by omega)
            try simp -implicitDefEqProofs (disch := omega) only [List.append_eq, Nat.zero_mul, List.drop_zero, List.getD_eq_getElem?_getD, List.getElem?_eq_getElem, Option.getD_some] at hrl68
            have hrp69 := IY (s := 2) (f := fun (x : S55) => [.v (str x.fName), .v (str x.A8)]) (l := v46) (d := S55.zero) (i := v48.toNat) (vc := [.v (str ((v46.getD (IntKind.i64.wrap (v48 - 1)).toNat S55.zero).fName)), .v (str ((v46.getD (IntKind.i64.wrap (v48 - 1)).toNat S55.zero).A8))]) (x := v46.getD (IntKind.i64.wrap (v48 - 1)).toNat S55.zero) (by first | omega | (simp; omega)) (by simp [DP, go_sem, g67] <;> omega) (by omega)
            try simp -implicitDefEqProofs (disch := first | omega | (simp; omega)) only [List.append_eq, Nat.zero_mul, List.map_set, List.getD_eq_getElem?_getD, List.getElem?_eq_getElem, Option.getD_some] at hrp69
            obtain ⟨g70, h⟩ := Ab.1 h
            try simp (disch := omega) at g70
            have hrp71 := IY (s := 2) (f := fun (x : S55) => [.v (str x.fName), .v (str x.A8)]) (l := v46.set v48.toNat (v46.getD (IntKind.i64.wrap (v48 - 1)).toNat S55.zero)) (d := S55.zero) (i := (IntKind.i64.wrap (v48 - 1)).toNat) (vc := [.v (str ((v46.getD v48.toNat S55.zero).fName)), .v (str ((v46.getD v48.toNat S55.zero).A8))]) (x := v46.getD v48.toNat S55.zero) (by first | omega | (simp; omega)) (by simp [DP, go_sem, g67, g70] <;> omega) (by omega)
            try simp -implicitDefEqProofs (disch := first | omega | (simp; omega)) only [List.append_eq, Nat.zero_mul, List.map_set, List.getD_eq_getElem?_getD, List.getElem?_eq_getElem, Option.getD_some] at hrp71
            try simp -implicitDefEqProofs (disch := omega) [go_sem] at g70
            try simp -implicitDefEqProofs (disch := omega) [go_sem, bdP, CQ, CR, CS, Cc, Cd, Ce, Cf, hrf63, hrl62, hrl66, hrl68, hrp69, hrp71]
            subst hc65; refine vcK ?_
            try simp -implicitDefEqProofs (disch := omega) [go_sem, bdP, CQ, CR, CS, Cc, Cd, Ce, Cf, hrf63, hrl62, hrl66, hrl68, hrp69, hrp71]
            have e45 := Option.some.inj h; subst e45; refine Au hI45 (((v46.set v48.toNat (v46.getD (IntKind.i64.wrap (v48 - 1)).toNat S55.zero)).set (IntKind.i64.wrap (v48 - 1)).toNat (v46.getD v48.toNat S55.zero), IntKind.i64.wrap (v48 - 1))) ?_; refine .same ⟨n47, by exact A9 he45, by first | with_reducible rfl | with_reducible assumption | omega | (simp -implicitDefEqProofs (disch := omega) [go_sem, bdP, CQ, CR, CS, Cc, Cd, Ce, Cf, hrf63, hrl62, hrl66, hrl68, hrp69, hrp71] <;> omega), by first | with_reducible rfl | with_reducible assumption | omega | (simp -implicitDefEqProofs (disch := omega) [go_sem, bdP, CQ, CR, CS, Cc, Cd, Ce, Cf, hrf63, hrl62, hrl66, hrl68, hrp69, hrp71] <;> omega), by first | with_reducible rfl | with_reducible assumption | omega | (simp -implicitDefEqProofs (disch := omega) [go_sem, bdP, CQ, CR, CS, Cc, Cd, Ce, Cf, hrf63, hrl62, hrl66, hrl68, hrp69, hrp71] <;> omega), by first | with_reducible rfl | with_reducible assumption | omega | (simp -implicitDefEqProofs (disch := omega) [go_sem, bdP, CQ, CR, CS, Cc, Cd, Ce, Cf, hrf63, hrl62, hrl66, hrl68, hrp69, hrp71] <;> omega), ?_, ?_, ?_, ?_, ?_, ?_, ?_⟩ <;> first | with_reducible rfl | with_reducible assumption | (simp -implicitDefEqProofs (disch := omega) [go_sem, bdP, CQ, CR, CS, Cc, Cd, Ce, Cf, hrf63, hrl62, hrl66, hrl68, hrp69, hrp71] <;> omega)
           ·intro c64 h
            try simp (disch := omega) at c64
            refine vcK ?_; simp -implicitDefEqProofs only [go_sem]; have e45 := Option.some.inj h; subst e45; have hy45 := hret45 _ rfl; refine hc45 _ _ ?_; refine .same ⟨n47, v46, v48, hy45, by exact A9 he45, by first | with_reducible rfl | with_reducible assumption | omega | (simp -implicitDefEqProofs (disch := omega) [go_sem, bdP, CQ, CR, CS, Cc, Cd, Ce, Cf, hrf63, hrl62] <;> omega), by first | with_reducible rfl | with_reducible assumption | omega | (simp -implicitDefEqProofs (disch := omega) [go_sem, bdP, CQ, CR, CS, Cc, Cd, Ce, Cf, hrf63, hrl62] <;> omega), by first | with_reducible rfl | with_reducible assumption | omega | (simp -implicitDefEqProofs (disch := omega) [go_sem, bdP, CQ, CR, CS, Cc, Cd, Ce, Cf, hrf63, hrl62] <;> omega), by first | with_reducible rfl | with_reducible assumption | omega | (simp -implicitDefEqProofs (disch := omega) [go_sem, bdP, CQ, CR, CS, Cc, Cd, Ce, Cf, hrf63, hrl62] <;> omega), ?_, ?_, ?_, ?_, ?_, ?_, ?_⟩ <;> first | with_reducible rfl | with_reducible assumption | (simp -implicitDefEqProofs (disch := omega) [go_sem, bdP, CQ, CR, CS, Cc, Cd, Ce, Cf, hrf63, hrl62] <;> omega)
          ·intro c72 h
           try simp (disch := omega) at c72
           try simp -implicitDefEqProofs (disch := omega) [go_sem, bdP, CQ, CR, CS, Cc, Cd, Ce, Cf]
           subst hc60; refine AG (by first | with_reducible rfl | (simp -implicitDefEqProofs (disch := omega) [go_sem, bdP, CQ, CR, CS, Cc, Cd, Ce, Cf] <;> omega)) rfl ?_; refine vcK ?_; simp -implicitDefEqProofs only [go_sem]; have e45 := Option.some.inj h; subst e45; have hy45 := hret45 _ rfl; refine hc45 _ _ ?_; refine .same ⟨n47, v46, v48, hy45, by exact A9 he45, by first | with_reducible rfl | with_reducible assumption | omega | (simp -implicitDefEqProofs (disch := omega) [go_sem, bdP, CQ, CR, CS, Cc, Cd, Ce, Cf] <;> omega), by first | with_reducible rfl | with_reducible assumption | omega | (simp -implicitDefEqProofs (disch := omega) [go_sem, bdP, CQ, CR, CS, Cc, Cd, Ce, Cf] <;> omega), by first | with_reducible rfl | with_reducible assumption | omega | (simp -implicitDefEqProofs (disch := omega) [go_sem, bdP, CQ, CR, CS, Cc, Cd, Ce, Cf] <;> omega), by first | with_reducible rfl | with_reducible assumption | omega | (simp -implicitDefEqProofs (disch := omega) [go_sem, bdP, CQ, CR, CS, Cc, Cd, Ce, Cf] <;> omega), ?_, ?_, ?_, ?_, ?_, ?_, ?_⟩ <;> first | with_reducible rfl | with_reducible assumption | (simp -implicitDefEqProofs (disch := omega) [go_sem, bdP, CQ, CR, CS, Cc, Cd, Ce, Cf] <;> omega)
    ·refine Ai ?_; refine AF (fun (s : (List S55) × Int) tm' H' => ∃ n21 : Nat, Ext H H' ∧ H3.next ≤ H'.next ∧ H.next ≤ n21 ∧ n21 < H'.next ∧ tm' 0 = .sl 1 (a0.map fun x => [.v (.int .u8 x.toNat)]) ∧ tm' 1 = .v (.int .i64 x8.2) ∧ tm' 6 = .os n21 s.1.length ∧ tm' 7 = .v (str x8.1) ∧ tm' 9 = .v (.int .i64 s.2) ∧ H'.obj n21 = some (.row 2 (s.1.map fun x => [.v (str x.fName), .v (str x.A8)]))) hl19q ?_ ?_
     ·refine .same ⟨n6, by exact A9 he3, by first | with_reducible rfl | with_reducible assumption | omega | (simp -implicitDefEqProofs (disch := omega) [go_sem, bdP, Aw, BT, BU, Ap] <;> omega), by first | with_reducible rfl | with_reducible assumption | omega | (simp -implicitDefEqProofs (disch := omega) [go_sem, bdP, Aw, BT, BU, Ap] <;> omega), by first | with_reducible rfl | with_reducible assumption | omega | (simp -implicitDefEqProofs (disch := omega) [go_sem, bdP, Aw, BT, BU, Ap] <;> omega), ?_, ?_, ?_, ?_, ?_, ?_⟩ <;> first | with_reducible rfl | with_reducible assumption | (simp -implicitDefEqProofs (disch := omega) [go_sem, bdP, Aw, BT, BU, Ap] <;> omega)
     ·rintro I19 hI19 ⟨v20, v22⟩ x19 tm19 H19 ⟨n21, he19, hl19, ZB, ZC, Dn, Dp, Dq, Dr, Ds, CE⟩ h hret19
      replace h : C_ x8 v20 v22 = some x19 := h; unfold C_ at h; refine A2 fun cb hc77 => ?_; refine A2 fun cb hc78 => ?_; refine vcK ?_
      try simp -implicitDefEqProofs (disch := omega) [go_sem, bdP, Dn, Dp, Dq, Dr, Ds, CE]
      refine A7 h (by first | with_reducible rfl | (simp -implicitDefEqProofs (disch := omega) [go_sem, bdP, Dn, Dp, Dq, Dr, Ds, CE] <;> omega)) ?_ ?_
      ·intro c81 h
       try simp (disch := omega) at c81
       obtain ⟨g79, h⟩ := Ab.1 h
       try simp (disch := omega) at g79
       try simp -implicitDefEqProofs (disch := omega) [go_sem, bdP, Dn, Dp, Dq, Dr, Ds, CE]
       subst hc78; refine Ac h (by first | with_reducible rfl | (simp -implicitDefEqProofs (disch := omega) [go_sem, bdP, Dn, Dp, Dq, Dr, Ds, CE] <;> omega)) rfl ?_ ?_
       ·intro c80 h
        try simp (disch := omega) at c80
        refine vcK ?_; simp -implicitDefEqProofs only [go_sem]; subst hc77; refine Ai ?_; refine vcK ?_
        try simp -implicitDefEqProofs (disch := omega) [go_sem, bdP, Dn, Dp, Dq, Dr, Ds, CE]
        have e19 := Option.some.inj h; subst e19; refine Au hI19 ((v20, IntKind.i64.wrap (v22 + 1))) ?_; refine .same ⟨n21, by exact A9 he19, by first | with_reducible rfl | with_reducible assumption | omega | (simp -implicitDefEqProofs (disch := omega) [go_sem, bdP, Dn, Dp, Dq, Dr, Ds, CE] <;> omega), by first | with_reducible rfl | with_reducible assumption | omega | (simp -implicitDefEqProofs (disch := omega) [go_sem, bdP, Dn, Dp, Dq, Dr, Ds, CE] <;> omega), by first | with_reducible rfl | with_reducible assumption | omega | (simp -implicitDefEqProofs (disch := omega) [go_sem, bdP, Dn, Dp, Dq, Dr, Ds, CE] <;> omega), ?_, ?_, ?_, ?_, ?_, ?_⟩ <;> first | with_reducible rfl | with_reducible assumption | (simp -implicitDefEqProofs (disch := omega) [go_sem, bdP, Dn, Dp, Dq, Dr, Ds, CE] <;> omega)
       ·intro c80 h
        try simp (disch := omega) at c80
        refine vcK ?_; simp -implicitDefEqProofs only [go_sem]; have e19 := Option.some.inj h; subst e19; have hy19 := hret19 _ rfl; refine hc19 _ _ ?_; refine .same ⟨n21, v20, v22, hy19, by exact A9 he19, by first | with_reducible rfl | with_reducible assumption | omega | (simp -implicitDefEqProofs (disch := omega) [go_sem, bdP, Dn, Dp, Dq, Dr, Ds, CE] <;> omega), by first | with_reducible rfl | with_reducible assumption | omega | (simp -implicitDefEqProofs (disch := omega) [go_sem, bdP, Dn, Dp, Dq, Dr, Ds, CE] <;> omega), by first | with_reducible rfl | with_reducible assumption | omega | (simp -implicitDefEqProofs (disch := omega) [go_sem, bdP, Dn, Dp, Dq, Dr, Ds, CE] <;> omega), ?_, ?_, ?_, ?_, ?_, ?_⟩ <;> first | with_reducible rfl | with_reducible assumption | (simp -implicitDefEqProofs (disch := omega) [go_sem, bdP, Dn, Dp, Dq, Dr, Ds, CE] <;> omega)
      ·intro c81 h
       try simp (disch := omega) at c81
       try simp -implicitDefEqProofs (disch := omega) [go_sem, bdP, Dn, Dp, Dq, Dr, Ds, CE]
       subst hc78; refine AG (by first | with_reducible rfl | (simp -implicitDefEqProofs (disch := omega) [go_sem, bdP, Dn, Dp, Dq, Dr, Ds, CE] <;> omega)) rfl ?_; refine vcK ?_; simp -implicitDefEqProofs only [go_sem]; have e19 := Option.some.inj h; subst e19; have hy19 := hret19 _ rfl; refine hc19 _ _ ?_; refine .same ⟨n21, v20, v22, hy19, by exact A9 he19, by first | with_reducible rfl | with_reducible assumption | omega | (simp -implicitDefEqProofs (disch := omega) [go_sem, bdP, Dn, Dp, Dq, Dr, Ds, CE] <;> omega), by first | with_reducible rfl | with_reducible assumption | omega | (simp -implicitDefEqProofs (disch := omega) [go_sem, bdP, Dn, Dp, Dq, Dr, Ds, CE] <;> omega), by first | with_reducible rfl | with_reducible assumption | omega | (simp -implicitDefEqProofs (disch := omega) [go_sem, bdP, Dn, Dp, Dq, Dr, Ds, CE] <;> omega), ?_, ?_, ?_, ?_, ?_, ?_⟩ <;> first | with_reducible rfl | with_reducible assumption | (simp -implicitDefEqProofs (disch := omega) [go_sem, bdP, Dn, Dp, Dq, Dr, Ds, CE] <;> omega)
end Go.Idl
namespace Go.Idl
open Go Go.Proofs.Tryz
noncomputable def ED (a0 : List UInt8) (x8 : (List UInt8) × Int) (v23 : List UInt8) (v25 : Int) : Option ((Int × (List UInt8)) ⊕ ((List UInt8) × Bool)) :=
 if v25 = 0 then ((F53 a0 x8.2).bind fun (x30 : (List UInt8) × Int) => if x8.1 = ([48]) then (if x30.2 = (a0.length : Int) then (some (.inr ((v23, decide (x30.1 = []))))) else (some (.inr (v23, false)))) else (some (.inr (v23, false)))) else (if (IntKind.i64.wrap ((a0.length : Int) - x8.2)) < (IntKind.i64.wrap (v25 + 2)) then (some (.inr ([], false))) else (gd (0 ≤ (IntKind.i64.wrap (x8.2 + v25)) ∧ (IntKind.i64.wrap (x8.2 + v25)) < a0.length) (if ¬ (((a0.getD (IntKind.i64.wrap (x8.2 + v25)).toNat 0).toNat : Int)) = 13 then (some (.inr ([], false))) else (gd (0 ≤ (IntKind.i64.wrap ((IntKind.i64.wrap (x8.2 + v25)) + 1)) ∧ (IntKind.i64.wrap ((IntKind.i64.wrap (x8.2 + v25)) + 1)) < a0.length) (if ¬ (((a0.getD (IntKind.i64.wrap ((IntKind.i64.wrap (x8.2 + v25)) + 1)).toNat 0).toNat : Int)) = 10 then (some (.inr ([], false))) else (gd (0 ≤ x8.2) (gd (x8.2 ≤ IntKind.i64.wrap (x8.2 + v25)) (gd (IntKind.i64.wrap (x8.2 + v25) ≤ a0.length) (gd ((v23.length + ((a0.take (IntKind.i64.wrap (x8.2 + v25)).toNat).drop x8.2.toNat).length) * 1 ≤ 140737488355328) (some (.inl ((IntKind.i64.wrap ((IntKind.i64.wrap (x8.2 + v25)) + 2), v23 ++ ((a0.take (IntKind.i64.wrap (x8.2 + v25)).toNat).drop x8.2.toNat))))))))))))))
noncomputable def Dt (x8 : (List UInt8) × Int) (v19 : List UInt8) (v21 : Int) (v22 : Int) : Option (((List UInt8) × Int × Int) ⊕ (((List UInt8) × Int) ⊕ ((List UInt8) × Bool))) :=
 if v22 < (x8.1.length : Int) then (gd (0 ≤ v22 ∧ v22 < x8.1.length) (if 48 ≤ (IntKind.i64.wrap (((x8.1.getD v22.toNat 0).toNat : Int))) then (if (IntKind.i64.wrap (((x8.1.getD v22.toNat 0).toNat : Int))) ≤ 57 then (some (.inl ((v19, IntKind.i64.wrap ((IntKind.i64.wrap (16 * v21)) + (IntKind.i64.wrap ((IntKind.i64.wrap (((x8.1.getD v22.toNat 0).toNat : Int))) - 48))), IntKind.i64.wrap (v22 + 1))))) else (if 97 ≤ (IntKind.i64.wrap (((x8.1.getD v22.toNat 0).toNat : Int))) then (if (IntKind.i64.wrap (((x8.1.getD v22.toNat 0).toNat : Int))) ≤ 102 then (some (.inl ((v19, IntKind.i64.wrap ((IntKind.i64.wrap (16 * v21)) + (IntKind.i64.wrap ((IntKind.i64.wrap (((x8.1.getD v22.toNat 0).toNat : Int))) - 87))), IntKind.i64.wrap (v22 + 1))))) else (if 65 ≤ (IntKind.i64.wrap (((x8.1.getD v22.toNat 0).toNat : Int))) then (if (IntKind.i64.wrap (((x8.1.getD v22.toNat 0).toNat : Int))) ≤ 70 then (some (.inl ((v19, IntKind.i64.wrap ((IntKind.i64.wrap (16 * v21)) + (IntKind.i64.wrap ((IntKind.i64.wrap (((x8.1.getD v22.toNat 0).toNat : Int))) - 55))), IntKind.i64.wrap (v22 + 1))))) else (some (.inr (.inr ([], false))))) else (some (.inr (.inr ([], false)))))) else (if 65 ≤ (IntKind.i64.wrap (((x8.1.getD v22.toNat 0).toNat : Int))) then (if (IntKind.i64.wrap (((x8.1.getD v22.toNat 0).toNat : Int))) ≤ 70 then (some (.inl ((v19, IntKind.i64.wrap ((IntKind.i64.wrap (16 * v21)) + (IntKind.i64.wrap ((IntKind.i64.wrap (((x8.1.getD v22.toNat 0).toNat : Int))) - 55))), IntKind.i64.wrap (v22 + 1))))) else (some (.inr (.inr ([], false))))) else (some (.inr (.inr ([], false))))))) else (if 97 ≤ (IntKind.i64.wrap (((x8.1.getD v22.toNat 0).toNat : Int))) then (if (IntKind.i64.wrap (((x8.1.getD v22.toNat 0).toNat : Int))) ≤ 102 then (some (.inl ((v19, IntKind.i64.wrap ((IntKind.i64.wrap (16 * v21)) + (IntKind.i64.wrap ((IntKind.i64.wrap (((x8.1.getD v22.toNat 0).toNat : Int))) - 87))), IntKind.i64.wrap (v22 + 1))))) else (if 65 ≤ (IntKind.i64.wrap (((x8.1.getD v22.toNat 0).toNat : Int))) then (if (IntKind.i64.wrap (((x8.1.getD v22.toNat 0).toNat : Int))) ≤ 70 then (some (.inl ((v19, IntKind.i64.wrap ((IntKind.i64.wrap (16 * v21)) + (IntKind.i64.wrap ((IntKind.i64.wrap (((x8.1.getD v22.toNat 0).toNat : Int))) - 55))), IntKind.i64.wrap (v22 + 1))))) else (some (.inr (.inr ([], false))))) else (some (.inr (.inr ([], false)))))) else (if 65 ≤ (IntKind.i64.wrap (((x8.1.getD v22.toNat 0).toNat : Int))) then (if (IntKind.i64.wrap (((x8.1.getD v22.toNat 0).toNat : Int))) ≤ 70 then (some (.inl ((v19, IntKind.i64.wrap ((IntKind.i64.wrap (16 * v21)) + (IntKind.i64.wrap ((IntKind.i64.wrap (((x8.1.getD v22.toNat 0).toNat : Int))) - 55))), IntKind.i64.wrap (v22 + 1))))) else (some (.inr (.inr ([], false))))) else (some (.inr (.inr ([], false)))))))) else (some (.inr (.inl (v19, v21))))
noncomputable def E0 (a0 : List UInt8) (v4 : Int) (v5 : List UInt8) : Option ((Int × (List UInt8)) ⊕ ((List UInt8) × Bool)) :=
 (F53 a0 v4).bind fun (x8 : (List UInt8) × Int) => if x8.2 < 0 then (some (.inr ([], false))) else (if (x8.1.length : Int) < 1 then (some (.inr ([], false))) else (if 5 < (x8.1.length : Int) then (some (.inr ([], false))) else ((AH (fun (s : (List UInt8) × Int × Int) => Dt x8 s.1 s.2.1 s.2.2) (v5, 0, 0)).bind fun y => Sum.elim (fun (e : (List UInt8) × Int) => ED a0 x8 e.1 e.2) (fun (q : (List UInt8) × Bool) => some (.inr q)) y)))
noncomputable def F78 (a0 : List UInt8) (a1 : Int) : Option ((List UInt8) × Bool) :=
 (AH (fun (s : Int × (List UInt8)) => E0 a0 s.1 s.2) (a1, [])).bind fun (q : (List UInt8) × Bool) => some q
set_option maxHeartbeats 8000000 in
set_option pp.deepTerms false in
set_option maxRecDepth 60000 in
theorem Vg {H : A3} {K : AB → A3 → Prop} (a0 : List UInt8) (a1 : Int) {r : (List UInt8) × Bool} (h : F78 a0 a1 = some r) (hK : K (.ret (.tu [.sl 1 (r.1.map fun x => [.v (.int .u8 x.toNat)]), .v (.bool r.2)])) H) : A6 prog 78 [.sl 1 (a0.map fun x => [.v (.int .u8 x.toNat)]), .v (.int .i64 a1)] H K := by
 refine Ae (N := 132) func78 (by kernel_rfl) rfl (by kernel_rfl) (by kernel_rfl) fun cb hcb hw hbd hnb => ?_; clear hbd hnb; subst hcb; unfold F78 at h; refine A2 fun cb hc1 => ?_; refine vcK ?_
 try simp -implicitDefEqProofs (disch := omega) [go_sem]
 subst hc1; refine A2 fun cb hc2 => ?_; refine vcK ?_
 try simp -implicitDefEqProofs (disch := omega) [go_sem]
 subst hc2; obtain ⟨y3, hl3q, hk3⟩ := A5 h; refine Ai ?_; refine AF (fun (s : Int × (List UInt8)) tm' H' => ∃ n6 : Nat, Ext H H' ∧ H.next ≤ H'.next ∧ H.next ≤ n6 ∧ n6 < H'.next ∧ tm' 0 = .sl 1 (a0.map fun x => [.v (.int .u8 x.toNat)]) ∧ tm' 1 = .v (.int .i64 s.1) ∧ tm' 6 = .os n6 s.2.length ∧ H'.obj n6 = some (.row 1 (s.2.map fun x => [.v (.int .u8 x.toNat)]))) hl3q ?_ ?_
 ·refine UpI.gh (Gh.GM (d := 6) (sz := 1) (by omega) (by (simp -implicitDefEqProofs (disch := omega) [go_sem] <;> omega))) ?_; refine .same ⟨H.next, by exact A9 (Ext.refl hw), by first | with_reducible rfl | with_reducible assumption | omega | (simp -implicitDefEqProofs (disch := omega) [go_sem] <;> omega), by first | with_reducible rfl | with_reducible assumption | omega | (simp -implicitDefEqProofs (disch := omega) [go_sem] <;> omega), by first | with_reducible rfl | with_reducible assumption | omega | (simp -implicitDefEqProofs (disch := omega) [go_sem] <;> omega), ?_, ?_, ?_, ?_⟩ <;> first | with_reducible rfl | with_reducible assumption | (simp -implicitDefEqProofs (disch := omega) [go_sem] <;> omega)
 ·rintro I3 hI3 ⟨v4, v5⟩ x3 tm3 H3 ⟨n6, he3, hl3, Ty, Tz, Aw, BT, BU, Ap⟩ h hret3
  replace h : E0 a0 v4 v5 = some x3 := h; unfold E0 at h; refine Ai ?_; refine A2 fun cb hc7 => ?_; refine vcK ?_
  try simp -implicitDefEqProofs (disch := omega) [go_sem, Aw, BT, BU, Ap]
  obtain ⟨x8, hx8, h⟩ := A5 h; refine A6.eqA (args' := [.sl 1 (a0.map fun x => [.v (.int .u8 x.toNat)]), .v (.int .i64 v4)]) (by first | with_reducible rfl | (simp -implicitDefEqProofs (disch := omega) [go_sem, Aw, BT, BU, Ap] <;> omega)) (Ka a0 v4 hx8 ?_)
  try simp -implicitDefEqProofs (disch := omega) [go_sem, Aw, BT, BU, Ap]
  subst hc7; refine A2 fun cb hc9 => ?_; refine A2 fun cb hc10 => ?_; refine vcK ?_
  try simp -implicitDefEqProofs (disch := omega) [go_sem, Aw, BT, BU, Ap]
  refine A7 h (by first | with_reducible rfl | (simp -implicitDefEqProofs (disch := omega) [go_sem, Aw, BT, BU, Ap] <;> omega)) ?_ ?_
  ·intro c86 h
   try simp (disch := omega) at c86
   try simp -implicitDefEqProofs (disch := omega) [go_sem, Aw, BT, BU, Ap]
   subst hc10; refine As (by first | with_reducible rfl | (simp -implicitDefEqProofs (disch := omega) [go_sem, Aw, BT, BU, Ap] <;> omega)) rfl ?_; refine A2 fun cb hc11 => ?_; refine vcK ?_
   try simp -implicitDefEqProofs (disch := omega) [go_sem, Aw, BT, BU, Ap]
   subst hc11; refine IWp.gh (Gh.C1 4 1 (by (simp -implicitDefEqProofs (disch := omega) [go_sem, Aw, BT, BU, Ap] <;> omega))) ?_; refine vcK ?_; simp -implicitDefEqProofs only [go_sem]; have e3 := Option.some.inj h; subst e3; have e3 := hret3 _ rfl; subst e3; replace h : some ([], false) = some r := hk3; have er := Option.some.inj h; subst er
   try simp -implicitDefEqProofs (disch := omega) [go_sem, Aw, BT, BU, Ap]
   refine A4 (by exact A9 he3) (by first | with_reducible rfl | (simp -implicitDefEqProofs (disch := omega) [go_sem, Aw, BT, BU, Ap] <;> omega)) nbA hK
  ·intro c86 h
   try simp (disch := omega) at c86
   try simp -implicitDefEqProofs (disch := omega) [go_sem, Aw, BT, BU, Ap]
   refine A7 h (by first | with_reducible rfl | (simp -implicitDefEqProofs (disch := omega) [go_sem, Aw, BT, BU, Ap] <;> omega)) ?_ ?_
   ·intro c85 h
    try simp (disch := omega) at c85
    try simp -implicitDefEqProofs (disch := omega) [go_sem, Aw, BT, BU, Ap]
    subst hc10; refine As (by first | with_reducible rfl | (simp -implicitDefEqProofs (disch := omega) [go_sem, Aw, BT, BU, Ap] <;> omega)) rfl ?_; refine A2 fun cb hc12 => ?_; refine vcK ?_
    try simp -implicitDefEqProofs (disch := omega) [go_sem, Aw, BT, BU, Ap]
    subst hc12; refine IWp.gh (Gh.C1 4 1 (by (simp -implicitDefEqProofs (disch := omega) [go_sem, Aw, BT, BU, Ap] <;> omega))) ?_; refine vcK ?_; simp -implicitDefEqProofs only [go_sem]; have e3 := Option.some.inj h; subst e3; have e3 := hret3 _ rfl; subst e3; replace h : some ([], false) = some r := hk3; have er := Option.some.inj h; subst er
    try simp -implicitDefEqProofs (disch := omega) [go_sem, Aw, BT, BU, Ap]
    refine A4 (by exact A9 he3) (by first | with_reducible rfl | (simp -implicitDefEqProofs (disch := omega) [go_sem, Aw, BT, BU, Ap] <;> omega)) nbA hK
   ·intro c85 h
    try simp (disch := omega) at c85
    try simp -implicitDefEqProofs (disch := omega) [go_sem, Aw, BT, BU, Ap]
    subst hc10; refine Ac h (by first | with_reducible rfl | (simp -implicitDefEqProofs (disch := omega) [go_sem, Aw, BT, BU, Ap] <;> omega)) rfl ?_ ?_
    ·intro c13 h
     try simp (disch := omega) at c13
     refine A2 fun cb hc14 => ?_; refine vcK ?_
     try simp -implicitDefEqProofs (disch := omega) [go_sem, Aw, BT, BU, Ap]
     subst hc14; refine IWp.gh (Gh.C1 4 1 (by (simp -implicitDefEqProofs (disch := omega) [go_sem, Aw, BT, BU, Ap] <;> omega))) ?_; refine vcK ?_; simp -implicitDefEqProofs only [go_sem]; have e3 := Option.some.inj h; subst e3; have e3 := hret3 _ rfl; subst e3; replace h : some ([], false) = some r := hk3; have er := Option.some.inj h; subst er
     try simp -implicitDefEqProofs (disch := omega) [go_sem, Aw, BT, BU, Ap]
     refine A4 (by exact A9 he3) (by first | with_reducible rfl | (simp -implicitDefEqProofs (disch := omega) [go_sem, Aw, BT, BU, Ap] <;> omega)) nbA hK
    ·intro c13 h
     try simp (disch := omega) at c13
     refine vcK ?_; simp -implicitDefEqProofs only [go_sem]; subst hc9; refine A2 fun cb hc15 => ?_; refine vcK ?_
     try simp -implicitDefEqProofs (disch := omega) [go_sem, Aw, BT, BU, Ap]
     subst hc15; refine A2 fun cb hc16 => ?_; refine A2 fun cb hc17 => ?_; refine vcK ?_
     try simp -implicitDefEqProofs (disch := omega) [go_sem, Aw, BT, BU, Ap]
     subst hc17; obtain ⟨y18, hl18q, hk18⟩ := A5 h; refine Bk (fun tm' H' => ∃ n24 : Nat, ∃ v23 : List UInt8, ∃ v25 : Int, .inl (v23, v25) = y18 ∧ Ext H H' ∧ H3.next ≤ H'.next ∧ H.next ≤ n24 ∧ n24 < H'.next ∧ tm' 0 = .sl 1 (a0.map fun x => [.v (.int .u8 x.toNat)]) ∧ tm' 6 = .os n24 v23.length ∧ tm' 7 = .v (str x8.1) ∧ tm' 8 = .v (.int .i64 x8.2) ∧ tm' 9 = .v (.int .i64 v25) ∧ H'.obj n24 = some (.row 1 (v23.map fun x => [.v (.int .u8 x.toNat)]))) ?_ fun cb hc18 => ?_
     ·rintro tm18e H18e ⟨n24, v23, v25, rfl, he18e, hl18e, hr0_18e, hs0_18e, t0_18e, t6_18e, t7_18e, t8_18e, t9_18e, or0_18e⟩
      have h : ED a0 x8 v23 v25 = some x3 := hk18; unfold ED at h; simp -implicitDefEqProofs only [go_sem]; subst hc16; refine A2 fun cb hc26 => ?_; refine A2 fun cb hc27 => ?_; refine vcK ?_
      try simp -implicitDefEqProofs (disch := omega) [go_sem, t0_18e, t6_18e, t7_18e, t8_18e, t9_18e, or0_18e]
      subst hc27; refine Ac h (by first | with_reducible rfl | (simp -implicitDefEqProofs (disch := omega) [go_sem, t0_18e, t6_18e, t7_18e, t8_18e, t9_18e, or0_18e] <;> omega)) rfl ?_ ?_
      ·intro c28 h
       try simp (disch := omega) at c28
       refine A2 fun cb hc29 => ?_; refine vcK ?_
       try simp -implicitDefEqProofs (disch := omega) [go_sem, t0_18e, t6_18e, t7_18e, t8_18e, t9_18e, or0_18e]
       obtain ⟨x30, hx30, h⟩ := A5 h; refine A6.eqA (args' := [.sl 1 (a0.map fun x => [.v (.int .u8 x.toNat)]), .v (.int .i64 x8.2)]) (by first | with_reducible rfl | (simp -implicitDefEqProofs (disch := omega) [go_sem, t0_18e, t6_18e, t7_18e, t8_18e, t9_18e, or0_18e] <;> omega)) (Ka a0 x8.2 hx30 ?_)
       try simp -implicitDefEqProofs (disch := omega) [go_sem, t0_18e, t6_18e, t7_18e, t8_18e, t9_18e, or0_18e]
       subst hc29; refine A2 fun cb hc31 => ?_; refine vcK ?_
       try simp -implicitDefEqProofs (disch := omega) [go_sem, t0_18e, t6_18e, t7_18e, t8_18e, t9_18e, or0_18e]
       refine A7 h (by first | with_reducible rfl | (simp -implicitDefEqProofs (disch := omega) [go_sem, t0_18e, t6_18e, t7_18e, t8_18e, t9_18e, or0_18e] <;> omega)) ?_ ?_
       ·intro c33 h
        try simp (disch := omega) at c33
        try simp -implicitDefEqProofs (disch := omega) [go_sem, t0_18e, t6_18e, t7_18e, t8_18e, t9_18e, or0_18e]
        refine A7 h (by first | with_reducible rfl | (simp -implicitDefEqProofs (disch := omega) [go_sem, t0_18e, t6_18e, t7_18e, t8_18e, t9_18e, or0_18e] <;> omega)) ?_ ?_
        ·intro c32 h
         try simp (disch := omega) at c32
         try simp -implicitDefEqProofs (disch := omega) [go_sem, t0_18e, t6_18e, t7_18e, t8_18e, t9_18e, or0_18e]
         subst hc31; refine IWp.gh (Gh.freeze (d := 4) (k := n24) (sz := 1) (es := v23.map fun x => [.v (.int .u8 x.toNat)]) (by (simp -implicitDefEqProofs (disch := omega) [go_sem, t0_18e, t6_18e, t7_18e, t8_18e, t9_18e, or0_18e] <;> omega)) (by (simp -implicitDefEqProofs (disch := omega) [go_sem, t0_18e, t6_18e, t7_18e, t8_18e, t9_18e, or0_18e] <;> omega))) ?_; refine vcK ?_; simp -implicitDefEqProofs only [go_sem]; have e3 := Option.some.inj h; subst e3; have e3 := hret3 _ rfl; subst e3; replace h : some ((v23, decide (x30.1 = []))) = some r := hk3; have er := Option.some.inj h; subst er
         try simp -implicitDefEqProofs (disch := omega) [go_sem, t0_18e, t6_18e, t7_18e, t8_18e, t9_18e, or0_18e]
         refine A4 (by exact A9 he18e) (by first | with_reducible rfl | (simp -implicitDefEqProofs (disch := omega) [go_sem, t0_18e, t6_18e, t7_18e, t8_18e, t9_18e, or0_18e] <;> omega)) nbA hK
        ·intro c32 h
         try simp (disch := omega) at c32
         try simp -implicitDefEqProofs (disch := omega) [go_sem, t0_18e, t6_18e, t7_18e, t8_18e, t9_18e, or0_18e]
         subst hc31; refine IWp.gh (Gh.freeze (d := 4) (k := n24) (sz := 1) (es := v23.map fun x => [.v (.int .u8 x.toNat)]) (by (simp -implicitDefEqProofs (disch := omega) [go_sem, t0_18e, t6_18e, t7_18e, t8_18e, t9_18e, or0_18e] <;> omega)) (by (simp -implicitDefEqProofs (disch := omega) [go_sem, t0_18e, t6_18e, t7_18e, t8_18e, t9_18e, or0_18e] <;> omega))) ?_; refine vcK ?_; simp -implicitDefEqProofs only [go_sem]; have e3 := Option.some.inj h; subst e3; have e3 := hret3 _ rfl; subst e3; replace h : some (v23, false) = some r := hk3; have er := Option.some.inj h; subst er
         try simp -implicitDefEqProofs (disch := omega) [go_sem, t0_18e, t6_18e, t7_18e, t8_18e, t9_18e, or0_18e]
         refine A4 (by exact A9 he18e) (by first | with_reducible rfl | (simp -implicitDefEqProofs (disch := omega) [go_sem, t0_18e, t6_18e, t7_18e, t8_18e, t9_18e, or0_18e] <;> omega)) nbA hK
       ·intro c33 h
        try simp (disch := omega) at c33
        try simp -implicitDefEqProofs (disch := omega) [go_sem, t0_18e, t6_18e, t7_18e, t8_18e, t9_18e, or0_18e]
        subst hc31; refine IWp.gh (Gh.freeze (d := 4) (k := n24) (sz := 1) (es := v23.map fun x => [.v (.int .u8 x.toNat)]) (by (simp -implicitDefEqProofs (disch := omega) [go_sem, t0_18e, t6_18e, t7_18e, t8_18e, t9_18e, or0_18e] <;> omega)) (by (simp -implicitDefEqProofs (disch := omega) [go_sem, t0_18e, t6_18e, t7_18e, t8_18e, t9_18e, or0_18e] <;> omega))) ?_; refine vcK ?_; simp -implicitDefEqProofs only [go_sem]; have e3 := Option.some.inj h; subst e3; have e3 := hret3 _ rfl; subst e3; replace h : some (v23, false) = some r := hk3; have er := Option.some.inj h; subst er
        try simp -implicitDefEqProofs (disch := omega) [go_sem, t0_18e, t6_18e, t7_18e, t8_18e, t9_18e, or0_18e]
        refine A4 (by exact A9 he18e) (by first | with_reducible rfl | (simp -implicitDefEqProofs (disch := omega) [go_sem, t0_18e, t6_18e, t7_18e, t8_18e, t9_18e, or0_18e] <;> omega)) nbA hK
      ·intro c28 h
       try simp (disch := omega) at c28
       refine vcK ?_; simp -implicitDefEqProofs only [go_sem]; subst hc26; refine A2 fun cb hc34 => ?_; refine A2 fun cb hc35 => ?_; refine vcK ?_
       try simp -implicitDefEqProofs (disch := omega) [go_sem, t0_18e, t6_18e, t7_18e, t8_18e, t9_18e, or0_18e]
       refine A7 h (by first | with_reducible rfl | (simp -implicitDefEqProofs (disch := omega) [go_sem, t0_18e, t6_18e, t7_18e, t8_18e, t9_18e, or0_18e] <;> omega)) ?_ ?_
       ·intro c48 h
        try simp (disch := omega) at c48
        try simp -implicitDefEqProofs (disch := omega) [go_sem, t0_18e, t6_18e, t7_18e, t8_18e, t9_18e, or0_18e]
        subst hc35; refine As (by first | with_reducible rfl | (simp -implicitDefEqProofs (disch := omega) [go_sem, t0_18e, t6_18e, t7_18e, t8_18e, t9_18e, or0_18e] <;> omega)) rfl ?_; refine A2 fun cb hc36 => ?_; refine vcK ?_
        try simp -implicitDefEqProofs (disch := omega) [go_sem, t0_18e, t6_18e, t7_18e, t8_18e, t9_18e, or0_18e]
        subst hc36; refine IWp.gh (Gh.C1 4 1 (by (simp -implicitDefEqProofs (disch := omega) [go_sem, t0_18e, t6_18e, t7_18e, t8_18e, t9_18e, or0_18e] <;> omega))) ?_; refine vcK ?_; simp -implicitDefEqProofs only [go_sem]; have e3 := Option.some.inj h; subst e3; have e3 := hret3 _ rfl; subst e3; replace h : some ([], false) = some r := hk3; have er := Option.some.inj h; subst er
        try simp -implicitDefEqProofs (disch := omega) [go_sem, t0_18e, t6_18e, t7_18e, t8_18e, t9_18e, or0_18e]
        refine A4 (by exact A9 he18e) (by first | with_reducible rfl | (simp -implicitDefEqProofs (disch := omega) [go_sem, t0_18e, t6_18e, t7_18e, t8_18e, t9_18e, or0_18e] <;> omega)) nbA hK
       ·intro c48 h
        try simp (disch := omega) at c48
        obtain ⟨g37, h⟩ := Ab.1 h
        try simp (disch := omega) at g37
        try simp -implicitDefEqProofs (disch := omega) [go_sem, t0_18e, t6_18e, t7_18e, t8_18e, t9_18e, or0_18e]
        refine A7 h (by first | with_reducible rfl | (simp -implicitDefEqProofs (disch := omega) [go_sem, t0_18e, t6_18e, t7_18e, t8_18e, t9_18e, or0_18e] <;> omega)) ?_ ?_
        ·intro c47 h
         try simp (disch := omega) at c47
         try simp -implicitDefEqProofs (disch := omega) [go_sem, t0_18e, t6_18e, t7_18e, t8_18e, t9_18e, or0_18e]
         subst hc35; refine As (by first | with_reducible rfl | (simp -implicitDefEqProofs (disch := omega) [go_sem, t0_18e, t6_18e, t7_18e, t8_18e, t9_18e, or0_18e] <;> omega)) rfl ?_; refine A2 fun cb hc38 => ?_; refine vcK ?_
         try simp -implicitDefEqProofs (disch := omega) [go_sem, t0_18e, t6_18e, t7_18e, t8_18e, t9_18e, or0_18e]
         subst hc38; refine IWp.gh (Gh.C1 4 1 (by (simp -implicitDefEqProofs (disch := omega) [go_sem, t0_18e, t6_18e, t7_18e, t8_18e, t9_18e, or0_18e] <;> omega))) ?_; refine vcK ?_; simp -implicitDefEqProofs only [go_sem]; have e3 := Option.some.inj h; subst e3; have e3 := hret3 _ rfl; subst e3; replace h : some ([], false) = some r := hk3; have er := Option.some.inj h; subst er
         try simp -implicitDefEqProofs (disch := omega) [go_sem, t0_18e, t6_18e, t7_18e, t8_18e, t9_18e, or0_18e]
         refine A4 (by exact A9 he18e) (by first | with_reducible rfl | (simp -implicitDefEqProofs (disch := omega) [go_sem, t0_18e, t6_18e, t7_18e, t8_18e, t9_18e, or0_18e] <;> omega)) nbA hK
        ·intro c47 h
         try simp (disch := omega) at c47
         obtain ⟨g39, h⟩ := Ab.1 h
         try simp (disch := omega) at g39
         try simp -implicitDefEqProofs (disch := omega) [go_sem, t0_18e, t6_18e, t7_18e, t8_18e, t9_18e, or0_18e]
         subst hc35; refine Ac h (by first | with_reducible rfl | (simp -implicitDefEqProofs (disch := omega) [go_sem, t0_18e, t6_18e, t7_18e, t8_18e, t9_18e, or0_18e] <;> omega)) rfl ?_ ?_
         ·intro c40 h
          try simp (disch := omega) at c40
          refine A2 fun cb hc41 => ?_; refine vcK ?_
          try simp -implicitDefEqProofs (disch := omega) [go_sem, t0_18e, t6_18e, t7_18e, t8_18e, t9_18e, or0_18e]
          subst hc41; refine IWp.gh (Gh.C1 4 1 (by (simp -implicitDefEqProofs (disch := omega) [go_sem, t0_18e, t6_18e, t7_18e, t8_18e, t9_18e, or0_18e] <;> omega))) ?_; refine vcK ?_; simp -implicitDefEqProofs only [go_sem]; have e3 := Option.some.inj h; subst e3; have e3 := hret3 _ rfl; subst e3; replace h : some ([], false) = some r := hk3; have er := Option.some.inj h; subst er
          try simp -implicitDefEqProofs (disch := omega) [go_sem, t0_18e, t6_18e, t7_18e, t8_18e, t9_18e, or0_18e]
          refine A4 (by exact A9 he18e) (by first | with_reducible rfl | (simp -implicitDefEqProofs (disch := omega) [go_sem, t0_18e, t6_18e, t7_18e, t8_18e, t9_18e, or0_18e] <;> omega)) nbA hK
         ·intro c40 h
          try simp (disch := omega) at c40
          refine vcK ?_; simp -implicitDefEqProofs only [go_sem]; subst hc34; refine A2 fun cb hc42 => ?_; refine vcK ?_; obtain ⟨g43, h⟩ := Ab.1 h
          try simp (disch := omega) at g43
          obtain ⟨g44, h⟩ := Ab.1 h
          try simp (disch := omega) at g44
          obtain ⟨g45, h⟩ := Ab.1 h
          try simp (disch := omega) at g45
          obtain ⟨g46, h⟩ := Ab.1 h
          try simp (disch := omega) at g46
          try simp -implicitDefEqProofs (disch := omega) [go_sem] at g44
          try simp -implicitDefEqProofs (disch := omega) [go_sem] at g45
          try simp -implicitDefEqProofs (disch := omega) [go_sem] at g46
          try simp -implicitDefEqProofs (disch := omega) [go_sem, t0_18e, t6_18e, t7_18e, t8_18e, t9_18e, or0_18e]
          subst hc42; refine vcK ?_
          try simp -implicitDefEqProofs (disch := omega) [go_sem, t0_18e, t6_18e, t7_18e, t8_18e, t9_18e, or0_18e]
          have e3 := Option.some.inj h; subst e3; refine Au hI3 ((IntKind.i64.wrap ((IntKind.i64.wrap (x8.2 + v25)) + 2), v23 ++ ((a0.take (IntKind.i64.wrap (x8.2 + v25)).toNat).drop x8.2.toNat))) ?_; refine .same ⟨n24, by exact A9 he18e, by first | with_reducible rfl | with_reducible assumption | omega | (simp -implicitDefEqProofs (disch := omega) [go_sem, t0_18e, t6_18e, t7_18e, t8_18e, t9_18e, or0_18e] <;> omega), by first | with_reducible rfl | with_reducible assumption | omega | (simp -implicitDefEqProofs (disch := omega) [go_sem, t0_18e, t6_18e, t7_18e, t8_18e, t9_18e, or0_18e] <;> omega), by first | with_reducible rfl | with_reducible assumption | omega | (simp -implicitDefEqProofs (disch := omega) [go_sem, t0_18e, t6_18e, t7_18e, t8_18e, t9_18e, or0_18e] <;> omega), ?_, ?_, ?_, ?_⟩ <;> first | with_reducible rfl | with_reducible assumption | (simp -implicitDefEqProofs (disch := omega) [go_sem, t0_18e, t6_18e, t7_18e, t8_18e, t9_18e, or0_18e] <;> omega)
     ·refine Ai ?_; refine AF (fun (s : (List UInt8) × Int × Int) tm' H' => ∃ n20 : Nat, Ext H H' ∧ H3.next ≤ H'.next ∧ H.next ≤ n20 ∧ n20 < H'.next ∧ tm' 0 = .sl 1 (a0.map fun x => [.v (.int .u8 x.toNat)]) ∧ tm' 6 = .os n20 s.1.length ∧ tm' 7 = .v (str x8.1) ∧ tm' 8 = .v (.int .i64 x8.2) ∧ tm' 9 = .v (.int .i64 s.2.1) ∧ tm' 10 = .v (.int .i64 s.2.2) ∧ H'.obj n20 = some (.row 1 (s.1.map fun x => [.v (.int .u8 x.toNat)]))) hl18q ?_ ?_
      ·refine .same ⟨n6, by exact A9 he3, by first | with_reducible rfl | with_reducible assumption | omega | (simp -implicitDefEqProofs (disch := omega) [go_sem, Aw, BT, BU, Ap] <;> omega), by first | with_reducible rfl | with_reducible assumption | omega | (simp -implicitDefEqProofs (disch := omega) [go_sem, Aw, BT, BU, Ap] <;> omega), by first | with_reducible rfl | with_reducible assumption | omega | (simp -implicitDefEqProofs (disch := omega) [go_sem, Aw, BT, BU, Ap] <;> omega), ?_, ?_, ?_, ?_, ?_, ?_, ?_⟩ <;> first | with_reducible rfl | with_reducible assumption | (simp -implicitDefEqProofs (disch := omega) [go_sem, Aw, BT, BU, Ap] <;> omega)
      ·rintro I18 hI18 ⟨v19, v21, v22⟩ x18 tm18 H18 ⟨n20, he18, hl18, ZD, ZE, Ak, Ag, Al, Am, Ah, Aa, Af⟩ h hret18
       replace h : Dt x8 v19 v21 v22 = some x18 := h; unfold Dt at h; refine A2 fun cb hc49 => ?_; refine A2 fun cb hc50 => ?_; refine vcK ?_
       try simp -implicitDefEqProofs (disch := omega) [go_sem, Ak, Ag, Al, Am, Ah, Aa, Af]
       subst hc50; refine Ac h (by first | with_reducible rfl | (simp -implicitDefEqProofs (disch := omega) [go_sem, Ak, Ag, Al, Am, Ah, Aa, Af] <;> omega)) rfl ?_ ?_
       ·intro c51 h
        try simp (disch := omega) at c51
        refine vcK ?_; simp -implicitDefEqProofs only [go_sem]; subst hc49; refine A2 fun cb hc52 => ?_; refine Ai ?_; refine A2 fun cb hc53 => ?_; refine vcK ?_; obtain ⟨g54, h⟩ := Ab.1 h
        try simp (disch := omega) at g54
        try simp -implicitDefEqProofs (disch := omega) [go_sem, Ak, Ag, Al, Am, Ah, Aa, Af]
        subst hc53; refine A2 fun cb hc55 => ?_; refine Ai ?_; refine A2 fun cb hc56 => ?_; refine vcK ?_
        try simp -implicitDefEqProofs (disch := omega) [go_sem, Ak, Ag, Al, Am, Ah, Aa, Af]
        refine A7 h (by first | with_reducible rfl | (simp -implicitDefEqProofs (disch := omega) [go_sem, Ak, Ag, Al, Am, Ah, Aa, Af] <;> omega)) ?_ ?_
        ·intro c84 h
         try simp (disch := omega) at c84
         try simp -implicitDefEqProofs (disch := omega) [go_sem, Ak, Ag, Al, Am, Ah, Aa, Af]
         subst hc56; refine Ac h (by first | with_reducible rfl | (simp -implicitDefEqProofs (disch := omega) [go_sem, Ak, Ag, Al, Am, Ah, Aa, Af] <;> omega)) rfl ?_ ?_
         ·intro c57 h
          try simp (disch := omega) at c57
          refine vcK ?_
          try simp -implicitDefEqProofs (disch := omega) [go_sem, Ak, Ag, Al, Am, Ah, Aa, Af]
          subst hc55; refine vcK ?_
          try simp -implicitDefEqProofs (disch := omega) [go_sem, Ak, Ag, Al, Am, Ah, Aa, Af]
          subst hc52; refine vcK ?_
          try simp -implicitDefEqProofs (disch := omega) [go_sem, Ak, Ag, Al, Am, Ah, Aa, Af]
          have e18 := Option.some.inj h; subst e18; refine Au hI18 ((v19, IntKind.i64.wrap ((IntKind.i64.wrap (16 * v21)) + (IntKind.i64.wrap ((IntKind.i64.wrap (((x8.1.getD v22.toNat 0).toNat : Int))) - 48))), IntKind.i64.wrap (v22 + 1))) ?_; refine .same ⟨n20, by exact A9 he18, by first | with_reducible rfl | with_reducible assumption | omega | (simp -implicitDefEqProofs (disch := omega) [go_sem, Ak, Ag, Al, Am, Ah, Aa, Af] <;> omega), by first | with_reducible rfl | with_reducible assumption | omega | (simp -implicitDefEqProofs (disch := omega) [go_sem, Ak, Ag, Al, Am, Ah, Aa, Af] <;> omega), by first | with_reducible rfl | with_reducible assumption | omega | (simp -implicitDefEqProofs (disch := omega) [go_sem, Ak, Ag, Al, Am, Ah, Aa, Af] <;> omega), ?_, ?_, ?_, ?_, ?_, ?_, ?_⟩ <;> first | with_reducible rfl | with_reducible assumption | (simp -implicitDefEqProofs (disch := omega) [go_sem, Ak, Ag, Al, Am, Ah, Aa, Af] <;> omega)
         ·intro c57 h
          try simp (disch := omega) at c57
          refine A2 fun cb hc58 => ?_; refine vcK ?_
          try simp -implicitDefEqProofs (disch := omega) [go_sem, Ak, Ag, Al, Am, Ah, Aa, Af]
          refine A7 h (by first | with_reducible rfl | (simp -implicitDefEqProofs (disch := omega) [go_sem, Ak, Ag, Al, Am, Ah, Aa, Af] <;> omega)) ?_ ?_
          ·intro c70 h
           try simp (disch := omega) at c70
           try simp -implicitDefEqProofs (disch := omega) [go_sem, Ak, Ag, Al, Am, Ah, Aa, Af]
           subst hc58; refine Ac h (by first | with_reducible rfl | (simp -implicitDefEqProofs (disch := omega) [go_sem, Ak, Ag, Al, Am, Ah, Aa, Af] <;> omega)) rfl ?_ ?_
           ·intro c59 h
            try simp (disch := omega) at c59
            refine vcK ?_
            try simp -implicitDefEqProofs (disch := omega) [go_sem, Ak, Ag, Al, Am, Ah, Aa, Af]
            subst hc55; refine vcK ?_
            try simp -implicitDefEqProofs (disch := omega) [go_sem, Ak, Ag, Al, Am, Ah, Aa, Af]
            subst hc52; refine vcK ?_
            try simp -implicitDefEqProofs (disch := omega) [go_sem, Ak, Ag, Al, Am, Ah, Aa, Af]
            have e18 := Option.some.inj h; subst e18; refine Au hI18 ((v19, IntKind.i64.wrap ((IntKind.i64.wrap (16 * v21)) + (IntKind.i64.wrap ((IntKind.i64.wrap (((x8.1.getD v22.toNat 0).toNat : Int))) - 87))), IntKind.i64.wrap (v22 + 1))) ?_; refine .same ⟨n20, by exact A9 he18, by first | with_reducible rfl | with_reducible assumption | omega | (simp -implicitDefEqProofs (disch := omega) [go_sem, Ak, Ag, Al, Am, Ah, Aa, Af] <;> omega), by first | with_reducible rfl | with_reducible assumption | omega | (simp -implicitDefEqProofs (disch := omega) [go_sem, Ak, Ag, Al, Am, Ah, Aa, Af] <;> omega), by first | with_reducible rfl | with_reducible assumption | omega | (simp -implicitDefEqProofs (disch := omega) [go_sem, Ak, Ag, Al, Am, Ah, Aa, Af] <;> omega), ?_, ?_, ?_, ?_, ?_, ?_, ?_⟩ <;> first | with_reducible rfl | with_reducible assumption | (simp -implicitDefEqProofs (disch := omega) [go_sem, Ak, Ag, Al, Am, Ah, Aa, Af] <;> omega)
           ·intro c59 h
            try simp (disch := omega) at c59
            refine A2 fun cb hc60 => ?_; refine vcK ?_
            try simp -implicitDefEqProofs (disch := omega) [go_sem, Ak, Ag, Al, Am, Ah, Aa, Af]
            refine A7 h (by first | with_reducible rfl | (simp -implicitDefEqProofs (disch := omega) [go_sem, Ak, Ag, Al, Am, Ah, Aa, Af] <;> omega)) ?_ ?_
            ·intro c64 h
             try simp (disch := omega) at c64
             try simp -implicitDefEqProofs (disch := omega) [go_sem, Ak, Ag, Al, Am, Ah, Aa, Af]
             subst hc60; refine Ac h (by first | with_reducible rfl | (simp -implicitDefEqProofs (disch := omega) [go_sem, Ak, Ag, Al, Am, Ah, Aa, Af] <;> omega)) rfl ?_ ?_
             ·intro c61 h
              try simp (disch := omega) at c61
              refine vcK ?_
              try simp -implicitDefEqProofs (disch := omega) [go_sem, Ak, Ag, Al, Am, Ah, Aa, Af]
              subst hc55; refine vcK ?_
              try simp -implicitDefEqProofs (disch := omega) [go_sem, Ak, Ag, Al, Am, Ah, Aa, Af]
              subst hc52; refine vcK ?_
              try simp -implicitDefEqProofs (disch := omega) [go_sem, Ak, Ag, Al, Am, Ah, Aa, Af]
              have e18 := Option.some.inj h; subst e18; refine Au hI18 ((v19, IntKind.i64.wrap ((IntKind.i64.wrap (16 * v21)) + (IntKind.i64.wrap ((IntKind.i64.wrap (((x8.1.getD v22.toNat 0).toNat : Int))) - 55))), IntKind.i64.wrap (v22 + 1))) ?_; refine .same ⟨n20, by exact A9 he18, by first | with_reducible rfl | with_reducible assumption | omega | (simp -implicitDefEqProofs (disch := omega) [go_sem, Ak, Ag, Al, Am, Ah, Aa, Af] <;> omega), by first | with_reducible rfl | with_reducible assumption | omega | (simp -implicitDefEqProofs (disch := omega) [go_sem, Ak, Ag, Al, Am, Ah, Aa, Af] <;> omega), by first | with_reducible rfl | with_reducible assumption | omega | (simp -implicitDefEqProofs (disch := omega) [go_sem, Ak, Ag, Al, Am, Ah, Aa, Af] <;> omega), ?_, ?_, ?_, ?_, ?_, ?_, ?_⟩ <;> first | with_reducible rfl | with_reducible assumption | (simp -implicitDefEqProofs (disch := omega) [go_sem, Ak, Ag, Al, Am, Ah, Aa, Af] <;> omega)
             ·intro c61 h
              try simp (disch := omega) at c61
              refine A2 fun cb hc62 => ?_; refine vcK ?_
              try simp -implicitDefEqProofs (disch := omega) [go_sem, Ak, Ag, Al, Am, Ah, Aa, Af]
              subst hc62; refine IWp.gh (Gh.C1 4 1 (by (simp -implicitDefEqProofs (disch := omega) [go_sem, Ak, Ag, Al, Am, Ah, Aa, Af] <;> omega))) ?_; refine vcK ?_; simp -implicitDefEqProofs only [go_sem]; have e18 := Option.some.inj h; subst e18; have e18 := hret18 _ rfl; subst e18; replace h : some (.inr ([], false)) = some x3 := hk18; have e3 := Option.some.inj h; subst e3; have e3 := hret3 _ rfl; subst e3; replace h : some ([], false) = some r := hk3; have er := Option.some.inj h; subst er
              try simp -implicitDefEqProofs (disch := omega) [go_sem, Ak, Ag, Al, Am, Ah, Aa, Af]
              refine A4 (by exact A9 he18) (by first | with_reducible rfl | (simp -implicitDefEqProofs (disch := omega) [go_sem, Ak, Ag, Al, Am, Ah, Aa, Af] <;> omega)) nbA hK
            ·intro c64 h
             try simp (disch := omega) at c64
             try simp -implicitDefEqProofs (disch := omega) [go_sem, Ak, Ag, Al, Am, Ah, Aa, Af]
             subst hc60; refine AG (by first | with_reducible rfl | (simp -implicitDefEqProofs (disch := omega) [go_sem, Ak, Ag, Al, Am, Ah, Aa, Af] <;> omega)) rfl ?_; refine A2 fun cb hc63 => ?_; refine vcK ?_
             try simp -implicitDefEqProofs (disch := omega) [go_sem, Ak, Ag, Al, Am, Ah, Aa, Af]
             subst hc63; refine IWp.gh (Gh.C1 4 1 (by (simp -implicitDefEqProofs (disch := omega) [go_sem, Ak, Ag, Al, Am, Ah, Aa, Af] <;> omega))) ?_; refine vcK ?_; simp -implicitDefEqProofs only [go_sem]; have e18 := Option.some.inj h; subst e18; have e18 := hret18 _ rfl; subst e18; replace h : some (.inr ([], false)) = some x3 := hk18; have e3 := Option.some.inj h; subst e3; have e3 := hret3 _ rfl; subst e3; replace h : some ([], false) = some r := hk3; have er := Option.some.inj h; subst er
             try simp -implicitDefEqProofs (disch := omega) [go_sem, Ak, Ag, Al, Am, Ah, Aa, Af]
             refine A4 (by exact A9 he18) (by first | with_reducible rfl | (simp -implicitDefEqProofs (disch := omega) [go_sem, Ak, Ag, Al, Am, Ah, Aa, Af] <;> omega)) nbA hK
          ·intro c70 h
           try simp (disch := omega) at c70
           try simp -implicitDefEqProofs (disch := omega) [go_sem, Ak, Ag, Al, Am, Ah, Aa, Af]
           subst hc58; refine AG (by first | with_reducible rfl | (simp -implicitDefEqProofs (disch := omega) [go_sem, Ak, Ag, Al, Am, Ah, Aa, Af] <;> omega)) rfl ?_; refine A2 fun cb hc65 => ?_; refine vcK ?_
           try simp -implicitDefEqProofs (disch := omega) [go_sem, Ak, Ag, Al, Am, Ah, Aa, Af]
           refine A7 h (by first | with_reducible rfl | (simp -implicitDefEqProofs (disch := omega) [go_sem, Ak, Ag, Al, Am, Ah, Aa, Af] <;> omega)) ?_ ?_
           ·intro c69 h
            try simp (disch := omega) at c69
            try simp -implicitDefEqProofs (disch := omega) [go_sem, Ak, Ag, Al, Am, Ah, Aa, Af]
            subst hc65; refine Ac h (by first | with_reducible rfl | (simp -implicitDefEqProofs (disch := omega) [go_sem, Ak, Ag, Al, Am, Ah, Aa, Af] <;> omega)) rfl ?_ ?_
            ·intro c66 h
             try simp (disch := omega) at c66
             refine vcK ?_
             try simp -implicitDefEqProofs (disch := omega) [go_sem, Ak, Ag, Al, Am, Ah, Aa, Af]
             subst hc55; refine vcK ?_
             try simp -implicitDefEqProofs (disch := omega) [go_sem, Ak, Ag, Al, Am, Ah, Aa, Af]
             subst hc52; refine vcK ?_
             try simp -implicitDefEqProofs (disch := omega) [go_sem, Ak, Ag, Al, Am, Ah, Aa, Af]
             have e18 := Option.some.inj h; subst e18; refine Au hI18 ((v19, IntKind.i64.wrap ((IntKind.i64.wrap (16 * v21)) + (IntKind.i64.wrap ((IntKind.i64.wrap (((x8.1.getD v22.toNat 0).toNat : Int))) - 55))), IntKind.i64.wrap (v22 + 1))) ?_; refine .same ⟨n20, by exact A9 he18, by first | with_reducible rfl | with_reducible assumption | omega | (simp -implicitDefEqProofs (disch := omega) [go_sem, Ak, Ag, Al, Am, Ah, Aa, Af] <;> omega), by first | with_reducible rfl | with_reducible assumption | omega | (simp -implicitDefEqProofs (disch := omega) [go_sem, Ak, Ag, Al, Am, Ah, Aa, Af] <;> omega), by first | with_reducible rfl | with_reducible assumption | omega | (simp -implicitDefEqProofs (disch := omega) [go_sem, Ak, Ag, Al, Am, Ah, Aa, Af] <;> omega), ?_, ?_, ?_, ?_, ?_, ?_, ?_⟩ <;> first | with_reducible rfl | with_reducible assumption | (simp -implicitDefEqProofs (disch := omega) [go_sem, Ak, Ag, Al, Am, Ah, Aa, Af] <;> omega)
            ·intro c66 h
             try simp (disch := omega) at c66
             refine A2 fun cb hc67 => ?_; refine vcK ?_
             try simp -implicitDefEqProofs (disch := omega) [go_sem, Ak, Ag, Al, Am, Ah, Aa, Af]
             subst hc67; refine IWp.gh (Gh.C1 4 1 (by (simp -implicitDefEqProofs (disch := omega) [go_sem, Ak, Ag, Al, Am, Ah, Aa, Af] <;> omega))) ?_; refine vcK ?_; simp -implicitDefEqProofs only [go_sem]; have e18 := Option.some.inj h; subst e18; have e18 := hret18 _ rfl; subst e18; replace h : some (.inr ([], false)) = some x3 := hk18; have e3 := Option.some.inj h; subst e3; have e3 := hret3 _ rfl; subst e3; replace h : some ([], false) = some r := hk3; have er := Option.some.inj h; subst er
             try simp -implicitDefEqProofs (disch := omega) [go_sem, Ak, Ag, Al, Am, Ah, Aa, Af]
             refine A4 (by exact A9 he18) (by first | with_reducible rfl | (simp -implicitDefEqProofs (disch := omega) [go_sem, Ak, Ag, Al, Am, Ah, Aa, Af] <;> omega)) nbA hK
           ·intro c69 h
            try simp (disch := omega) at c69
            try simp -implicitDefEqProofs (disch := omega) [go_sem, Ak, Ag, Al, Am, Ah, Aa, Af]
            subst hc65; refine AG (by first | with_reducible rfl | (simp -implicitDefEqProofs (disch := omega) [go_sem, Ak, Ag, Al, Am, Ah, Aa, Af] <;> omega)) rfl ?_; refine A2 fun cb hc68 => ?_; refine vcK ?_
            try simp -implicitDefEqProofs (disch := omega) [go_sem, Ak, Ag, Al, Am, Ah, Aa, Af]
            subst hc68; refine IWp.gh (Gh.C1 4 1 (by (simp -implicitDefEqProofs (disch := omega) [go_sem, Ak, Ag, Al, Am, Ah, Aa, Af] <;> omega))) ?_; refine vcK ?_; simp -implicitDefEqProofs only [go_sem]; have e18 := Option.some.inj h; subst e18; have e18 := hret18 _ rfl; subst e18; replace h : some (.inr ([], false)) = some x3 := hk18; have e3 := Option.some.inj h; subst e3; have e3 := hret3 _ rfl; subst e3; replace h : some ([], false) = some r := hk3; have er := Option.some.inj h; subst er
            try simp -implicitDefEqProofs (disch := omega) [go_sem, Ak, Ag, Al, Am, Ah, Aa, Af]
            refine A4 (by exact A9 he18) (by first | with_reducible rfl | (simp -implicitDefEqProofs (disch := omega) [go_sem, Ak, Ag, Al, Am, Ah, Aa, Af] <;> omega)) nbA hK
        ·intro c84 h
         try simp (disch := omega) at c84
         try simp -implicitDefEqProofs (disch := omega) [go_sem, Ak, Ag, Al, Am, Ah, Aa, Af]
         subst hc56; refine AG (by first | with_reducible rfl | (simp -implicitDefEqProofs (disch := omega) [go_sem, Ak, Ag, Al, Am, Ah, Aa, Af] <;> omega)) rfl ?_; refine A2 fun cb hc71 => ?_; refine vcK ?_
         try simp -implicitDefEqProofs (disch := omega) [go_sem, Ak, Ag, Al, Am, Ah, Aa, Af]
         refine A7 h (by first | with_reducible rfl | (simp -implicitDefEqProofs (disch := omega) [go_sem, Ak, Ag, Al, Am, Ah, Aa, Af] <;> omega)) ?_ ?_
         ·intro c83 h
          try simp (disch := omega) at c83
          try simp -implicitDefEqProofs (disch := omega) [go_sem, Ak, Ag, Al, Am, Ah, Aa, Af]
          subst hc71; refine Ac h (by first | with_reducible rfl | (simp -implicitDefEqProofs (disch := omega) [go_sem, Ak, Ag, Al, Am, Ah, Aa, Af] <;> omega)) rfl ?_ ?_
          ·intro c72 h
           try simp (disch := omega) at c72
           refine vcK ?_
           try simp -implicitDefEqProofs (disch := omega) [go_sem, Ak, Ag, Al, Am, Ah, Aa, Af]
           subst hc55; refine vcK ?_
           try simp -implicitDefEqProofs (disch := omega) [go_sem, Ak, Ag, Al, Am, Ah, Aa, Af]
           subst hc52; refine vcK ?_
           try simp -implicitDefEqProofs (disch := omega) [go_sem, Ak, Ag, Al, Am, Ah, Aa, Af]
           have e18 := Option.some.inj h; subst e18; refine Au hI18 ((v19, IntKind.i64.wrap ((IntKind.i64.wrap (16 * v21)) + (IntKind.i64.wrap ((IntKind.i64.wrap (((x8.1.getD v22.toNat 0).toNat : Int))) - 87))), IntKind.i64.wrap (v22 + 1))) ?_; refine .same ⟨n20, by exact A9 he18, by first | with_reducible rfl | with_reducible assumption | omega | (simp -implicitDefEqProofs (disch := omega) [go_sem, Ak, Ag, Al, Am, Ah, Aa, Af] <;> omega), by first | with_reducible rfl | with_reducible assumption | omega | (simp -implicitDefEqProofs (disch := omega) [go_sem, Ak, Ag, Al, Am, Ah, Aa, Af] <;> omega), by first | with_reducible rfl | with_reducible assumption | omega | (simp -implicitDefEqProofs (disch := omega) [go_sem, Ak, Ag, Al, Am, Ah, Aa, Af] <;> omega), ?_, ?_, ?_, ?_, ?_, ?_, ?_⟩ <;> first | with_reducible rfl | with_reducible assumption | (simp -implicitDefEqProofs (disch := omega) [go_sem, Ak, Ag, Al, Am, Ah, Aa, Af] <;> omega)
          ·intro c72 h
           try simp (disch := omega) at c72
           refine A2 fun cb hc73 => ?_; refine vcK ?_
           try simp -implicitDefEqProofs (disch := omega) [go_sem, Ak, Ag, Al, Am, Ah, Aa, Af]
           refine A7 h (by first | with_reducible rfl | (simp -implicitDefEqProofs (disch := omega) [go_sem, Ak, Ag, Al, Am, Ah, Aa, Af] <;> omega)) ?_ ?_
           ·intro c77 h
            try simp (disch := omega) at c77
            try simp -implicitDefEqProofs (disch := omega) [go_sem, Ak, Ag, Al, Am, Ah, Aa, Af]
            subst hc73; refine Ac h (by first | with_reducible rfl | (simp -implicitDefEqProofs (disch := omega) [go_sem, Ak, Ag, Al, Am, Ah, Aa, Af] <;> omega)) rfl ?_ ?_
            ·intro c74 h
             try simp (disch := omega) at c74
             refine vcK ?_
             try simp -implicitDefEqProofs (disch := omega) [go_sem, Ak, Ag, Al, Am, Ah, Aa, Af]
             subst hc55; refine vcK ?_
             try simp -implicitDefEqProofs (disch := omega) [go_sem, Ak, Ag, Al, Am, Ah, Aa, Af]
             subst hc52; refine vcK ?_
             try simp -implicitDefEqProofs (disch := omega) [go_sem, Ak, Ag, Al, Am, Ah, Aa, Af]
             have e18 := Option.some.inj h; subst e18; refine Au hI18 ((v19, IntKind.i64.wrap ((IntKind.i64.wrap (16 * v21)) + (IntKind.i64.wrap ((IntKind.i64.wrap (((x8.1.getD v22.toNat 0).toNat : Int))) - 55))), IntKind.i64.wrap (v22 + 1))) ?_; refine .same ⟨n20, by exact A9 he18, by first | with_reducible rfl | with_reducible assumption | omega | (simp -implicitDefEqProofs (disch := omega) [go_sem, Ak, Ag, Al, Am, Ah, Aa, Af] <;> omega), by first | with_reducible rfl | with_reducible assumption | omega | (simp -implicitDefEqProofs (disch := omega) [go_sem, Ak, Ag, Al, Am, Ah, Aa, Af] <;> omega), by first | with_reducible rfl | with_reducible assumption | omega | (simp -implicitDefEqProofs (disch := omega) [go_sem, Ak, Ag, Al, Am, Ah, Aa, Af] <;> omega), ?_, ?_, ?_, ?_, ?_, ?_, ?_⟩ <;> first | with_reducible rfl | with_reducible assumption | (simp -implicitDefEqProofs (disch := omega) [go_sem, Ak, Ag, Al, Am, Ah, Aa, Af] <;> omega)
            ·intro c74 h
             try simp (disch := omega) at c74
             refine A2 fun cb hc75 => ?_; refine vcK ?_
             try simp -implicitDefEqProofs (disch := omega) [go_sem, Ak, Ag, Al, Am, Ah, Aa, Af]
             subst hc75; refine IWp.gh (Gh.C1 4 1 (by (simp -implicitDefEqProofs (disch := omega) [go_sem, Ak, Ag, Al, Am, Ah, Aa, Af] <;> omega))) ?_; refine vcK ?_; simp -implicitDefEqProofs only [go_sem]; have e18 := Option.some.inj h; subst e18; have e18 := hret18 _ rfl; subst e18; replace h : some (.inr ([], false)) = some x3 := hk18; have e3 := Option.some.inj h; subst e3; have e3 := hret3 _ rfl; subst e3; replace h : some ([], false) = some r := hk3; have er := Option.some.inj h; subst er
             try simp -implicitDefEqProofs (disch := omega) [go_sem, Ak, Ag, Al, Am, Ah, Aa, Af]
             refine A4 (by exact A9 he18) (by first | with_reducible rfl | (simp -implicitDefEqProofs (disch := omega) [go_sem, Ak, Ag, Al, Am, Ah, Aa, Af] <;> omega)) nbA hK
           ·intro c77 h
            try simp (disch := omega) at c77
            try simp -implicitDefEqProofs (disch := omega) [go_sem, Ak, Ag, Al, Am, Ah, Aa, Af]
            subst hc73; refine AG (by first | with_reducible rfl | (simp -implicitDefEqProofs (disch := omega) [go_sem, Ak, Ag, Al, Am, Ah, Aa, Af] <;> omega)) rfl ?_; refine A2 fun cb hc76 => ?_; refine vcK ?_
            try simp -implicitDefEqProofs (disch := omega) [go_sem, Ak, Ag, Al, Am, Ah, Aa, Af]
            subst hc76; refine IWp.gh (Gh.C1 4 1 (by (simp -implicitDefEqProofs (disch := omega) [go_sem, Ak, Ag, Al, Am, Ah, Aa, Af] <;> omega))) ?_; refine vcK ?_; simp -implicitDefEqProofs only [go_sem]; have e18 := Option.some.inj h; subst e18; have e18 := hret18 _ rfl; subst e18; replace h : some (.inr ([], false)) = some x3 := hk18; have e3 := Option.some.inj h; subst e3; have e3 := hret3 _ rfl; subst e3; replace h : some ([], false) = some r := hk3; have er := Option.some.inj h; subst er
            try simp -implicitDefEqProofs (disch := omega) [go_sem, Ak, Ag, Al, Am, Ah, Aa, Af]
            refine A4 (by exact A9 he18) (by first | with_reducible rfl | (simp -implicitDefEqProofs (disch := omega) [go_sem, Ak, Ag, Al, Am, Ah, Aa, Af] <;> omega)) nbA hK
         ·intro c83 h
          try simp (disch := omega) at c83
          try simp -implicitDefEqProofs (disch := omega) [go_sem, Ak, Ag, Al, Am, Ah, Aa, Af]
          subst hc71; refine AG (by first | with_reducible rfl | (simp -implicitDefEqProofs (disch := omega) [go_sem, Ak, Ag, Al, Am, Ah, Aa, Af] <;> omega)) rfl ?_; refine A2 fun cb hc78 => ?_; refine vcK ?_
          try simp -implicitDefEqProofs (disch := omega) [go_sem, Ak, Ag, Al, Am, Ah, Aa, Af]
          refine A7 h (by first | with_reducible rfl | (simp -implicitDefEqProofs (disch := omega) [go_sem, Ak, Ag, Al, Am, Ah, Aa, Af] <;> omega)) ?_ ?_
          ·intro c82 h
           try simp (disch := omega) at c82
           try simp -implicitDefEqProofs (disch := omega) [go_sem, Ak, Ag, Al, Am, Ah, Aa, Af]
           subst hc78; refine Ac h (by first | with_reducible rfl | (simp -implicitDefEqProofs (disch := omega) [go_sem, Ak, Ag, Al, Am, Ah, Aa, Af] <;> omega)) rfl ?_ ?_
           ·intro c79 h
            try simp (disch := omega) at c79
            refine vcK ?_
            try simp -implicitDefEqProofs (disch := omega) [go_sem, Ak, Ag, Al, Am, Ah, Aa, Af]
            subst hc55; refine vcK ?_
            try simp -implicitDefEqProofs (disch := omega) [go_sem, Ak, Ag, Al, Am, Ah, Aa, Af]
            subst hc52; refine vcK ?_
            try simp -implicitDefEqProofs (disch := omega) [go_sem, Ak, Ag, Al, Am, Ah, Aa, Af]
            have e18 := Option.some.inj h; subst e18; refine Au hI18 ((v19, IntKind.i64.wrap ((IntKind.i64.wrap (16 * v21)) + (IntKind.i64.wrap ((IntKind.i64.wrap (((x8.1.getD v22.toNat 0).toNat : Int))) - 55))), IntKind.i64.wrap (v22 + 1))) ?_; refine .same ⟨n20, by exact A9 he18, by first | with_reducible rfl | with_reducible assumption | omega | (simp -implicitDefEqProofs (disch := omega) [go_sem, Ak, Ag, Al, Am, Ah, Aa, Af] <;> omega), by first | with_reducible rfl | with_reducible assumption | omega | (simp -implicitDefEqProofs (disch := omega) [go_sem, Ak, Ag, Al, Am, Ah, Aa, Af] <;> omega), by first | with_reducible rfl | with_reducible assumption | omega | (simp -implicitDefEqProofs (disch := omega) [go_sem, Ak, Ag, Al, Am, Ah, Aa, Af] <;> omega), ?_, ?_, ?_, ?_, ?_, ?_, ?_⟩ <;> first | with_reducible rfl | with_reducible assumption | (simp -implicitDefEqProofs (disch := omega) [go_sem, Ak, Ag, Al, Am, Ah, Aa, Af] <;> omega)
           ·intro c79 h
            try simp (disch := omega) at c79
            refine A2 fun cb hc80 => ?_; refine vcK ?_
            try simp -implicitDefEqProofs (disch := omega) [go_sem, Ak, Ag, Al, Am, Ah, Aa, Af]
            subst hc80; refine IWp.gh (Gh.C1 4 1 (by (simp -implicitDefEqProofs (disch := omega) [go_sem, Ak, Ag, Al, Am, Ah, Aa, Af] <;> omega))) ?_; refine vcK ?_; simp -implicitDefEqProofs only [go_sem]; have e18 := Option.some.inj h; subst e18; have e18 := hret18 _ rfl; subst e18; replace h : some (.inr ([], false)) = some x3 := hk18; have e3 := Option.some.inj h; subst e3; have e3 := hret3 _ rfl; subst e3; replace h : some ([], false) = some r := hk3; have er := Option.some.inj h; subst er
            try simp -implicitDefEqProofs (disch := omega) [go_sem, Ak, Ag, Al, Am, Ah, Aa, Af]
            refine A4 (by exact A9 he18) (by first | with_reducible rfl | (simp -implicitDefEqProofs (disch := omega) [go_sem, Ak, Ag, Al, Am, Ah, Aa, Af] <;> omega)) nbA hK
          ·intro c82 h
           try simp (disch := omega) at c82
           try simp -implicitDefEqProofs (disch := omega) [go_sem, Ak, Ag, Al, Am, Ah, Aa, Af]
           subst hc78; refine AG (by first | with_reducible rfl | (simp -implicitDefEqProofs (disch := omega) [go_sem, Ak, Ag, Al, Am, Ah, Aa, Af] <;> omega)) rfl ?_; refine A2 fun cb hc81 => ?_; refine vcK ?_
           try simp -implicitDefEqProofs (disch := omega) [go_sem, Ak, Ag, Al, Am, Ah, Aa, Af]
           subst hc81; refine IWp.gh (Gh.C1 4 1 (by (simp -implicitDefEqProofs (disch := omega) [go_sem, Ak, Ag, Al, Am, Ah, Aa, Af] <;> omega))) ?_; refine vcK ?_; simp -implicitDefEqProofs only [go_sem]; have e18 := Option.some.inj h; subst e18; have e18 := hret18 _ rfl; subst e18; replace h : some (.inr ([], false)) = some x3 := hk18; have e3 := Option.some.inj h; subst e3; have e3 := hret3 _ rfl; subst e3; replace h : some ([], false) = some r := hk3; have er := Option.some.inj h; subst er
           try simp -implicitDefEqProofs (disch := omega) [go_sem, Ak, Ag, Al, Am, Ah, Aa, Af]
           refine A4 (by exact A9 he18) (by first | with_reducible rfl | (simp -implicitDefEqProofs (disch := omega) [go_sem, Ak, Ag, Al, Am, Ah, Aa, Af] <;> omega)) nbA hK
       ·intro c51 h
        try simp (disch := omega) at c51
        refine vcK ?_; simp -implicitDefEqProofs only [go_sem]; have e18 := Option.some.inj h; subst e18; have hy18 := hret18 _ rfl; refine hc18 _ _ ?_; refine .same ⟨n20, v19, v21, hy18, by exact A9 he18, by first | with_reducible rfl | with_reducible assumption | omega | (simp -implicitDefEqProofs (disch := omega) [go_sem, Ak, Ag, Al, Am, Ah, Aa, Af] <;> omega), by first | with_reducible rfl | with_reducible assumption | omega | (simp -implicitDefEqProofs (disch := omega) [go_sem, Ak, Ag, Al, Am, Ah, Aa, Af] <;> omega), by first | with_reducible rfl | with_reducible assumption | omega | (simp -implicitDefEqProofs (disch := omega) [go_sem, Ak, Ag, Al, Am, Ah, Aa, Af] <;> omega), ?_, ?_, ?_, ?_, ?_, ?_⟩ <;> first | with_reducible rfl | with_reducible assumption | (simp -implicitDefEqProofs (disch := omega) [go_sem, Ak, Ag, Al, Am, Ah, Aa, Af] <;> omega)
end Go.Idl
namespace Go.Idl
open Go Go.Proofs.Tryz
noncomputable def DK (a0 : List UInt8) (x3 : (List S55) × Int) (v21 : List S55) (v23 : List UInt8) (v24 : List UInt8) (v25 : Bool) (v26 : Bool) : Option ((List S55) × (List UInt8) × Bool) :=
 if v26 = true then ((F78 a0 x3.2).bind fun (x32 : (List UInt8) × Bool) => if x32.2 = true then ((F71 v24).bind fun (x34 : (List UInt8)) => if x34 = ([99, 104, 117, 110, 107, 101, 100]) then (some ((v21, x32.1, decide ((x32.1.length : Int) ≤ 60000)))) else (some (v21, x32.1, false))) else (some (v21, x32.1, false))) else (if ¬ (v25 = true) then (some ((v21, [], decide (x3.2 = (a0.length : Int))))) else (gd (0 ≤ x3.2) (gd (x3.2 ≤ a0.length) ((F39 (((a0.drop x3.2.toNat).length : Int))).bind fun (x45 : (List UInt8)) => if v23 = x45 then (some ((v21, a0.drop x3.2.toNat, decide ((((a0.drop x3.2.toNat).length : Int)) ≤ 60000)))) else (some (v21, a0.drop x3.2.toNat, false))))))
noncomputable def Gc (a0 : List UInt8) (x3 : (List S55) × Int) (v21 : List S55) (v23 : List UInt8) (v24 : List UInt8) (v25 : Bool) (v26 : Bool) : Option ((List S55) × (List UInt8) × Bool) :=
 if v25 = true then (if v26 = true then (some ([], [], false)) else ((F44 v21).bind fun (x49 : Bool) => if ¬ (x49 = true) then (some ([], [], false)) else (DK a0 x3 v21 v23 v24 v25 v26))) else ((F44 v21).bind fun (x53 : Bool) => if ¬ (x53 = true) then (some ([], [], false)) else (DK a0 x3 v21 v23 v24 v25 v26))
noncomputable def DL (x3 : (List S55) × Int) (v14 : List S55) (v16 : List UInt8) (v17 : List UInt8) (v18 : Bool) (v19 : Bool) (v20 : Int) : Option (((List S55) × (List UInt8) × (List UInt8) × Bool × Bool × Int) ⊕ ((List S55) × (List UInt8) × (List UInt8) × Bool × Bool)) :=
 if v20 < (x3.1.length : Int) then (gd (0 ≤ v20 ∧ v20 < x3.1.length) (if ((x3.1.getD v20.toNat S55.zero).fName) = ([99, 111, 110, 116, 101, 110, 116, 45, 108, 101, 110, 103, 116, 104]) then (some (.inl ((v14, (x3.1.getD v20.toNat S55.zero).A8, v17, true, v19, IntKind.i64.wrap (v20 + 1))))) else (if ((x3.1.getD v20.toNat S55.zero).fName) = ([116, 114, 97, 110, 115, 102, 101, 114, 45, 101, 110, 99, 111, 100, 105, 110, 103]) then (some (.inl ((v14, v16, (x3.1.getD v20.toNat S55.zero).A8, v18, true, IntKind.i64.wrap (v20 + 1))))) else (gd ((v14.length + ([x3.1.getD v20.toNat S55.zero]).length) * 32 ≤ 140737488355328) (some (.inl ((v14 ++ ([x3.1.getD v20.toNat S55.zero]), v16, v17, v18, v19, IntKind.i64.wrap (v20 + 1))))))))) else (some (.inr (v14, v16, v17, v18, v19)))
noncomputable def F54 (a0 : List UInt8) (a1 : Int) : Option ((List S55) × (List UInt8) × Bool) :=
 (F77 a0 a1).bind fun (x3 : (List S55) × Int) => if x3.2 < 0 then (some ([], [], false)) else ((AH (fun (s : (List S55) × (List UInt8) × (List UInt8) × Bool × Bool × Int) => DL x3 s.1 s.2.1 s.2.2.1 s.2.2.2.1 s.2.2.2.2.1 s.2.2.2.2.2) ([], [], [], false, false, 0)).bind fun (e : (List S55) × (List UInt8) × (List UInt8) × Bool × Bool) => Gc a0 x3 e.1 e.2.1 e.2.2.1 e.2.2.2.1 e.2.2.2.2)
set_option maxHeartbeats 8000000 in
set_option pp.deepTerms false in
set_option maxRecDepth 60000 in
theorem QL {H : A3} {K : AB → A3 → Prop} (a0 : List UInt8) (a1 : Int) {r : (List S55) × (List UInt8) × Bool} (h : F54 a0 a1 = some r) (hK : K (.ret (.tu [.sl 2 (r.1.map fun x => [.v (str x.fName), .v (str x.A8)]), .sl 1 (r.2.1.map fun x => [.v (.int .u8 x.toNat)]), .v (.bool r.2.2)])) H) : A6 prog 54 [.sl 1 (a0.map fun x => [.v (.int .u8 x.toNat)]), .v (.int .i64 a1)] H K := by
 refine Ae (N := 109) func54 (by kernel_rfl) rfl (by kernel_rfl) (by kernel_rfl) fun cb hcb hw hbd hnb => ?_; clear hbd hnb; subst hcb; unfold F54 at h; refine A2 fun cb hc1 => ?_; refine vcK ?_
 try simp -implicitDefEqProofs (disch := omega) [go_sem]
 subst hc1; refine A2 fun cb hc2 => ?_; refine vcK ?_
 try simp -implicitDefEqProofs (disch := omega) [go_sem]
 obtain ⟨x3, hx3, h⟩ := A5 h; refine A6.eqA (args' := [.sl 1 (a0.map fun x => [.v (.int .u8 x.toNat)]), .v (.int .i64 a1)]) (by first | with_reducible rfl | (simp -implicitDefEqProofs (disch := omega) [go_sem] <;> omega)) (Vf a0 a1 hx3 ?_)
 try simp -implicitDefEqProofs (disch := omega) [go_sem]
 subst hc2; refine A2 fun cb hc4 => ?_; refine A2 fun cb hc5 => ?_; refine vcK ?_
 try simp -implicitDefEqProofs (disch := omega) [go_sem]
 subst hc5; refine Ac h (by first | with_reducible rfl | (simp -implicitDefEqProofs (disch := omega) [go_sem] <;> omega)) rfl ?_ ?_
 ·intro c6 h
  try simp (disch := omega) at c6
  refine A2 fun cb hc7 => ?_; refine vcK ?_
  try simp -implicitDefEqProofs (disch := omega) [go_sem]
  subst hc7; refine IWp.gh (Gh.C1 4 2 (by (simp -implicitDefEqProofs (disch := omega) [go_sem] <;> omega))) ?_; refine IWp.gh (Gh.C1 5 1 (by (simp -implicitDefEqProofs (disch := omega) [go_sem] <;> omega))) ?_; refine vcK ?_; simp -implicitDefEqProofs only [go_sem]; have er := Option.some.inj h; subst er
  try simp -implicitDefEqProofs (disch := omega) [go_sem]
  refine A4 (by exact A9 (Ext.refl hw)) (by first | with_reducible rfl | (simp -implicitDefEqProofs (disch := omega) [go_sem] <;> omega)) nbA hK
 ·intro c6 h
  try simp (disch := omega) at c6
  refine vcK ?_; simp -implicitDefEqProofs only [go_sem]; subst hc4; refine A2 fun cb hc8 => ?_; refine vcK ?_
  try simp -implicitDefEqProofs (disch := omega) [go_sem]
  subst hc8; refine A2 fun cb hc9 => ?_; refine vcK ?_
  try simp -implicitDefEqProofs (disch := omega) [go_sem]
  subst hc9; refine A2 fun cb hc10 => ?_; refine vcK ?_
  try simp -implicitDefEqProofs (disch := omega) [go_sem]
  subst hc10; refine A2 fun cb hc11 => ?_; refine A2 fun cb hc12 => ?_; refine vcK ?_
  try simp -implicitDefEqProofs (disch := omega) [go_sem]
  subst hc12; obtain ⟨y13, hl13q, hk13⟩ := A5 h; refine Bk (fun tm' H' => ∃ n22 : Nat, ∃ v21 : List S55, ∃ v23 : List UInt8, ∃ v24 : List UInt8, ∃ v25 : Bool, ∃ v26 : Bool, (v21, v23, v24, v25, v26) = y13 ∧ Ext H H' ∧ H.next ≤ H'.next ∧ H.next ≤ n22 ∧ n22 < H'.next ∧ tm' 0 = .sl 1 (a0.map fun x => [.v (.int .u8 x.toNat)]) ∧ tm' 8 = .v (.int .i64 x3.2) ∧ tm' 9 = .os n22 v21.length ∧ tm' 10 = .v (str v23) ∧ tm' 11 = .v (str v24) ∧ tm' 12 = .v (.bool v25) ∧ tm' 13 = .v (.bool v26) ∧ H'.obj n22 = some (.row 2 (v21.map fun x => [.v (str x.fName), .v (str x.A8)]))) ?_ fun cb hc13 => ?_
  ·rintro tm13e H13e ⟨n22, v21, v23, v24, v25, v26, rfl, he13e, hl13e, hr0_13e, hs0_13e, t0_13e, t8_13e, t9_13e, t10_13e, t11_13e, t12_13e, t13_13e, or0_13e⟩
   have h : Gc a0 x3 v21 v23 v24 v25 v26 = some r := hk13; unfold Gc at h; simp -implicitDefEqProofs only [go_sem]; subst hc11; refine Dj (fun tm' H' => Ext H H' ∧ H13e.next ≤ H'.next ∧ tm' 0 = .sl 1 (a0.map fun x => [.v (.int .u8 x.toNat)]) ∧ tm' 8 = .v (.int .i64 x3.2) ∧ tm' 9 = .sl 2 (v21.map fun x => [.v (str x.fName), .v (str x.A8)]) ∧ tm' 10 = .v (str v23) ∧ tm' 11 = .v (str v24) ∧ tm' 12 = .v (.bool v25) ∧ tm' 13 = .v (.bool v26) ∧ DK a0 x3 v21 v23 v24 v25 v26 = some r) ?_ fun cb hc27 => ?_
   ·rintro tm27 H27 ⟨he27, hl27, BL, BM, BN, Be, Bf, Bg, Bh, h⟩
    unfold DK at h; refine A2 fun cb hc28 => ?_; refine A2 fun cb hc29 => ?_; refine vcK ?_
    try simp -implicitDefEqProofs (disch := omega) [go_sem, BL, BM, BN, Be, Bf, Bg, Bh]
    subst hc29; refine Ac h (by first | with_reducible rfl | (simp -implicitDefEqProofs (disch := omega) [go_sem, BL, BM, BN, Be, Bf, Bg, Bh] <;> omega)) rfl ?_ ?_
    ·intro c30 h
     try simp (disch := omega) at c30
     refine A2 fun cb hc31 => ?_; refine vcK ?_
     try simp -implicitDefEqProofs (disch := omega) [go_sem, BL, BM, BN, Be, Bf, Bg, Bh]
     obtain ⟨x32, hx32, h⟩ := A5 h; refine A6.eqA (args' := [.sl 1 (a0.map fun x => [.v (.int .u8 x.toNat)]), .v (.int .i64 x3.2)]) (by first | with_reducible rfl | (simp -implicitDefEqProofs (disch := omega) [go_sem, BL, BM, BN, Be, Bf, Bg, Bh] <;> omega)) (Vg a0 x3.2 hx32 ?_)
     try simp -implicitDefEqProofs (disch := omega) [go_sem, BL, BM, BN, Be, Bf, Bg, Bh]
     subst hc31; refine A2 fun cb hc33 => ?_; refine vcK ?_
     try simp -implicitDefEqProofs (disch := omega) [go_sem, BL, BM, BN, Be, Bf, Bg, Bh]
     refine A7 h (by first | with_reducible rfl | (simp -implicitDefEqProofs (disch := omega) [go_sem, BL, BM, BN, Be, Bf, Bg, Bh] <;> omega)) ?_ ?_
     ·intro c36 h
      try simp (disch := omega) at c36
      try simp -implicitDefEqProofs (disch := omega) [go_sem, BL, BM, BN, Be, Bf, Bg, Bh]
      obtain ⟨x34, hx34, h⟩ := A5 h; refine A6.eqA (args' := [.v (str v24)]) (by first | with_reducible rfl | (simp -implicitDefEqProofs (disch := omega) [go_sem, BL, BM, BN, Be, Bf, Bg, Bh] <;> omega)) (NQ v24 hx34 ?_)
      try simp -implicitDefEqProofs (disch := omega) [go_sem, BL, BM, BN, Be, Bf, Bg, Bh]
      refine A7 h (by first | with_reducible rfl | (simp -implicitDefEqProofs (disch := omega) [go_sem, BL, BM, BN, Be, Bf, Bg, Bh] <;> omega)) ?_ ?_
      ·intro c35 h
       try simp (disch := omega) at c35
       try simp -implicitDefEqProofs (disch := omega) [go_sem, BL, BM, BN, Be, Bf, Bg, Bh]
       subst hc33; refine vcK ?_; simp -implicitDefEqProofs only [go_sem]; have er := Option.some.inj h; subst er
       try simp -implicitDefEqProofs (disch := omega) [go_sem, BL, BM, BN, Be, Bf, Bg, Bh]
       refine A4 (by exact A9 he27) (by first | with_reducible rfl | (simp -implicitDefEqProofs (disch := omega) [go_sem, BL, BM, BN, Be, Bf, Bg, Bh] <;> omega)) nbA hK
      ·intro c35 h
       try simp (disch := omega) at c35
       try simp -implicitDefEqProofs (disch := omega) [go_sem, BL, BM, BN, Be, Bf, Bg, Bh]
       subst hc33; refine vcK ?_; simp -implicitDefEqProofs only [go_sem]; have er := Option.some.inj h; subst er
       try simp -implicitDefEqProofs (disch := omega) [go_sem, BL, BM, BN, Be, Bf, Bg, Bh]
       refine A4 (by exact A9 he27) (by first | with_reducible rfl | (simp -implicitDefEqProofs (disch := omega) [go_sem, BL, BM, BN, Be, Bf, Bg, Bh] <;> omega)) nbA hK
     ·intro c36 h
      try simp (disch := omega) at c36
      try simp -implicitDefEqProofs (disch := omega) [go_sem, BL, BM, BN, Be, Bf, Bg, Bh]
      subst hc33; refine vcK ?_; simp -implicitDefEqProofs only [go_sem]; have er := Option.some.inj h; subst er
      try simp -implicitDefEqProofs (disch := omega) [go_sem, BL, BM, BN, Be, Bf, Bg, Bh]
      refine A4 (by exact A9 he27) (by first | with_reducible rfl | (simp -implicitDefEqProofs (disch := omega) [go_sem, BL, BM, BN, Be, Bf, Bg, Bh] <;> omega)) nbA hK
    ·intro c30 h
     try simp (disch := omega) at c30
     refine vcK ?_; simp -implicitDefEqProofs only [go_sem]; subst hc28; refine A2 fun cb hc37 => ?_; refine A2 fun cb hc38 => ?_; refine vcK ?_
     try simp -implicitDefEqProofs (disch := omega) [go_sem, BL, BM, BN, Be, Bf, Bg, Bh]
     subst hc38; refine Ac h (by first | with_reducible rfl | (simp -implicitDefEqProofs (disch := omega) [go_sem, BL, BM, BN, Be, Bf, Bg, Bh] <;> omega)) rfl ?_ ?_
     ·intro c39 h
      try simp (disch := omega) at c39
      refine A2 fun cb hc40 => ?_; refine vcK ?_
      try simp -implicitDefEqProofs (disch := omega) [go_sem, BL, BM, BN, Be, Bf, Bg, Bh]
      subst hc40; refine IWp.gh (Gh.C1 5 1 (by (simp -implicitDefEqProofs (disch := omega) [go_sem, BL, BM, BN, Be, Bf, Bg, Bh] <;> omega))) ?_; refine vcK ?_; simp -implicitDefEqProofs only [go_sem]; have er := Option.some.inj h; subst er
      try simp -implicitDefEqProofs (disch := omega) [go_sem, BL, BM, BN, Be, Bf, Bg, Bh]
      refine A4 (by exact A9 he27) (by first | with_reducible rfl | (simp -implicitDefEqProofs (disch := omega) [go_sem, BL, BM, BN, Be, Bf, Bg, Bh] <;> omega)) nbA hK
     ·intro c39 h
      try simp (disch := omega) at c39
      refine vcK ?_; simp -implicitDefEqProofs only [go_sem]; subst hc37; refine A2 fun cb hc41 => ?_; refine vcK ?_; obtain ⟨g42, h⟩ := Ab.1 h
      try simp (disch := omega) at g42
      obtain ⟨g43, h⟩ := Ab.1 h
      try simp (disch := omega) at g43
      try simp -implicitDefEqProofs (disch := omega) [go_sem, BL, BM, BN, Be, Bf, Bg, Bh]
      subst hc41; refine A2 fun cb hc44 => ?_; refine vcK ?_
      try simp -implicitDefEqProofs (disch := omega) [go_sem, BL, BM, BN, Be, Bf, Bg, Bh]
      obtain ⟨x45, hx45, h⟩ := A5 h; refine A6.eqA (args' := [.v (.int .i64 (((a0.drop x3.2.toNat).length : Int)))]) (by first | with_reducible rfl | (simp -implicitDefEqProofs (disch := omega) [go_sem, BL, BM, BN, Be, Bf, Bg, Bh] <;> omega)) (Ve (((a0.drop x3.2.toNat).length : Int)) hx45 ?_)
      try simp -implicitDefEqProofs (disch := omega) [go_sem, BL, BM, BN, Be, Bf, Bg, Bh]
      refine A7 h (by first | with_reducible rfl | (simp -implicitDefEqProofs (disch := omega) [go_sem, BL, BM, BN, Be, Bf, Bg, Bh] <;> omega)) ?_ ?_
      ·intro c46 h
       try simp (disch := omega) at c46
       try simp -implicitDefEqProofs (disch := omega) [go_sem, BL, BM, BN, Be, Bf, Bg, Bh]
       subst hc44; refine vcK ?_; simp -implicitDefEqProofs only [go_sem]; have er := Option.some.inj h; subst er
       try simp -implicitDefEqProofs (disch := omega) [go_sem, BL, BM, BN, Be, Bf, Bg, Bh]
       refine A4 (by exact A9 he27) (by first | with_reducible rfl | (simp -implicitDefEqProofs (disch := omega) [go_sem, BL, BM, BN, Be, Bf, Bg, Bh] <;> omega)) nbA hK
      ·intro c46 h
       try simp (disch := omega) at c46
       try simp -implicitDefEqProofs (disch := omega) [go_sem, BL, BM, BN, Be, Bf, Bg, Bh]
       subst hc44; refine vcK ?_; simp -implicitDefEqProofs only [go_sem]; have er := Option.some.inj h; subst er
       try simp -implicitDefEqProofs (disch := omega) [go_sem, BL, BM, BN, Be, Bf, Bg, Bh]
       refine A4 (by exact A9 he27) (by first | with_reducible rfl | (simp -implicitDefEqProofs (disch := omega) [go_sem, BL, BM, BN, Be, Bf, Bg, Bh] <;> omega)) nbA hK
   ·refine A2 fun cb hc47 => ?_; refine IWp.gh (Gh.freeze (d := 9) (k := n22) (sz := 2) (es := v21.map fun x => [.v (str x.fName), .v (str x.A8)]) (by (simp -implicitDefEqProofs (disch := omega) [go_sem, t0_13e, t8_13e, t9_13e, t10_13e, t11_13e, t12_13e, t13_13e, or0_13e] <;> omega)) (by (simp -implicitDefEqProofs (disch := omega) [go_sem, t0_13e, t8_13e, t9_13e, t10_13e, t11_13e, t12_13e, t13_13e, or0_13e] <;> omega))) ?_; refine vcK ?_
    try simp -implicitDefEqProofs (disch := omega) [go_sem, t0_13e, t8_13e, t9_13e, t10_13e, t11_13e, t12_13e, t13_13e, or0_13e]
    refine A7 h (by first | with_reducible rfl | (simp -implicitDefEqProofs (disch := omega) [go_sem, t0_13e, t8_13e, t9_13e, t10_13e, t11_13e, t12_13e, t13_13e, or0_13e] <;> omega)) ?_ ?_
    ·intro c56 h
     try simp (disch := omega) at c56
     try simp -implicitDefEqProofs (disch := omega) [go_sem, t0_13e, t8_13e, t9_13e, t10_13e, t11_13e, t12_13e, t13_13e, or0_13e]
     refine A7 h (by first | with_reducible rfl | (simp -implicitDefEqProofs (disch := omega) [go_sem, t0_13e, t8_13e, t9_13e, t10_13e, t11_13e, t12_13e, t13_13e, or0_13e] <;> omega)) ?_ ?_
     ·intro c52 h
      try simp (disch := omega) at c52
      try simp -implicitDefEqProofs (disch := omega) [go_sem, t0_13e, t8_13e, t9_13e, t10_13e, t11_13e, t12_13e, t13_13e, or0_13e]
      subst hc47; refine As (by first | with_reducible rfl | (simp -implicitDefEqProofs (disch := omega) [go_sem, t0_13e, t8_13e, t9_13e, t10_13e, t11_13e, t12_13e, t13_13e, or0_13e] <;> omega)) rfl ?_; refine A2 fun cb hc48 => ?_; refine vcK ?_
      try simp -implicitDefEqProofs (disch := omega) [go_sem, t0_13e, t8_13e, t9_13e, t10_13e, t11_13e, t12_13e, t13_13e, or0_13e]
      subst hc48; refine IWp.gh (Gh.C1 4 2 (by (simp -implicitDefEqProofs (disch := omega) [go_sem, t0_13e, t8_13e, t9_13e, t10_13e, t11_13e, t12_13e, t13_13e, or0_13e] <;> omega))) ?_; refine IWp.gh (Gh.C1 5 1 (by (simp -implicitDefEqProofs (disch := omega) [go_sem, t0_13e, t8_13e, t9_13e, t10_13e, t11_13e, t12_13e, t13_13e, or0_13e] <;> omega))) ?_; refine vcK ?_; simp -implicitDefEqProofs only [go_sem]; have er := Option.some.inj h; subst er
      try simp -implicitDefEqProofs (disch := omega) [go_sem, t0_13e, t8_13e, t9_13e, t10_13e, t11_13e, t12_13e, t13_13e, or0_13e]
      refine A4 (by exact A9 he13e) (by first | with_reducible rfl | (simp -implicitDefEqProofs (disch := omega) [go_sem, t0_13e, t8_13e, t9_13e, t10_13e, t11_13e, t12_13e, t13_13e, or0_13e] <;> omega)) nbA hK
     ·intro c52 h
      try simp (disch := omega) at c52
      try simp -implicitDefEqProofs (disch := omega) [go_sem, t0_13e, t8_13e, t9_13e, t10_13e, t11_13e, t12_13e, t13_13e, or0_13e]
      obtain ⟨x49, hx49, h⟩ := A5 h; refine A6.eqA (args' := [.sl 2 (v21.map fun x => [.v (str x.fName), .v (str x.A8)])]) (by first | with_reducible rfl | (simp -implicitDefEqProofs (disch := omega) [go_sem, t0_13e, t8_13e, t9_13e, t10_13e, t11_13e, t12_13e, t13_13e, or0_13e] <;> omega)) (QI v21 hx49 ?_)
      try simp -implicitDefEqProofs (disch := omega) [go_sem, t0_13e, t8_13e, t9_13e, t10_13e, t11_13e, t12_13e, t13_13e, or0_13e]
      subst hc47; refine Ac h (by first | with_reducible rfl | (simp -implicitDefEqProofs (disch := omega) [go_sem, t0_13e, t8_13e, t9_13e, t10_13e, t11_13e, t12_13e, t13_13e, or0_13e] <;> omega)) rfl ?_ ?_
      ·intro c50 h
       try simp (disch := omega) at c50
       refine A2 fun cb hc51 => ?_; refine vcK ?_
       try simp -implicitDefEqProofs (disch := omega) [go_sem, t0_13e, t8_13e, t9_13e, t10_13e, t11_13e, t12_13e, t13_13e, or0_13e]
       subst hc51; refine IWp.gh (Gh.C1 4 2 (by (simp -implicitDefEqProofs (disch := omega) [go_sem, t0_13e, t8_13e, t9_13e, t10_13e, t11_13e, t12_13e, t13_13e, or0_13e] <;> omega))) ?_; refine IWp.gh (Gh.C1 5 1 (by (simp -implicitDefEqProofs (disch := omega) [go_sem, t0_13e, t8_13e, t9_13e, t10_13e, t11_13e, t12_13e, t13_13e, or0_13e] <;> omega))) ?_; refine vcK ?_; simp -implicitDefEqProofs only [go_sem]; have er := Option.some.inj h; subst er
       try simp -implicitDefEqProofs (disch := omega) [go_sem, t0_13e, t8_13e, t9_13e, t10_13e, t11_13e, t12_13e, t13_13e, or0_13e]
       refine A4 (by exact A9 he13e) (by first | with_reducible rfl | (simp -implicitDefEqProofs (disch := omega) [go_sem, t0_13e, t8_13e, t9_13e, t10_13e, t11_13e, t12_13e, t13_13e, or0_13e] <;> omega)) nbA hK
      ·intro c50 h
       try simp (disch := omega) at c50
       refine vcK ?_; simp -implicitDefEqProofs only [go_sem]; refine hc27 _ _ ?_; refine .same ⟨by exact A9 he13e, by first | with_reducible rfl | with_reducible assumption | omega | (simp -implicitDefEqProofs (disch := omega) [go_sem, t0_13e, t8_13e, t9_13e, t10_13e, t11_13e, t12_13e, t13_13e, or0_13e] <;> omega), ?_, ?_, ?_, ?_, ?_, ?_, ?_, h⟩ <;> first | with_reducible rfl | with_reducible assumption | (simp -implicitDefEqProofs (disch := omega) [go_sem, t0_13e, t8_13e, t9_13e, t10_13e, t11_13e, t12_13e, t13_13e, or0_13e] <;> omega)
    ·intro c56 h
     try simp (disch := omega) at c56
     try simp -implicitDefEqProofs (disch := omega) [go_sem, t0_13e, t8_13e, t9_13e, t10_13e, t11_13e, t12_13e, t13_13e, or0_13e]
     obtain ⟨x53, hx53, h⟩ := A5 h; refine A6.eqA (args' := [.sl 2 (v21.map fun x => [.v (str x.fName), .v (str x.A8)])]) (by first | with_reducible rfl | (simp -implicitDefEqProofs (disch := omega) [go_sem, t0_13e, t8_13e, t9_13e, t10_13e, t11_13e, t12_13e, t13_13e, or0_13e] <;> omega)) (QI v21 hx53 ?_)
     try simp -implicitDefEqProofs (disch := omega) [go_sem, t0_13e, t8_13e, t9_13e, t10_13e, t11_13e, t12_13e, t13_13e, or0_13e]
     subst hc47; refine Ac h (by first | with_reducible rfl | (simp -implicitDefEqProofs (disch := omega) [go_sem, t0_13e, t8_13e, t9_13e, t10_13e, t11_13e, t12_13e, t13_13e, or0_13e] <;> omega)) rfl ?_ ?_
     ·intro c54 h
      try simp (disch := omega) at c54
      refine A2 fun cb hc55 => ?_; refine vcK ?_
      try simp -implicitDefEqProofs (disch := omega) [go_sem, t0_13e, t8_13e, t9_13e, t10_13e, t11_13e, t12_13e, t13_13e, or0_13e]
      subst hc55; refine IWp.gh (Gh.C1 4 2 (by (simp -implicitDefEqProofs (disch := omega) [go_sem, t0_13e, t8_13e, t9_13e, t10_13e, t11_13e, t12_13e, t13_13e, or0_13e] <;> omega))) ?_; refine IWp.gh (Gh.C1 5 1 (by (simp -implicitDefEqProofs (disch := omega) [go_sem, t0_13e, t8_13e, t9_13e, t10_13e, t11_13e, t12_13e, t13_13e, or0_13e] <;> omega))) ?_; refine vcK ?_; simp -implicitDefEqProofs only [go_sem]; have er := Option.some.inj h; subst er
      try simp -implicitDefEqProofs (disch := omega) [go_sem, t0_13e, t8_13e, t9_13e, t10_13e, t11_13e, t12_13e, t13_13e, or0_13e]
      refine A4 (by exact A9 he13e) (by first | with_reducible rfl | (simp -implicitDefEqProofs (disch := omega) [go_sem, t0_13e, t8_13e, t9_13e, t10_13e, t11_13e, t12_13e, t13_13e, or0_13e] <;> omega)) nbA hK
     ·intro c54 h
      try simp (disch := omega) at c54
      refine vcK ?_; simp -implicitDefEqProofs only [go_sem]; refine hc27 _ _ ?_; refine .same ⟨by exact A9 he13e, by first | with_reducible rfl | with_reducible assumption | omega | (simp -implicitDefEqProofs (disch := omega) [go_sem, t0_13e, t8_13e, t9_13e, t10_13e, t11_13e, t12_13e, t13_13e, or0_13e] <;> omega), ?_, ?_, ?_, ?_, ?_, ?_, ?_, h⟩ <;> first | with_reducible rfl | with_reducible assumption | (simp -implicitDefEqProofs (disch := omega) [go_sem, t0_13e, t8_13e, t9_13e, t10_13e, t11_13e, t12_13e, t13_13e, or0_13e] <;> omega)
  ·refine Ai ?_; refine AF (fun (s : (List S55) × (List UInt8) × (List UInt8) × Bool × Bool × Int) tm' H' => ∃ n15 : Nat, Ext H H' ∧ H.next ≤ H'.next ∧ H.next ≤ n15 ∧ n15 < H'.next ∧ tm' 0 = .sl 1 (a0.map fun x => [.v (.int .u8 x.toNat)]) ∧ tm' 7 = .sl 2 (x3.1.map fun x => [.v (str x.fName), .v (str x.A8)]) ∧ tm' 8 = .v (.int .i64 x3.2) ∧ tm' 9 = .os n15 s.1.length ∧ tm' 10 = .v (str s.2.1) ∧ tm' 11 = .v (str s.2.2.1) ∧ tm' 12 = .v (.bool s.2.2.2.1) ∧ tm' 13 = .v (.bool s.2.2.2.2.1) ∧ tm' 14 = .v (.int .i64 s.2.2.2.2.2) ∧ H'.obj n15 = some (.row 2 (s.1.map fun x => [.v (str x.fName), .v (str x.A8)]))) hl13q ?_ ?_
   ·refine UpI.gh (Gh.GM (d := 9) (sz := 2) (by omega) (by (simp -implicitDefEqProofs (disch := omega) [go_sem] <;> omega))) ?_; refine .same ⟨H.next, by exact A9 (Ext.refl hw), by first | with_reducible rfl | with_reducible assumption | omega | (simp -implicitDefEqProofs (disch := omega) [go_sem] <;> omega), by first | with_reducible rfl | with_reducible assumption | omega | (simp -implicitDefEqProofs (disch := omega) [go_sem] <;> omega), by first | with_reducible rfl | with_reducible assumption | omega | (simp -implicitDefEqProofs (disch := omega) [go_sem] <;> omega), ?_, ?_, ?_, ?_, ?_, ?_, ?_, ?_, ?_, ?_⟩ <;> first | with_reducible rfl | with_reducible assumption | (simp -implicitDefEqProofs (disch := omega) [go_sem] <;> omega)
   ·rintro I13 hI13 ⟨v14, v16, v17, v18, v19, v20⟩ x13 tm13 H13 ⟨n15, he13, hl13, ZF, ZG, Bx, By, Co, Cp, BB, BC, BD, BE, BF, BG⟩ h hret13
    replace h : DL x3 v14 v16 v17 v18 v19 v20 = some x13 := h; unfold DL at h; refine A2 fun cb hc57 => ?_; refine A2 fun cb hc58 => ?_; refine vcK ?_
    try simp -implicitDefEqProofs (disch := omega) [go_sem, Bx, By, Co, Cp, BB, BC, BD, BE, BF, BG]
    subst hc58; refine Ac h (by first | with_reducible rfl | (simp -implicitDefEqProofs (disch := omega) [go_sem, Bx, By, Co, Cp, BB, BC, BD, BE, BF, BG] <;> omega)) rfl ?_ ?_
    ·intro c59 h
     try simp (disch := omega) at c59
     refine vcK ?_; simp -implicitDefEqProofs only [go_sem]; subst hc57; refine A2 fun cb hc60 => ?_; refine Ai ?_; refine A2 fun cb hc61 => ?_; refine vcK ?_; obtain ⟨g62, h⟩ := Ab.1 h
     try simp (disch := omega) at g62
     try simp -implicitDefEqProofs (disch := omega) [go_sem, Bx, By, Co, Cp, BB, BC, BD, BE, BF, BG]
     subst hc61; refine Ai ?_; refine A2 fun cb hc63 => ?_; refine vcK ?_
     try simp -implicitDefEqProofs (disch := omega) [go_sem, Bx, By, Co, Cp, BB, BC, BD, BE, BF, BG]
     subst hc63; refine Ac h (by first | with_reducible rfl | (simp -implicitDefEqProofs (disch := omega) [go_sem, Bx, By, Co, Cp, BB, BC, BD, BE, BF, BG] <;> omega)) rfl ?_ ?_
     ·intro c64 h
      try simp (disch := omega) at c64
      refine vcK ?_
      try simp -implicitDefEqProofs (disch := omega) [go_sem, Bx, By, Co, Cp, BB, BC, BD, BE, BF, BG]
      subst hc60; refine vcK ?_
      try simp -implicitDefEqProofs (disch := omega) [go_sem, Bx, By, Co, Cp, BB, BC, BD, BE, BF, BG]
      have e13 := Option.some.inj h; subst e13; refine Au hI13 ((v14, (x3.1.getD v20.toNat S55.zero).A8, v17, true, v19, IntKind.i64.wrap (v20 + 1))) ?_; refine .same ⟨n15, by exact A9 he13, by first | with_reducible rfl | with_reducible assumption | omega | (simp -implicitDefEqProofs (disch := omega) [go_sem, Bx, By, Co, Cp, BB, BC, BD, BE, BF, BG] <;> omega), by first | with_reducible rfl | with_reducible assumption | omega | (simp -implicitDefEqProofs (disch := omega) [go_sem, Bx, By, Co, Cp, BB, BC, BD, BE, BF, BG] <;> omega), by first | with_reducible rfl | with_reducible assumption | omega | (simp -implicitDefEqProofs (disch := omega) [go_sem, Bx, By, Co, Cp, BB, BC, BD, BE, BF, BG] <;> omega), ?_, ?_, ?_, ?_, ?_, ?_, ?_, ?_, ?_, ?_⟩ <;> first | with_reducible rfl | with_reducible assumption | (simp -implicitDefEqProofs (disch := omega) [go_sem, Bx, By, Co, Cp, BB, BC, BD, BE, BF, BG] <;> omega)
     ·intro c64 h
      try simp (disch := omega) at c64
      refine A2 fun cb hc65 => ?_; refine vcK ?_
      try simp -implicitDefEqProofs (disch := omega) [go_sem, Bx, By, Co, Cp, BB, BC, BD, BE, BF, BG]
      subst hc65; refine Ac h (by first | with_reducible rfl | (simp -implicitDefEqProofs (disch := omega) [go_sem, Bx, By, Co, Cp, BB, BC, BD, BE, BF, BG] <;> omega)) rfl ?_ ?_
      ·intro c66 h
       try simp (disch := omega) at c66
       refine vcK ?_
       try simp -implicitDefEqProofs (disch := omega) [go_sem, Bx, By, Co, Cp, BB, BC, BD, BE, BF, BG]
       subst hc60; refine vcK ?_
       try simp -implicitDefEqProofs (disch := omega) [go_sem, Bx, By, Co, Cp, BB, BC, BD, BE, BF, BG]
       have e13 := Option.some.inj h; subst e13; refine Au hI13 ((v14, v16, (x3.1.getD v20.toNat S55.zero).A8, v18, true, IntKind.i64.wrap (v20 + 1))) ?_; refine .same ⟨n15, by exact A9 he13, by first | with_reducible rfl | with_reducible assumption | omega | (simp -implicitDefEqProofs (disch := omega) [go_sem, Bx, By, Co, Cp, BB, BC, BD, BE, BF, BG] <;> omega), by first | with_reducible rfl | with_reducible assumption | omega | (simp -implicitDefEqProofs (disch := omega) [go_sem, Bx, By, Co, Cp, BB, BC, BD, BE, BF, BG] <;> omega), by first | with_reducible rfl | with_reducible assumption | omega | (simp -implicitDefEqProofs (disch := omega) [go_sem, Bx, By, Co, Cp, BB, BC, BD, BE, BF, BG] <;> omega), ?_, ?_, ?_, ?_, ?_, ?_, ?_, ?_, ?_, ?_⟩ <;> first | with_reducible rfl | with_reducible assumption | (simp -implicitDefEqProofs (disch := omega) [go_sem, Bx, By, Co, Cp, BB, BC, BD, BE, BF, BG] <;> omega)
      ·intro c66 h
       try simp (disch := omega) at c66
       refine vcK ?_; obtain ⟨g67, h⟩ := Ab.1 h
       try simp (disch := omega) at g67
       try simp -implicitDefEqProofs (disch := omega) [go_sem, Bx, By, Co, Cp, BB, BC, BD, BE, BF, BG]
       subst hc60; refine vcK ?_
       try simp -implicitDefEqProofs (disch := omega) [go_sem, Bx, By, Co, Cp, BB, BC, BD, BE, BF, BG]
       have e13 := Option.some.inj h; subst e13; refine Au hI13 ((v14 ++ ([x3.1.getD v20.toNat S55.zero]), v16, v17, v18, v19, IntKind.i64.wrap (v20 + 1))) ?_; refine .same ⟨n15, by exact A9 he13, by first | with_reducible rfl | with_reducible assumption | omega | (simp -implicitDefEqProofs (disch := omega) [go_sem, Bx, By, Co, Cp, BB, BC, BD, BE, BF, BG] <;> omega), by first | with_reducible rfl | with_reducible assumption | omega | (simp -implicitDefEqProofs (disch := omega) [go_sem, Bx, By, Co, Cp, BB, BC, BD, BE, BF, BG] <;> omega), by first | with_reducible rfl | with_reducible assumption | omega | (simp -implicitDefEqProofs (disch := omega) [go_sem, Bx, By, Co, Cp, BB, BC, BD, BE, BF, BG] <;> omega), ?_, ?_, ?_, ?_, ?_, ?_, ?_, ?_, ?_, ?_⟩ <;> first | with_reducible rfl | with_reducible assumption | (simp -implicitDefEqProofs (disch := omega) [go_sem, Bx, By, Co, Cp, BB, BC, BD, BE, BF, BG] <;> omega)
    ·intro c59 h
     try simp (disch := omega) at c59
     refine vcK ?_; simp -implicitDefEqProofs only [go_sem]; have e13 := Option.some.inj h; subst e13; have hy13 := hret13 _ rfl; refine hc13 _ _ ?_; refine .same ⟨n15, v14, v16, v17, v18, v19, hy13, by exact A9 he13, by first | with_reducible rfl | with_reducible assumption | omega | (simp -implicitDefEqProofs (disch := omega) [go_sem, Bx, By, Co, Cp, BB, BC, BD, BE, BF, BG] <;> omega), by first | with_reducible rfl | with_reducible assumption | omega | (simp -implicitDefEqProofs (disch := omega) [go_sem, Bx, By, Co, Cp, BB, BC, BD, BE, BF, BG] <;> omega), by first | with_reducible rfl | with_reducible assumption | omega | (simp -implicitDefEqProofs (disch := omega) [go_sem, Bx, By, Co, Cp, BB, BC, BD, BE, BF, BG] <;> omega), ?_, ?_, ?_, ?_, ?_, ?_, ?_, ?_⟩ <;> first | with_reducible rfl | with_reducible assumption | (simp -implicitDefEqProofs (disch := omega) [go_sem, Bx, By, Co, Cp, BB, BC, BD, BE, BF, BG] <;> omega)
end Go.Idl
