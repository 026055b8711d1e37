/- The bytes of any request, or that there are none; they are that request again: the saying of the case law 12 Part 6. Conditions: none. -/
import Derived.Test.YtdgfbojdppohnaaGreatDoorPartE
set_option linter.unusedSimpArgs false
set_option linter.unusedVariables false
namespace Go.Idl
open Go Go.Proofs.Tryz
noncomputable def F36 (a0 : List UInt8) : Option (S25 × Int) :=
 (F64 ((⟨(⟨a0⟩ : S98)⟩ : AA))).bind fun (x5 : Except Unit ((List UInt8) × AA)) => orP x5 (fun (ex5 : Unit) => some (((⟨0, [], []⟩ : S25), 220))) (fun (y6 : (List UInt8) × AA) => (F30 y6.1).bind fun (x7 : Except Unit (S25)) => orP x7 (fun (ex7 : Unit) => some (((⟨0, [], []⟩ : S25), 220))) (fun (y8 : S25) => (F65 y6.2).bind fun (x10 : Except Unit ((List (List UInt8 × (List UInt8))) × AA)) => orP x10 (fun (ex10 : Unit) => some (((⟨0, [], []⟩ : S25), 220))) (fun (y11 : (List (List UInt8 × (List UInt8))) × AA) => (F66 y11.2 y11.1).bind fun (x13 : Except Unit ((List UInt8) × AA × (List (List UInt8 × (List UInt8))))) => orP x13 (fun (ex13 : Unit) => some (((⟨0, [], []⟩ : S25), 220))) (fun (y14 : (List UInt8) × AA × (List (List UInt8 × (List UInt8)))) => if (y14.2.1.Bb.fb.length : Int) = 0 then ((F67 y14.2.2).bind fun (x16 : (List S55)) => (F27 x16 y14.1).bind fun (x17 : Bool) => if x17 = true then ((F67 y14.2.2).bind fun (x20 : (List S55)) => (F37 y8 x20 y14.1).bind fun (x21 : S25) => some (x21, 0)) else (some (((⟨0, [], []⟩ : S25), 220)))) else (some (((⟨0, [], []⟩ : S25), 220)))))))
set_option maxHeartbeats 8000000 in
set_option pp.deepTerms false in
set_option maxRecDepth 60000 in
theorem Tq {H : A0} {K : Am → A0 → Prop} (a0 : List UInt8) (hV : VOK prog H) {r : S25 × Int} (h : F36 a0 = some r) (hK : K (.ret (.tu [.ag ([.v (.int .i64 r.1.Ea), .sl 2 (r.1.Aj.map fun x => [.v (str x.fName), .v (str x.A5)]), .sl 1 (r.1.An.map fun x => [.v (.int .u8 x.toNat)])]), .v (.int .i64 r.2)])) H) : A3 prog 36 [.sl 1 (a0.map fun x => [.v (.int .u8 x.toNat)]), .v (.func (.func 30) #[] #[]), .v (.func (.func 37) #[] #[])] H K := by
 refine Iv (N := 45) func36 (by kernel_rfl) rfl (by kernel_rfl) (by kernel_rfl) fun cb hcb hw => ?_; subst hcb; unfold F36 at h; refine EL fun cb hc1 => ?_; refine Fl.of ?_; refine vcK ?_
 try simp -implicitDefEqProofs (disch := omega) [go_sem, bdP]
 subst hc1; refine EL fun cb hc2 => ?_; refine G_ (by kernel_rfl) ?_; simp (decide := true) only [G0, Js, Iw]
 try simp -implicitDefEqProofs (disch := omega) [go_sem, bdP]
 subst hc2; refine Fl.of ?_; refine A1 fun cb hc3 => ?_; refine vcK ?_
 try simp -implicitDefEqProofs (disch := omega) [go_sem, bdP]
 subst hc3; refine A1 fun cb hc4 => ?_; refine vcK ?_
 try simp -implicitDefEqProofs (disch := omega) [go_sem, bdP]
 obtain ⟨x5, hx5, h⟩ := A4 h; refine A3.eqA (args' := [.p (H.next + 2) 0]) (by first | with_reducible rfl | (simp -implicitDefEqProofs (disch := omega) [go_sem, bdP] <;> omega)) (Fy ((⟨(⟨a0⟩ : S98)⟩ : AA)) (H.next + 2) (by first | with_reducible assumption | simp -implicitDefEqProofs (disch := omega) [go_sem, bdP]) (by first | exact hV.of rfl | exact hV.of ((Ext.refl hw)).sn | exact hV.of (Ext.sn (H := H) (by exact A8 (Ext.refl hw))) | exact (VOK.of hV rfl).tok | exact (VOK.of hV ((Ext.refl hw)).sn).tok | exact (VOK.of hV (Ext.sn (H := H) (by exact A8 (Ext.refl hw)))).tok) hx5 ?_ ?_)
 ·intro ex5 qx5; subst qx5; replace h := AP h; have er := Option.some.inj h; subst er
  try simp -implicitDefEqProofs (disch := omega) [go_sem, bdP]
  refine Cc ?_; refine AV.eqA (args' := [.p H.next 0, .p (H.next + 1) 0]) (by first | with_reducible rfl | (simp -implicitDefEqProofs (disch := omega) [go_sem, bdP]; done) | rfl) (ER H.next (H.next + 1) (.v (.int .i64 0)) (.v (.slice none 0 0)) (.v (.slice none 0 0)) (.v (.int .i64 0)) (by first | with_reducible assumption | simp -implicitDefEqProofs (disch := omega) [go_sem, bdP]) (by first | with_reducible assumption | simp -implicitDefEqProofs (disch := omega) [go_sem, bdP]) (by first | omega | (simp [go_sem]; done) | (simp [go_sem]; omega)) ?_)
  try simp -implicitDefEqProofs (disch := omega) [go_sem, bdP]
  refine AL (J := H) (r' := _) (Ext.Dz (by exact A8 (Ext.refl hw))) (by first | with_reducible rfl | (simp -implicitDefEqProofs (disch := omega) [go_sem, bdP] <;> omega)) (.wk _ (.tu [.ag ([.v (.int .i64 0), .sl 2 (([] : List S55).map fun x => [.v (str x.fName), .v (str x.A5)]), .sl 1 (([] : List UInt8).map fun x => [.v (.int .u8 x.toNat)])]), .v (.int .i64 220)]) (by repeat (first | exact WkL.nil | refine WkL.cons ?_ ?_ | exact Wk.refl _ | exact Wk.nil _ | refine Wk.agL ?_ | refine Wk.tuL ?_ | (refine Wk.eqv ?_; focus (simp -implicitDefEqProofs (disch := omega) [go_sem, str]; done)))) (by first | exact nbA | exact BP | exact BB)) hK
 intro y6 qx5; subst qx5; replace h := B6 h
 try simp -implicitDefEqProofs (disch := omega) [go_sem, bdP]
 obtain ⟨x7, hx7, h⟩ := A4 h; refine A3.eqA (args' := [.v (str y6.1)]) (by first | with_reducible rfl | (simp -implicitDefEqProofs (disch := omega) [go_sem, bdP] <;> omega)) (To y6.1 (by first | exact hV.of rfl | exact hV.of ((Ext.refl hw)).sn | exact hV.of (Ext.sn (H := H) (by exact A8 (Ext.refl hw))) | exact (VOK.of hV rfl).tok | exact (VOK.of hV ((Ext.refl hw)).sn).tok | exact (VOK.of hV (Ext.sn (H := H) (by exact A8 (Ext.refl hw)))).tok) hx7 ?_ ?_)
 ·intro ex7 qx7; subst qx7; replace h := AP h; have er := Option.some.inj h; subst er
  try simp -implicitDefEqProofs (disch := omega) [go_sem, bdP]
  refine Cc ?_; refine AV.eqA (args' := [.p H.next 0, .p (H.next + 1) 0]) (by first | with_reducible rfl | (simp -implicitDefEqProofs (disch := omega) [go_sem, bdP]; done) | rfl) (ER H.next (H.next + 1) (.v (.int .i64 0)) (.v (.slice none 0 0)) (.v (.slice none 0 0)) (.v (.int .i64 0)) (by first | with_reducible assumption | simp -implicitDefEqProofs (disch := omega) [go_sem, bdP]) (by first | with_reducible assumption | simp -implicitDefEqProofs (disch := omega) [go_sem, bdP]) (by first | omega | (simp [go_sem]; done) | (simp [go_sem]; omega)) ?_)
  try simp -implicitDefEqProofs (disch := omega) [go_sem, bdP]
  refine AL (J := H) (r' := _) (Ext.Dz (by exact A8 (Ext.refl hw))) (by first | with_reducible rfl | (simp -implicitDefEqProofs (disch := omega) [go_sem, bdP] <;> omega)) (.wk _ (.tu [.ag ([.v (.int .i64 0), .sl 2 (([] : List S55).map fun x => [.v (str x.fName), .v (str x.A5)]), .sl 1 (([] : List UInt8).map fun x => [.v (.int .u8 x.toNat)])]), .v (.int .i64 220)]) (by repeat (first | exact WkL.nil | refine WkL.cons ?_ ?_ | exact Wk.refl _ | exact Wk.nil _ | refine Wk.agL ?_ | refine Wk.tuL ?_ | (refine Wk.eqv ?_; focus (simp -implicitDefEqProofs (disch := omega) [go_sem, str]; done)))) (by first | exact nbA | exact BP | exact BB)) hK
 intro y8 qx7; subst qx7; replace h := B6 h
 try simp -implicitDefEqProofs (disch := omega) [go_sem, bdP]
 subst hc4; refine A1 fun cb hc9 => ?_; refine vcK ?_
 try simp -implicitDefEqProofs (disch := omega) [go_sem, bdP]
 obtain ⟨x10, hx10, h⟩ := A4 h; refine A3.eqA (args' := [.p (H.next + 2) 0]) (by first | with_reducible rfl | (simp -implicitDefEqProofs (disch := omega) [go_sem, bdP] <;> omega)) (P4 y6.2 (H.next + 2) (by first | with_reducible assumption | simp -implicitDefEqProofs (disch := omega) [go_sem, bdP]) (by first | exact hV.of rfl | exact hV.of ((Ext.refl hw)).sn | exact hV.of (Ext.sn (H := H) (by exact A8 (Ext.refl hw))) | exact (VOK.of hV rfl).tok | exact (VOK.of hV ((Ext.refl hw)).sn).tok | exact (VOK.of hV (Ext.sn (H := H) (by exact A8 (Ext.refl hw)))).tok) hx10 ?_ ?_)
 ·intro ex10 qx10; subst qx10; replace h := AP h; have er := Option.some.inj h; subst er
  try simp -implicitDefEqProofs (disch := omega) [go_sem, bdP]
  refine Cc ?_; refine AV.eqA (args' := [.p H.next 0, .p (H.next + 1) 0]) (by first | with_reducible rfl | (simp -implicitDefEqProofs (disch := omega) [go_sem, bdP]; done) | rfl) (ER H.next (H.next + 1) (.v (.int .i64 y8.Ea)) (.sl 2 (y8.Aj.map fun x => [.v (str x.fName), .v (str x.A5)])) (.sl 1 (y8.An.map fun x => [.v (.int .u8 x.toNat)])) (.v (.int .i64 0)) (by first | with_reducible assumption | simp -implicitDefEqProofs (disch := omega) [go_sem, bdP]) (by first | with_reducible assumption | simp -implicitDefEqProofs (disch := omega) [go_sem, bdP]) (by first | omega | (simp [go_sem]; done) | (simp [go_sem]; omega)) ?_)
  try simp -implicitDefEqProofs (disch := omega) [go_sem, bdP]
  refine AL (J := H) (r' := _) (Ext.Dz (by exact A8 (Ext.refl hw))) (by first | with_reducible rfl | (simp -implicitDefEqProofs (disch := omega) [go_sem, bdP] <;> omega)) (.wk _ (.tu [.ag ([.v (.int .i64 0), .sl 2 (([] : List S55).map fun x => [.v (str x.fName), .v (str x.A5)]), .sl 1 (([] : List UInt8).map fun x => [.v (.int .u8 x.toNat)])]), .v (.int .i64 220)]) (by repeat (first | exact WkL.nil | refine WkL.cons ?_ ?_ | exact Wk.refl _ | exact Wk.nil _ | refine Wk.agL ?_ | refine Wk.tuL ?_ | (refine Wk.eqv ?_; focus (simp -implicitDefEqProofs (disch := omega) [go_sem, str]; done)))) (by first | exact nbA | exact BP | exact BB)) hK
 intro y11 qx10; subst qx10; replace h := B6 h
 try simp -implicitDefEqProofs (disch := omega) [go_sem, bdP]
 subst hc9; refine A1 fun cb hc12 => ?_; refine vcK ?_
 try simp -implicitDefEqProofs (disch := omega) [go_sem, bdP]
 obtain ⟨x13, hx13, h⟩ := A4 h; refine A3.eqA (args' := [.p (H.next + 2) 0, .mp (H.next + 3)]) (by first | with_reducible rfl | (simp -implicitDefEqProofs (disch := omega) [go_sem, bdP] <;> omega)) (P6 y11.2 y11.1 (H.next + 2) (H.next + 3) (by first | with_reducible assumption | simp -implicitDefEqProofs (disch := omega) [go_sem, bdP]) (by first | with_reducible assumption | simp -implicitDefEqProofs (disch := omega) [go_sem, bdP]) (by first | exact hV.of rfl | exact hV.of ((Ext.refl hw)).sn | exact hV.of (Ext.sn (H := H) (by exact A8 (Ext.refl hw))) | exact (VOK.of hV rfl).tok | exact (VOK.of hV ((Ext.refl hw)).sn).tok | exact (VOK.of hV (Ext.sn (H := H) (by exact A8 (Ext.refl hw)))).tok) hx13 ?_ ?_)
 ·intro ex13 qx13; subst qx13; replace h := AP h; have er := Option.some.inj h; subst er
  try simp -implicitDefEqProofs (disch := omega) [go_sem, bdP]
  refine Cc ?_; refine AV.eqA (args' := [.p H.next 0, .p (H.next + 1) 0]) (by first | with_reducible rfl | (simp -implicitDefEqProofs (disch := omega) [go_sem, bdP]; done) | rfl) (ER H.next (H.next + 1) (.v (.int .i64 y8.Ea)) (.sl 2 (y8.Aj.map fun x => [.v (str x.fName), .v (str x.A5)])) (.sl 1 (y8.An.map fun x => [.v (.int .u8 x.toNat)])) (.v (.int .i64 0)) (by first | with_reducible assumption | simp -implicitDefEqProofs (disch := omega) [go_sem, bdP]) (by first | with_reducible assumption | simp -implicitDefEqProofs (disch := omega) [go_sem, bdP]) (by first | omega | (simp [go_sem]; done) | (simp [go_sem]; omega)) ?_)
  try simp -implicitDefEqProofs (disch := omega) [go_sem, bdP]
  refine AL (J := H) (r' := _) (Ext.Dz (by exact A8 (Ext.refl hw))) (by first | with_reducible rfl | (simp -implicitDefEqProofs (disch := omega) [go_sem, bdP] <;> omega)) (.wk _ (.tu [.ag ([.v (.int .i64 0), .sl 2 (([] : List S55).map fun x => [.v (str x.fName), .v (str x.A5)]), .sl 1 (([] : List UInt8).map fun x => [.v (.int .u8 x.toNat)])]), .v (.int .i64 220)]) (by repeat (first | exact WkL.nil | refine WkL.cons ?_ ?_ | exact Wk.refl _ | exact Wk.nil _ | refine Wk.agL ?_ | refine Wk.tuL ?_ | (refine Wk.eqv ?_; focus (simp -implicitDefEqProofs (disch := omega) [go_sem, str]; done)))) (by first | exact nbA | exact BP | exact BB)) hK
 intro y14 qx13; subst qx13; replace h := B6 h
 try simp -implicitDefEqProofs (disch := omega) [go_sem, bdP]
 subst hc12; refine A1 fun cb hc15 => ?_; refine vcK ?_
 try simp -implicitDefEqProofs (disch := omega) [go_sem, bdP]
 refine A6 h (by first | with_reducible rfl | (simp -implicitDefEqProofs (disch := omega) [go_sem, bdP] <;> omega)) ?_ ?_
 ·intro c23 h
  try simp (disch := omega) at c23
  try simp -implicitDefEqProofs (disch := omega) [go_sem, bdP]
  obtain ⟨x16, hx16, h⟩ := A4 h; refine A3.eqA (args' := [.mp (H.next + 3)]) (by first | with_reducible rfl | (simp -implicitDefEqProofs (disch := omega) [go_sem, bdP] <;> omega)) (K9 y14.2.2 (H.next + 3) (by first | with_reducible assumption | simp -implicitDefEqProofs (disch := omega) [go_sem, bdP]) hx16 ?_)
  try simp -implicitDefEqProofs (disch := omega) [go_sem, bdP]
  obtain ⟨x17, hx17, h⟩ := A4 h; refine A3.eqA (args' := [.sl 2 (x16.map fun x => [.v (str x.fName), .v (str x.A5)]), .sl 1 (y14.1.map fun x => [.v (.int .u8 x.toNat)])]) (by first | with_reducible rfl | (simp -implicitDefEqProofs (disch := omega) [go_sem, bdP] <;> omega)) (Mh x16 y14.1 hx17 ?_)
  try simp -implicitDefEqProofs (disch := omega) [go_sem, bdP]
  refine A3.eqA (args' := [.v (.bool x17)]) (by first | with_reducible rfl | (simp -implicitDefEqProofs (disch := omega) [go_sem, bdP] <;> omega)) ?_; by_cases m18 : ¬ (x17 = true)
  ·rw [if_neg m18] at h; refine Bf  (by first | simpa using m18 | exact Bool.eq_false_iff.2 (fun q => m18 (by simpa using q))) ?_
   try simp (disch := omega) at m18
   have er := Option.some.inj h; subst er
   try simp -implicitDefEqProofs (disch := omega) [go_sem, bdP]
   refine Cc ?_; refine AV.eqA (args' := [.p H.next 0, .p (H.next + 1) 0]) (by first | with_reducible rfl | (simp -implicitDefEqProofs (disch := omega) [go_sem, bdP]; done) | rfl) (ER H.next (H.next + 1) (.v (.int .i64 y8.Ea)) (.sl 2 (y8.Aj.map fun x => [.v (str x.fName), .v (str x.A5)])) (.sl 1 (y8.An.map fun x => [.v (.int .u8 x.toNat)])) (.v (.int .i64 0)) (by first | with_reducible assumption | simp -implicitDefEqProofs (disch := omega) [go_sem, bdP]) (by first | with_reducible assumption | simp -implicitDefEqProofs (disch := omega) [go_sem, bdP]) (by first | omega | (simp [go_sem]; done) | (simp [go_sem]; omega)) ?_)
   try simp -implicitDefEqProofs (disch := omega) [go_sem, bdP]
   refine AL (J := H) (r' := _) (Ext.Dz (by exact A8 (Ext.refl hw))) (by first | with_reducible rfl | (simp -implicitDefEqProofs (disch := omega) [go_sem, bdP] <;> omega)) (.wk _ (.tu [.ag ([.v (.int .i64 0), .sl 2 (([] : List S55).map fun x => [.v (str x.fName), .v (str x.A5)]), .sl 1 (([] : List UInt8).map fun x => [.v (.int .u8 x.toNat)])]), .v (.int .i64 220)]) (by repeat (first | exact WkL.nil | refine WkL.cons ?_ ?_ | exact Wk.refl _ | exact Wk.nil _ | refine Wk.agL ?_ | refine Wk.tuL ?_ | (refine Wk.eqv ?_; focus (simp -implicitDefEqProofs (disch := omega) [go_sem, str]; done)))) (by first | exact nbA | exact BP | exact BB)) hK
  have m18 := Classical.not_not.1 m18; rw [if_pos m18] at h; refine Cv  (by simpa using m18) ?_
  try simp (disch := omega) at m18
  try simp -implicitDefEqProofs (disch := omega) [go_sem, bdP]
  subst hc15; refine A1 fun cb hc19 => ?_; refine vcK ?_
  try simp -implicitDefEqProofs (disch := omega) [go_sem, bdP]
  obtain ⟨x20, hx20, h⟩ := A4 h; refine A3.eqA (args' := [.mp (H.next + 3)]) (by first | with_reducible rfl | (simp -implicitDefEqProofs (disch := omega) [go_sem, bdP] <;> omega)) (K9 y14.2.2 (H.next + 3) (by first | with_reducible assumption | simp -implicitDefEqProofs (disch := omega) [go_sem, bdP]) hx20 ?_)
  try simp -implicitDefEqProofs (disch := omega) [go_sem, bdP]
  obtain ⟨x21, hx21, h⟩ := A4 h; refine A3.eqA (args' := [.p H.next 0, .sl 2 (x20.map fun x => [.v (str x.fName), .v (str x.A5)]), .sl 1 (y14.1.map fun x => [.v (.int .u8 x.toNat)])]) (by first | with_reducible rfl | (simp -implicitDefEqProofs (disch := omega) [go_sem, bdP] <;> omega)) (Tp y8 x20 y14.1 H.next (by first | with_reducible assumption | simp -implicitDefEqProofs (disch := omega) [go_sem, bdP]) hx21 ?_)
  try simp -implicitDefEqProofs (disch := omega) [go_sem, bdP]
  subst hc19; refine A1 fun cb hc22 => ?_; refine vcK ?_
  try simp -implicitDefEqProofs (disch := omega) [go_sem, bdP]
  subst hc22; refine vcK ?_; simp -implicitDefEqProofs only [go_sem]; have er := Option.some.inj h; subst er
  try simp -implicitDefEqProofs (disch := omega) [go_sem, bdP]
  refine MR ?_; refine AV.eqA (args' := [.p H.next 0, .p (H.next + 1) 0]) (by first | with_reducible rfl | (simp -implicitDefEqProofs (disch := omega) [go_sem, bdP]; done) | rfl) (QD ?_)
  try simp -implicitDefEqProofs (disch := omega) [go_sem, bdP]
  refine A2 (by exact A8 (Ext.refl hw)) (by first | with_reducible rfl | (simp -implicitDefEqProofs (disch := omega) [go_sem, bdP] <;> omega)) nbA hK
 ·intro c23 h
  try simp (disch := omega) at c23
  try simp -implicitDefEqProofs (disch := omega) [go_sem, bdP]
  refine A3.eqA (args' := [.v (.bool false)]) (by first | with_reducible rfl | (simp -implicitDefEqProofs (disch := omega) [go_sem, bdP] <;> omega)) (Bf  rfl ?_); have er := Option.some.inj h; subst er
  try simp -implicitDefEqProofs (disch := omega) [go_sem, bdP]
  refine Cc ?_; refine AV.eqA (args' := [.p H.next 0, .p (H.next + 1) 0]) (by first | with_reducible rfl | (simp -implicitDefEqProofs (disch := omega) [go_sem, bdP]; done) | rfl) (ER H.next (H.next + 1) (.v (.int .i64 y8.Ea)) (.sl 2 (y8.Aj.map fun x => [.v (str x.fName), .v (str x.A5)])) (.sl 1 (y8.An.map fun x => [.v (.int .u8 x.toNat)])) (.v (.int .i64 0)) (by first | with_reducible assumption | simp -implicitDefEqProofs (disch := omega) [go_sem, bdP]) (by first | with_reducible assumption | simp -implicitDefEqProofs (disch := omega) [go_sem, bdP]) (by first | omega | (simp [go_sem]; done) | (simp [go_sem]; omega)) ?_)
  try simp -implicitDefEqProofs (disch := omega) [go_sem, bdP]
  refine AL (J := H) (r' := _) (Ext.Dz (by exact A8 (Ext.refl hw))) (by first | with_reducible rfl | (simp -implicitDefEqProofs (disch := omega) [go_sem, bdP] <;> omega)) (.wk _ (.tu [.ag ([.v (.int .i64 0), .sl 2 (([] : List S55).map fun x => [.v (str x.fName), .v (str x.A5)]), .sl 1 (([] : List UInt8).map fun x => [.v (.int .u8 x.toNat)])]), .v (.int .i64 220)]) (by repeat (first | exact WkL.nil | refine WkL.cons ?_ ?_ | exact Wk.refl _ | exact Wk.nil _ | refine Wk.agL ?_ | refine Wk.tuL ?_ | (refine Wk.eqv ?_; focus (simp -implicitDefEqProofs (disch := omega) [go_sem, str]; done)))) (by first | exact nbA | exact BP | exact BB)) hK
noncomputable def F11 (a0 : List UInt8) : Option (Except Unit (S25 × Int)) :=
 (F36 a0).bind fun (x4 : S25 × Int) => some ((.ok (x4.1, x4.2)))
set_option maxHeartbeats 8000000 in
set_option pp.deepTerms false in
set_option maxRecDepth 60000 in
theorem Tr {H : A0} {K : Am → A0 → Prop} (a0 : List UInt8) (hV : VOK prog H) {r : Except Unit (S25 × Int)} (h : F11 a0 = some r) (hP : ∀ e, r = .error e → K (.pan (C8 e)) H) (hK : ∀ v : S25 × Int, r = .ok v → K (.ret (.tu [.ag ([.v (.int .i64 v.1.Ea), .sl 2 (v.1.Aj.map fun x => [.v (str x.fName), .v (str x.A5)]), .sl 1 (v.1.An.map fun x => [.v (.int .u8 x.toNat)])]), .v (.int .i64 v.2)])) H) : A3 prog 11 [.sl 1 (a0.map fun x => [.v (.int .u8 x.toNat)])] H K := by
 refine A9 (N := 10) func11 (by kernel_rfl) rfl (by kernel_rfl) (by kernel_rfl) fun cb hcb hw hbd hnb => ?_; clear hbd hnb; subst hcb; unfold F11 at h; refine A1 fun cb hc1 => ?_; refine vcK ?_
 try simp -implicitDefEqProofs (disch := omega) [go_sem]
 subst hc1; refine A1 fun cb hc2 => ?_; refine vcK ?_
 try simp -implicitDefEqProofs (disch := omega) [go_sem]
 subst hc2; refine A1 fun cb hc3 => ?_; refine vcK ?_
 try simp -implicitDefEqProofs (disch := omega) [go_sem]
 obtain ⟨x4, hx4, h⟩ := A4 h; refine A3.eqA (args' := [.sl 1 (a0.map fun x => [.v (.int .u8 x.toNat)]), .v (.func (.func 30) #[] #[]), .v (.func (.func 37) #[] #[])]) (by first | with_reducible rfl | (simp -implicitDefEqProofs (disch := omega) [go_sem] <;> omega)) (Tq a0 (by first | exact hV.of rfl | exact hV.of ((Ext.refl hw)).sn | exact hV.of (Ext.sn (H := H) (by exact A8 (Ext.refl hw))) | exact (VOK.of hV rfl).tok | exact (VOK.of hV ((Ext.refl hw)).sn).tok | exact (VOK.of hV (Ext.sn (H := H) (by exact A8 (Ext.refl hw)))).tok) hx4 ?_)
 try simp -implicitDefEqProofs (disch := omega) [go_sem]
 subst hc3; refine vcK ?_; simp -implicitDefEqProofs only [go_sem]; have er := Option.some.inj h; subst er
 try simp -implicitDefEqProofs (disch := omega) [go_sem]
 refine A2 (by exact A8 (Ext.refl hw)) (by first | with_reducible rfl | (simp -implicitDefEqProofs (disch := omega) [go_sem] <;> omega)) nbA (hK _ rfl)
noncomputable def F9  : Option (Except Unit (Bool)) :=
 (F18 ((⟨[80, 85, 84], [47, 97], [], ([120] : List UInt8)⟩ : S42))).bind fun (x4 : (List UInt8) × Int) => (F11 ([72, 84, 84, 80, 47, 49, 46, 49, 32, 50, 48, 52, 32, 78, 111, 13, 10, 13, 10] : List UInt8)).bind fun (x7 : Except Unit (S25 × Int)) => orP x7 (fun (ex7 : Unit) => some (.error ex7)) (fun (y8 : S25 × Int) => if x4.2 = 0 then (if x4.1 = ([80, 85, 84, 32, 47, 97, 32, 72, 84, 84, 80, 47, 49, 46, 49, 13, 10, 99, 111, 110, 116, 101, 110, 116, 45, 108, 101, 110, 103, 116, 104, 58, 32, 49, 13, 10, 13, 10, 120]) then (if y8.2 = 0 then (some ((.ok (decide (y8.1.Ea = 204))))) else (some (.ok false))) else (some (.ok false))) else (some (.ok false)))
set_option maxHeartbeats 8000000 in
set_option pp.deepTerms false in
set_option maxRecDepth 60000 in
theorem Le {H : A0} {K : Am → A0 → Prop}  (hV : VOK prog H) {r : Except Unit (Bool)} (h : F9  = some r) (hP : ∀ e, r = .error e → K (.pan (C8 e)) H) (hK : ∀ v : Bool, r = .ok v → K (.ret (.v (.bool v))) H) : A3 prog 9 [] H K := by
 refine A9 (N := 34) func9 (by kernel_rfl) rfl (by kernel_rfl) (by kernel_rfl) fun cb hcb hw hbd hnb => ?_; clear hbd hnb; subst hcb; unfold F9 at h; refine A1 fun cb hc1 => ?_; refine vcK ?_
 try simp -implicitDefEqProofs (disch := omega) [go_sem, bdP]
 subst hc1; refine A1 fun cb hc2 => ?_; refine Ch [true, true] (by kernel_rfl) ?_
 try simp -implicitDefEqProofs (disch := omega) [go_sem, bdP]
 refine Fa (sz := 1) (rs := (([120] : List UInt8).map fun x => [.v (.int .u8 x.toNat)]).flatten) (es := ([120] : List UInt8).map fun x => [.v (.int .u8 x.toNat)]) rfl (by kernel_rfl) (by simp -implicitDefEqProofs (disch := omega) [go_sem, bdP]) (by first | rfl | simp [chunks]) (by simp) (by decide) fun ty3 => ?_
 try simp -implicitDefEqProofs (disch := omega) [go_sem, bdP]
 refine He (ty := ty3) (k := H.next) (n := 1) (es := ([120] : List UInt8).map fun x => [.v (.int .u8 x.toNat)]) rfl (by kernel_rfl) underlying23 underlying5 (by simp [go_sem]) (by simp [go_sem]) (by simp) (by omega) ?_
 try simp -implicitDefEqProofs (disch := omega) [go_sem, bdP]
 obtain ⟨x4, hx4, h⟩ := A4 h; refine A3.eqA (args' := [.ag ([.v (str ([80, 85, 84])), .v (str ([47, 97])), .v (.slice none 0 0), .sl 1 (([120] : List UInt8).map fun x => [.v (.int .u8 x.toNat)])])]) (by first | with_reducible rfl | (simp -implicitDefEqProofs (disch := omega) [go_sem, bdP] <;> omega)) (A3.wkL (args' := [.ag ([.v (str (((⟨[80, 85, 84], [47, 97], [], ([120] : List UInt8)⟩ : S42)).Ag)), .v (str (((⟨[80, 85, 84], [47, 97], [], ([120] : List UInt8)⟩ : S42)).Ax)), .sl 2 ((((⟨[80, 85, 84], [47, 97], [], ([120] : List UInt8)⟩ : S42)).Aj).map fun x => [.v (str x.fName), .v (str x.A5)]), .sl 1 ((((⟨[80, 85, 84], [47, 97], [], ([120] : List UInt8)⟩ : S42)).An).map fun x => [.v (.int .u8 x.toNat)])])]) (by repeat (first | exact WkL.nil | refine WkL.cons ?_ ?_ | exact Wk.refl _ | exact Wk.nil _ | refine Wk.agL ?_)) (P0 ((⟨[80, 85, 84], [47, 97], [], ([120] : List UInt8)⟩ : S42)) (by first | exact hV.of rfl | exact hV.of ((Ext.refl hw)).sn | exact hV.of (Ext.sn (H := H) (by exact A8 (Ext.refl hw))) | exact (VOK.of hV rfl).tok | exact (VOK.of hV ((Ext.refl hw)).sn).tok | exact (VOK.of hV (Ext.sn (H := H) (by exact A8 (Ext.refl hw)))).tok) hx4 ?_))
 try simp -implicitDefEqProofs (disch := omega) [go_sem, bdP]
 subst hc2; refine A1 fun cb hc5 => ?_; refine Ch [true, true] (by kernel_rfl) ?_
 try simp -implicitDefEqProofs (disch := omega) [go_sem, bdP]
 refine Fa (sz := 1) (rs := (([72, 84, 84, 80, 47, 49, 46, 49, 32, 50, 48, 52, 32, 78, 111, 13, 10, 13, 10] : List UInt8).map fun x => [.v (.int .u8 x.toNat)]).flatten) (es := ([72, 84, 84, 80, 47, 49, 46, 49, 32, 50, 48, 52, 32, 78, 111, 13, 10, 13, 10] : List UInt8).map fun x => [.v (.int .u8 x.toNat)]) rfl (by kernel_rfl) (by simp -implicitDefEqProofs (disch := omega) [go_sem, bdP]) (by first | rfl | simp [chunks]) (by simp) (by decide) fun ty6 => ?_
 try simp -implicitDefEqProofs (disch := omega) [go_sem, bdP]
 refine He (ty := ty6) (k := H.next + 1) (n := 19) (es := ([72, 84, 84, 80, 47, 49, 46, 49, 32, 50, 48, 52, 32, 78, 111, 13, 10, 13, 10] : List UInt8).map fun x => [.v (.int .u8 x.toNat)]) rfl (by kernel_rfl) underlying23 underlying5 (by simp [go_sem]) (by simp [go_sem]) (by simp) (by omega) ?_
 try simp -implicitDefEqProofs (disch := omega) [go_sem, bdP]
 obtain ⟨x7, hx7, h⟩ := A4 h; refine A3.eqA (args' := [.sl 1 (([72, 84, 84, 80, 47, 49, 46, 49, 32, 50, 48, 52, 32, 78, 111, 13, 10, 13, 10] : List UInt8).map fun x => [.v (.int .u8 x.toNat)])]) (by first | with_reducible rfl | (simp -implicitDefEqProofs (disch := omega) [go_sem, bdP] <;> omega)) (Tr ([72, 84, 84, 80, 47, 49, 46, 49, 32, 50, 48, 52, 32, 78, 111, 13, 10, 13, 10] : List UInt8) (by first | exact hV.of rfl | exact hV.of ((Ext.refl hw)).sn | exact hV.of (Ext.sn (H := H) (by exact A8 (Ext.refl hw))) | exact (VOK.of hV rfl).tok | exact (VOK.of hV ((Ext.refl hw)).sn).tok | exact (VOK.of hV (Ext.sn (H := H) (by exact A8 (Ext.refl hw)))).tok) hx7 ?_ ?_)
 ·intro ex7 qx7; subst qx7; replace h := AP h; have er := Option.some.inj h; subst er
  try simp -implicitDefEqProofs (disch := omega) [go_sem, bdP]
  exact Bu (by exact Bm (Ext.refl hw)) (Dl.refl _) (hP _ rfl)
 intro y8 qx7; subst qx7; replace h := B6 h
 try simp -implicitDefEqProofs (disch := omega) [go_sem, bdP]
 subst hc5; refine A1 fun cb hc9 => ?_; refine vcK ?_
 try simp -implicitDefEqProofs (disch := omega) [go_sem, bdP]
 refine A6 h (by first | with_reducible rfl | (simp -implicitDefEqProofs (disch := omega) [go_sem, bdP] <;> omega)) ?_ ?_
 ·intro c12 h
  try simp (disch := omega) at c12
  try simp -implicitDefEqProofs (disch := omega) [go_sem, bdP]
  refine A6 h (by first | with_reducible rfl | (simp -implicitDefEqProofs (disch := omega) [go_sem, bdP] <;> omega)) ?_ ?_
  ·intro c11 h
   try simp (disch := omega) at c11
   try simp -implicitDefEqProofs (disch := omega) [go_sem, bdP]
   refine A6 h (by first | with_reducible rfl | (simp -implicitDefEqProofs (disch := omega) [go_sem, bdP] <;> omega)) ?_ ?_
   ·intro c10 h
    try simp (disch := omega) at c10
    try simp -implicitDefEqProofs (disch := omega) [go_sem, bdP]
    subst hc9; refine vcK ?_; simp -implicitDefEqProofs only [go_sem]; have er := Option.some.inj h; subst er
    try simp -implicitDefEqProofs (disch := omega) [go_sem, bdP]
    refine A2 (by exact A8 (Ext.refl hw)) (by first | with_reducible rfl | (simp -implicitDefEqProofs (disch := omega) [go_sem, bdP] <;> omega)) nbA (hK _ rfl)
   ·intro c10 h
    try simp (disch := omega) at c10
    try simp -implicitDefEqProofs (disch := omega) [go_sem, bdP]
    subst hc9; refine vcK ?_; simp -implicitDefEqProofs only [go_sem]; have er := Option.some.inj h; subst er
    try simp -implicitDefEqProofs (disch := omega) [go_sem, bdP]
    refine A2 (by exact A8 (Ext.refl hw)) (by first | with_reducible rfl | (simp -implicitDefEqProofs (disch := omega) [go_sem, bdP] <;> omega)) nbA (hK _ rfl)
  ·intro c11 h
   try simp (disch := omega) at c11
   try simp -implicitDefEqProofs (disch := omega) [go_sem, bdP]
   subst hc9; refine vcK ?_; simp -implicitDefEqProofs only [go_sem]; have er := Option.some.inj h; subst er
   try simp -implicitDefEqProofs (disch := omega) [go_sem, bdP]
   refine A2 (by exact A8 (Ext.refl hw)) (by first | with_reducible rfl | (simp -implicitDefEqProofs (disch := omega) [go_sem, bdP] <;> omega)) nbA (hK _ rfl)
 ·intro c12 h
  try simp (disch := omega) at c12
  try simp -implicitDefEqProofs (disch := omega) [go_sem, bdP]
  subst hc9; refine vcK ?_; simp -implicitDefEqProofs only [go_sem]; have er := Option.some.inj h; subst er
  try simp -implicitDefEqProofs (disch := omega) [go_sem, bdP]
  refine A2 (by exact A8 (Ext.refl hw)) (by first | with_reducible rfl | (simp -implicitDefEqProofs (disch := omega) [go_sem, bdP] <;> omega)) nbA (hK _ rfl)
noncomputable def Kf  : Option Bool :=
 some true
noncomputable def IG (a0 : List S55) (v10 : Int) : Option (Int ⊕ (Unit ⊕ Bool)) :=
 if v10 < (a0.length : Int) then (gd (0 ≤ v10 ∧ v10 < a0.length) (if 300 < ((((a0.getD v10.toNat S55.zero).fName).length : Int)) then (some (.inr (.inr false))) else (if 300 < ((((a0.getD v10.toNat S55.zero).A5).length : Int)) then (some (.inr (.inr false))) else (some (.inl (IntKind.i64.wrap (v10 + 1))))))) else (some (.inr (.inl ())))
noncomputable def F15 (a0 : List S55) (a1 : List UInt8) : Option Bool :=
 if 20 < (a0.length : Int) then (some false) else (if 3000 < (a1.length : Int) then (some false) else ((B3 (fun (s : Int) => IG a0 s) 0).bind fun y => Sum.elim (fun (e : Unit) => Kf) (fun (q : Bool) => some q) y))
set_option maxHeartbeats 8000000 in
set_option pp.deepTerms false in
set_option maxRecDepth 60000 in
theorem Ts {H : A0} {K : Am → A0 → Prop} (a0 : List S55) (a1 : List UInt8) {r : Bool} (h : F15 a0 a1 = some r) (hK : K (.ret (.v (.bool r))) H) : A3 prog 15 [.sl 2 (a0.map fun x => [.v (str x.fName), .v (str x.A5)]), .sl 1 (a1.map fun x => [.v (.int .u8 x.toNat)])] H K := by
 refine A9 (N := 36) func15 (by kernel_rfl) rfl (by kernel_rfl) (by kernel_rfl) fun cb hcb hw hbd hnb => ?_; clear hbd hnb; subst hcb; unfold F15 at h; refine A1 fun cb hc1 => ?_; refine vcK ?_
 try simp -implicitDefEqProofs (disch := omega) [go_sem]
 subst hc1; refine A1 fun cb hc2 => ?_; refine A1 fun cb hc3 => ?_; refine vcK ?_
 try simp -implicitDefEqProofs (disch := omega) [go_sem]
 refine A6 h (by first | with_reducible rfl | (simp -implicitDefEqProofs (disch := omega) [go_sem] <;> omega)) ?_ ?_
 ·intro c22 h
  try simp (disch := omega) at c22
  try simp -implicitDefEqProofs (disch := omega) [go_sem]
  subst hc3; refine Aw (by first | with_reducible rfl | (simp -implicitDefEqProofs (disch := omega) [go_sem] <;> omega)) rfl ?_; refine A1 fun cb hc4 => ?_; refine vcK ?_
  try simp -implicitDefEqProofs (disch := omega) [go_sem]
  subst hc4; refine vcK ?_; simp -implicitDefEqProofs only [go_sem]; have er := Option.some.inj h; subst er
  try simp -implicitDefEqProofs (disch := omega) [go_sem]
  refine A2 (by exact A8 (Ext.refl hw)) (by first | with_reducible rfl | (simp -implicitDefEqProofs (disch := omega) [go_sem] <;> omega)) nbA hK
 ·intro c22 h
  try simp (disch := omega) at c22
  try simp -implicitDefEqProofs (disch := omega) [go_sem]
  subst hc3; refine Aa h (by first | with_reducible rfl | (simp -implicitDefEqProofs (disch := omega) [go_sem] <;> omega)) rfl ?_ ?_
  ·intro c5 h
   try simp (disch := omega) at c5
   refine A1 fun cb hc6 => ?_; refine vcK ?_
   try simp -implicitDefEqProofs (disch := omega) [go_sem]
   subst hc6; refine vcK ?_; simp -implicitDefEqProofs only [go_sem]; have er := Option.some.inj h; subst er
   try simp -implicitDefEqProofs (disch := omega) [go_sem]
   refine A2 (by exact A8 (Ext.refl hw)) (by first | with_reducible rfl | (simp -implicitDefEqProofs (disch := omega) [go_sem] <;> omega)) nbA hK
  ·intro c5 h
   try simp (disch := omega) at c5
   refine vcK ?_; simp -implicitDefEqProofs only [go_sem]; subst hc2; refine A1 fun cb hc7 => ?_; refine A1 fun cb hc8 => ?_; refine vcK ?_
   try simp -implicitDefEqProofs (disch := omega) [go_sem]
   subst hc8; obtain ⟨y9, hl9q, hk9⟩ := A4 h; refine AW (fun tm' H' => .inl () = y9 ∧ H = H') ?_ fun cb hc9 => ?_
   ·rintro tm9e H9e ⟨rfl, rfl⟩
    have h : Kf = some r := hk9; unfold Kf at h; simp -implicitDefEqProofs only [go_sem]; subst hc7; refine A1 fun cb hc11 => ?_; refine vcK ?_
    try simp -implicitDefEqProofs (disch := omega) [go_sem]
    subst hc11; refine vcK ?_; simp -implicitDefEqProofs only [go_sem]; have er := Option.some.inj h; subst er
    try simp -implicitDefEqProofs (disch := omega) [go_sem]
    refine A2 (by exact A8 (Ext.refl hw)) (by first | with_reducible rfl | (simp -implicitDefEqProofs (disch := omega) [go_sem] <;> omega)) nbA hK
   ·refine Af ?_; refine AN (fun (s : Int) tm' H' => H = H' ∧ tm' 0 = .sl 2 (a0.map fun x => [.v (str x.fName), .v (str x.A5)]) ∧ tm' 5 = .v (.int .i64 s)) hl9q ?_ ?_
    ·refine .same ⟨rfl, ?_, ?_⟩ <;> first | with_reducible rfl | with_reducible assumption | (simp -implicitDefEqProofs (disch := omega) [go_sem] <;> omega)
    ·rintro I9 hI9 v10 x9 tm9 H9 ⟨rfl, EY, EZ⟩ h hret9
     replace h : IG a0 v10 = some x9 := h; unfold IG at h; refine A1 fun cb hc12 => ?_; refine A1 fun cb hc13 => ?_; refine vcK ?_
     try simp -implicitDefEqProofs (disch := omega) [go_sem, EY, EZ]
     subst hc13; refine Aa h (by first | with_reducible rfl | (simp -implicitDefEqProofs (disch := omega) [go_sem, EY, EZ] <;> omega)) rfl ?_ ?_
     ·intro c14 h
      try simp (disch := omega) at c14
      refine vcK ?_; simp -implicitDefEqProofs only [go_sem]; subst hc12; refine A1 fun cb hc15 => ?_; refine Af ?_; refine A1 fun cb hc16 => ?_; refine vcK ?_; obtain ⟨g17, h⟩ := A7.1 h
      try simp (disch := omega) at g17
      try simp -implicitDefEqProofs (disch := omega) [go_sem, EY, EZ]
      refine A6 h (by first | with_reducible rfl | (simp -implicitDefEqProofs (disch := omega) [go_sem, EY, EZ] <;> omega)) ?_ ?_
      ·intro c21 h
       try simp (disch := omega) at c21
       try simp -implicitDefEqProofs (disch := omega) [go_sem, EY, EZ]
       subst hc16; refine Aw (by first | with_reducible rfl | (simp -implicitDefEqProofs (disch := omega) [go_sem, EY, EZ] <;> omega)) rfl ?_; refine A1 fun cb hc18 => ?_; refine vcK ?_
       try simp -implicitDefEqProofs (disch := omega) [go_sem, EY, EZ]
       subst hc18; refine vcK ?_; simp -implicitDefEqProofs only [go_sem]; have e9 := Option.some.inj h; subst e9; have e9 := hret9 _ rfl; subst e9; replace h : some false = some r := hk9; have er := Option.some.inj h; subst er
       try simp -implicitDefEqProofs (disch := omega) [go_sem, EY, EZ]
       refine A2 (by exact A8 (Ext.refl hw)) (by first | with_reducible rfl | (simp -implicitDefEqProofs (disch := omega) [go_sem, EY, EZ] <;> omega)) nbA hK
      ·intro c21 h
       try simp (disch := omega) at c21
       try simp -implicitDefEqProofs (disch := omega) [go_sem, EY, EZ]
       subst hc16; refine Aa h (by first | with_reducible rfl | (simp -implicitDefEqProofs (disch := omega) [go_sem, EY, EZ] <;> omega)) rfl ?_ ?_
       ·intro c19 h
        try simp (disch := omega) at c19
        refine A1 fun cb hc20 => ?_; refine vcK ?_
        try simp -implicitDefEqProofs (disch := omega) [go_sem, EY, EZ]
        subst hc20; refine vcK ?_; simp -implicitDefEqProofs only [go_sem]; have e9 := Option.some.inj h; subst e9; have e9 := hret9 _ rfl; subst e9; replace h : some false = some r := hk9; have er := Option.some.inj h; subst er
        try simp -implicitDefEqProofs (disch := omega) [go_sem, EY, EZ]
        refine A2 (by exact A8 (Ext.refl hw)) (by first | with_reducible rfl | (simp -implicitDefEqProofs (disch := omega) [go_sem, EY, EZ] <;> omega)) nbA hK
       ·intro c19 h
        try simp (disch := omega) at c19
        refine vcK ?_; simp -implicitDefEqProofs only [go_sem]; subst hc15; refine vcK ?_
        try simp -implicitDefEqProofs (disch := omega) [go_sem, EY, EZ]
        have e9 := Option.some.inj h; subst e9; refine Au hI9 (IntKind.i64.wrap (v10 + 1)) ?_; refine .same ⟨rfl, ?_, ?_⟩ <;> first | with_reducible rfl | with_reducible assumption | (simp -implicitDefEqProofs (disch := omega) [go_sem, EY, EZ] <;> omega)
     ·intro c14 h
      try simp (disch := omega) at c14
      refine vcK ?_; simp -implicitDefEqProofs only [go_sem]; have e9 := Option.some.inj h; subst e9; have hy9 := hret9 _ rfl; refine hc9 _ _ ?_; refine .same ⟨hy9, rfl⟩
noncomputable def Kg  : Option Bool :=
 some true
noncomputable def II (a0 : List UInt8) (a1 : Int) (a2 : Int) (v5 : Int) : Option (Int ⊕ (Unit ⊕ Bool)) :=
 if v5 < (a0.length : Int) then (gd (0 ≤ v5 ∧ v5 < a0.length) (if (((a0.getD v5.toNat 0).toNat : Int)) < a1 then (some (.inr (.inr false))) else (if a2 < (((a0.getD v5.toNat 0).toNat : Int)) then (some (.inr (.inr false))) else (some (.inl (IntKind.i64.wrap (v5 + 1))))))) else (some (.inr (.inl ())))
noncomputable def F55 (a0 : List UInt8) (a1 : Int) (a2 : Int) : Option Bool :=
 (B3 (fun (s : Int) => II a0 a1 a2 s) 0).bind fun y => Sum.elim (fun (e : Unit) => Kg) (fun (q : Bool) => some q) y
set_option maxHeartbeats 8000000 in
set_option pp.deepTerms false in
set_option maxRecDepth 60000 in
theorem Mo {H : A0} {K : Am → A0 → Prop} (a0 : List UInt8) (a1 : Int) (a2 : Int) {r : Bool} (h : F55 a0 a1 a2 = some r) (hK : K (.ret (.v (.bool r))) H) : A3 prog 55 [.v (str a0), .v (.int .u8 a1), .v (.int .u8 a2)] H K := by
 refine A9 (N := 26) func55 (by kernel_rfl) rfl (by kernel_rfl) (by kernel_rfl) fun cb hcb hw hbd hnb => ?_; clear hbd hnb; subst hcb; unfold F55 at h; refine A1 fun cb hc1 => ?_; refine vcK ?_
 try simp -implicitDefEqProofs (disch := omega) [go_sem]
 subst hc1; refine A1 fun cb hc2 => ?_; refine A1 fun cb hc3 => ?_; refine vcK ?_
 try simp -implicitDefEqProofs (disch := omega) [go_sem]
 subst hc3; obtain ⟨y4, hl4q, hk4⟩ := A4 h; refine AW (fun tm' H' => .inl () = y4 ∧ H = H') ?_ fun cb hc4 => ?_
 ·rintro tm4e H4e ⟨rfl, rfl⟩
  have h : Kg = some r := hk4; unfold Kg at h; simp -implicitDefEqProofs only [go_sem]; subst hc2; refine A1 fun cb hc6 => ?_; refine vcK ?_
  try simp -implicitDefEqProofs (disch := omega) [go_sem]
  subst hc6; refine vcK ?_; simp -implicitDefEqProofs only [go_sem]; have er := Option.some.inj h; subst er
  try simp -implicitDefEqProofs (disch := omega) [go_sem]
  refine A2 (by exact A8 (Ext.refl hw)) (by first | with_reducible rfl | (simp -implicitDefEqProofs (disch := omega) [go_sem] <;> omega)) nbA hK
 ·refine Af ?_; refine AN (fun (s : Int) tm' H' => H = H' ∧ tm' 0 = .v (str a0) ∧ tm' 1 = .v (.int .u8 a1) ∧ tm' 2 = .v (.int .u8 a2) ∧ tm' 7 = .v (.int .i64 s)) hl4q ?_ ?_
  ·refine .same ⟨rfl, ?_, ?_, ?_, ?_⟩ <;> first | with_reducible rfl | with_reducible assumption | (simp -implicitDefEqProofs (disch := omega) [go_sem] <;> omega)
  ·rintro I4 hI4 v5 x4 tm4 H4 ⟨rfl, Ah, AD, E_, AE⟩ h hret4
   replace h : II a0 a1 a2 v5 = some x4 := h; unfold II at h; refine A1 fun cb hc7 => ?_; refine A1 fun cb hc8 => ?_; refine vcK ?_
   try simp -implicitDefEqProofs (disch := omega) [go_sem, Ah, AD, E_, AE]
   subst hc8; refine Aa h (by first | with_reducible rfl | (simp -implicitDefEqProofs (disch := omega) [go_sem, Ah, AD, E_, AE] <;> omega)) rfl ?_ ?_
   ·intro c9 h
    try simp (disch := omega) at c9
    refine vcK ?_; simp -implicitDefEqProofs only [go_sem]; subst hc7; refine A1 fun cb hc10 => ?_; refine Af ?_; refine A1 fun cb hc11 => ?_; refine vcK ?_; obtain ⟨g12, h⟩ := A7.1 h
    try simp (disch := omega) at g12
    try simp -implicitDefEqProofs (disch := omega) [go_sem, Ah, AD, E_, AE]
    refine A6 h (by first | with_reducible rfl | (simp -implicitDefEqProofs (disch := omega) [go_sem, Ah, AD, E_, AE] <;> omega)) ?_ ?_
    ·intro c16 h
     try simp (disch := omega) at c16
     try simp -implicitDefEqProofs (disch := omega) [go_sem, Ah, AD, E_, AE]
     subst hc11; refine Aw (by first | with_reducible rfl | (simp -implicitDefEqProofs (disch := omega) [go_sem, Ah, AD, E_, AE] <;> omega)) rfl ?_; refine A1 fun cb hc13 => ?_; refine vcK ?_
     try simp -implicitDefEqProofs (disch := omega) [go_sem, Ah, AD, E_, AE]
     subst hc13; refine vcK ?_; simp -implicitDefEqProofs only [go_sem]; have e4 := Option.some.inj h; subst e4; have e4 := hret4 _ rfl; subst e4; replace h : some false = some r := hk4; have er := Option.some.inj h; subst er
     try simp -implicitDefEqProofs (disch := omega) [go_sem, Ah, AD, E_, AE]
     refine A2 (by exact A8 (Ext.refl hw)) (by first | with_reducible rfl | (simp -implicitDefEqProofs (disch := omega) [go_sem, Ah, AD, E_, AE] <;> omega)) nbA hK
    ·intro c16 h
     try simp (disch := omega) at c16
     try simp -implicitDefEqProofs (disch := omega) [go_sem, Ah, AD, E_, AE]
     subst hc11; refine Aa h (by first | with_reducible rfl | (simp -implicitDefEqProofs (disch := omega) [go_sem, Ah, AD, E_, AE] <;> omega)) rfl ?_ ?_
     ·intro c14 h
      try simp (disch := omega) at c14
      refine A1 fun cb hc15 => ?_; refine vcK ?_
      try simp -implicitDefEqProofs (disch := omega) [go_sem, Ah, AD, E_, AE]
      subst hc15; refine vcK ?_; simp -implicitDefEqProofs only [go_sem]; have e4 := Option.some.inj h; subst e4; have e4 := hret4 _ rfl; subst e4; replace h : some false = some r := hk4; have er := Option.some.inj h; subst er
      try simp -implicitDefEqProofs (disch := omega) [go_sem, Ah, AD, E_, AE]
      refine A2 (by exact A8 (Ext.refl hw)) (by first | with_reducible rfl | (simp -implicitDefEqProofs (disch := omega) [go_sem, Ah, AD, E_, AE] <;> omega)) nbA hK
     ·intro c14 h
      try simp (disch := omega) at c14
      refine vcK ?_; simp -implicitDefEqProofs only [go_sem]; subst hc10; refine vcK ?_
      try simp -implicitDefEqProofs (disch := omega) [go_sem, Ah, AD, E_, AE]
      have e4 := Option.some.inj h; subst e4; refine Au hI4 (IntKind.i64.wrap (v5 + 1)) ?_; refine .same ⟨rfl, ?_, ?_, ?_, ?_⟩ <;> first | with_reducible rfl | with_reducible assumption | (simp -implicitDefEqProofs (disch := omega) [go_sem, Ah, AD, E_, AE] <;> omega)
   ·intro c9 h
    try simp (disch := omega) at c9
    refine vcK ?_; simp -implicitDefEqProofs only [go_sem]; have e4 := Option.some.inj h; subst e4; have hy4 := hret4 _ rfl; refine hc4 _ _ ?_; refine .same ⟨hy4, rfl⟩
noncomputable def F47 (a0 : List UInt8) : Option Bool :=
 if 1 ≤ (a0.length : Int) then (if (a0.length : Int) ≤ 20 then ((F55 a0 65 90).bind fun (x3 : Bool) => some x3) else (some false)) else (some false)
set_option maxHeartbeats 8000000 in
set_option pp.deepTerms false in
set_option maxRecDepth 60000 in
theorem Tt {H : A0} {K : Am → A0 → Prop} (a0 : List UInt8) {r : Bool} (h : F47 a0 = some r) (hK : K (.ret (.v (.bool r))) H) : A3 prog 47 [.v (str a0)] H K := by
 refine A9 (N := 15) func47 (by kernel_rfl) rfl (by kernel_rfl) (by kernel_rfl) fun cb hcb hw hbd hnb => ?_; clear hbd hnb; subst hcb; unfold F47 at h; refine A1 fun cb hc1 => ?_; refine vcK ?_
 try simp -implicitDefEqProofs (disch := omega) [go_sem]
 subst hc1; refine A1 fun cb hc2 => ?_; refine vcK ?_
 try simp -implicitDefEqProofs (disch := omega) [go_sem]
 refine A6 h (by first | with_reducible rfl | (simp -implicitDefEqProofs (disch := omega) [go_sem] <;> omega)) ?_ ?_
 ·intro c5 h
  try simp (disch := omega) at c5
  try simp -implicitDefEqProofs (disch := omega) [go_sem]
  refine A6 h (by first | with_reducible rfl | (simp -implicitDefEqProofs (disch := omega) [go_sem] <;> omega)) ?_ ?_
  ·intro c4 h
   try simp (disch := omega) at c4
   try simp -implicitDefEqProofs (disch := omega) [go_sem]
   obtain ⟨x3, hx3, h⟩ := A4 h; refine A3.eqA (args' := [.v (str a0), .v (.int .u8 65), .v (.int .u8 90)]) (by first | with_reducible rfl | (simp -implicitDefEqProofs (disch := omega) [go_sem] <;> omega)) (Mo a0 65 90 hx3 ?_)
   try simp -implicitDefEqProofs (disch := omega) [go_sem]
   subst hc2; refine vcK ?_; simp -implicitDefEqProofs only [go_sem]; have er := Option.some.inj h; subst er
   try simp -implicitDefEqProofs (disch := omega) [go_sem]
   refine A2 (by exact A8 (Ext.refl hw)) (by first | with_reducible rfl | (simp -implicitDefEqProofs (disch := omega) [go_sem] <;> omega)) nbA hK
  ·intro c4 h
   try simp (disch := omega) at c4
   try simp -implicitDefEqProofs (disch := omega) [go_sem]
   subst hc2; refine vcK ?_; simp -implicitDefEqProofs only [go_sem]; have er := Option.some.inj h; subst er
   try simp -implicitDefEqProofs (disch := omega) [go_sem]
   refine A2 (by exact A8 (Ext.refl hw)) (by first | with_reducible rfl | (simp -implicitDefEqProofs (disch := omega) [go_sem] <;> omega)) nbA hK
 ·intro c5 h
  try simp (disch := omega) at c5
  try simp -implicitDefEqProofs (disch := omega) [go_sem]
  subst hc2; refine vcK ?_; simp -implicitDefEqProofs only [go_sem]; have er := Option.some.inj h; subst er
  try simp -implicitDefEqProofs (disch := omega) [go_sem]
  refine A2 (by exact A8 (Ext.refl hw)) (by first | with_reducible rfl | (simp -implicitDefEqProofs (disch := omega) [go_sem] <;> omega)) nbA hK
noncomputable def F48 (a0 : List UInt8) : Option Bool :=
 if 1 ≤ (a0.length : Int) then (if (a0.length : Int) ≤ 200 then (gd (0 < a0.length) (if (((a0.getD 0 0).toNat : Int)) = 47 then ((F55 a0 33 126).bind fun (x4 : Bool) => some x4) else (some false))) else (some false)) else (some false)
set_option maxHeartbeats 8000000 in
set_option pp.deepTerms false in
set_option maxRecDepth 60000 in
theorem Tu {H : A0} {K : Am → A0 → Prop} (a0 : List UInt8) {r : Bool} (h : F48 a0 = some r) (hK : K (.ret (.v (.bool r))) H) : A3 prog 48 [.v (str a0)] H K := by
 refine A9 (N := 20) func48 (by kernel_rfl) rfl (by kernel_rfl) (by kernel_rfl) fun cb hcb hw hbd hnb => ?_; clear hbd hnb; subst hcb; unfold F48 at h; refine A1 fun cb hc1 => ?_; refine vcK ?_
 try simp -implicitDefEqProofs (disch := omega) [go_sem]
 subst hc1; refine A1 fun cb hc2 => ?_; refine vcK ?_
 try simp -implicitDefEqProofs (disch := omega) [go_sem]
 refine A6 h (by first | with_reducible rfl | (simp -implicitDefEqProofs (disch := omega) [go_sem] <;> omega)) ?_ ?_
 ·intro c7 h
  try simp (disch := omega) at c7
  try simp -implicitDefEqProofs (disch := omega) [go_sem]
  refine A6 h (by first | with_reducible rfl | (simp -implicitDefEqProofs (disch := omega) [go_sem] <;> omega)) ?_ ?_
  ·intro c6 h
   try simp (disch := omega) at c6
   obtain ⟨g3, h⟩ := A7.1 h
   try simp (disch := omega) at g3
   try simp -implicitDefEqProofs (disch := omega) [go_sem]
   refine A6 h (by first | with_reducible rfl | (simp -implicitDefEqProofs (disch := omega) [go_sem] <;> omega)) ?_ ?_
   ·intro c5 h
    try simp (disch := omega) at c5
    try simp -implicitDefEqProofs (disch := omega) [go_sem]
    obtain ⟨x4, hx4, h⟩ := A4 h; refine A3.eqA (args' := [.v (str a0), .v (.int .u8 33), .v (.int .u8 126)]) (by first | with_reducible rfl | (simp -implicitDefEqProofs (disch := omega) [go_sem] <;> omega)) (Mo a0 33 126 hx4 ?_)
    try simp -implicitDefEqProofs (disch := omega) [go_sem]
    subst hc2; refine vcK ?_; simp -implicitDefEqProofs only [go_sem]; have er := Option.some.inj h; subst er
    try simp -implicitDefEqProofs (disch := omega) [go_sem]
    refine A2 (by exact A8 (Ext.refl hw)) (by first | with_reducible rfl | (simp -implicitDefEqProofs (disch := omega) [go_sem] <;> omega)) nbA hK
   ·intro c5 h
    try simp (disch := omega) at c5
    try simp -implicitDefEqProofs (disch := omega) [go_sem]
    subst hc2; refine vcK ?_; simp -implicitDefEqProofs only [go_sem]; have er := Option.some.inj h; subst er
    try simp -implicitDefEqProofs (disch := omega) [go_sem]
    refine A2 (by exact A8 (Ext.refl hw)) (by first | with_reducible rfl | (simp -implicitDefEqProofs (disch := omega) [go_sem] <;> omega)) nbA hK
  ·intro c6 h
   try simp (disch := omega) at c6
   try simp -implicitDefEqProofs (disch := omega) [go_sem]
   subst hc2; refine vcK ?_; simp -implicitDefEqProofs only [go_sem]; have er := Option.some.inj h; subst er
   try simp -implicitDefEqProofs (disch := omega) [go_sem]
   refine A2 (by exact A8 (Ext.refl hw)) (by first | with_reducible rfl | (simp -implicitDefEqProofs (disch := omega) [go_sem] <;> omega)) nbA hK
 ·intro c7 h
  try simp (disch := omega) at c7
  try simp -implicitDefEqProofs (disch := omega) [go_sem]
  subst hc2; refine vcK ?_; simp -implicitDefEqProofs only [go_sem]; have er := Option.some.inj h; subst er
  try simp -implicitDefEqProofs (disch := omega) [go_sem]
  refine A2 (by exact A8 (Ext.refl hw)) (by first | with_reducible rfl | (simp -implicitDefEqProofs (disch := omega) [go_sem] <;> omega)) nbA hK
noncomputable def F99 (a0 : Int) : Option Bool :=
 if 65 ≤ a0 then (if a0 ≤ 90 then (some true) else (if 97 ≤ a0 then (some (decide (a0 ≤ 122))) else (some false))) else (if 97 ≤ a0 then (some (decide (a0 ≤ 122))) else (some false))
set_option maxHeartbeats 8000000 in
set_option pp.deepTerms false in
set_option maxRecDepth 60000 in
theorem P7 {H : A0} {K : Am → A0 → Prop} (a0 : Int) {r : Bool} (h : F99 a0 = some r) (hK : K (.ret (.v (.bool r))) H) : A3 prog 99 [.v (.int .u8 a0)] H K := by
 refine A9 (N := 17) func99 (by kernel_rfl) rfl (by kernel_rfl) (by kernel_rfl) fun cb hcb hw hbd hnb => ?_; clear hbd hnb; subst hcb; unfold F99 at h; refine A1 fun cb hc1 => ?_; refine vcK ?_
 try simp -implicitDefEqProofs (disch := omega) [go_sem]
 subst hc1; refine A1 fun cb hc2 => ?_; refine vcK ?_
 try simp -implicitDefEqProofs (disch := omega) [go_sem]
 refine A6 h (by first | with_reducible rfl | (simp -implicitDefEqProofs (disch := omega) [go_sem] <;> omega)) ?_ ?_
 ·intro c6 h
  try simp (disch := omega) at c6
  try simp -implicitDefEqProofs (disch := omega) [go_sem]
  refine A6 h (by first | with_reducible rfl | (simp -implicitDefEqProofs (disch := omega) [go_sem] <;> omega)) ?_ ?_
  ·intro c4 h
   try simp (disch := omega) at c4
   try simp -implicitDefEqProofs (disch := omega) [go_sem]
   subst hc2; refine vcK ?_; simp -implicitDefEqProofs only [go_sem]; have er := Option.some.inj h; subst er
   try simp -implicitDefEqProofs (disch := omega) [go_sem]
   refine A2 (by exact A8 (Ext.refl hw)) (by first | with_reducible rfl | (simp -implicitDefEqProofs (disch := omega) [go_sem] <;> omega)) nbA hK
  ·intro c4 h
   try simp (disch := omega) at c4
   try simp -implicitDefEqProofs (disch := omega) [go_sem]
   refine A6 h (by first | with_reducible rfl | (simp -implicitDefEqProofs (disch := omega) [go_sem] <;> omega)) ?_ ?_
   ·intro c3 h
    try simp (disch := omega) at c3
    try simp -implicitDefEqProofs (disch := omega) [go_sem]
    subst hc2; refine vcK ?_; simp -implicitDefEqProofs only [go_sem]; have er := Option.some.inj h; subst er
    try simp -implicitDefEqProofs (disch := omega) [go_sem]
    refine A2 (by exact A8 (Ext.refl hw)) (by first | with_reducible rfl | (simp -implicitDefEqProofs (disch := omega) [go_sem] <;> omega)) nbA hK
   ·intro c3 h
    try simp (disch := omega) at c3
    try simp -implicitDefEqProofs (disch := omega) [go_sem]
    subst hc2; refine vcK ?_; simp -implicitDefEqProofs only [go_sem]; have er := Option.some.inj h; subst er
    try simp -implicitDefEqProofs (disch := omega) [go_sem]
    refine A2 (by exact A8 (Ext.refl hw)) (by first | with_reducible rfl | (simp -implicitDefEqProofs (disch := omega) [go_sem] <;> omega)) nbA hK
 ·intro c6 h
  try simp (disch := omega) at c6
  try simp -implicitDefEqProofs (disch := omega) [go_sem]
  refine A6 h (by first | with_reducible rfl | (simp -implicitDefEqProofs (disch := omega) [go_sem] <;> omega)) ?_ ?_
  ·intro c5 h
   try simp (disch := omega) at c5
   try simp -implicitDefEqProofs (disch := omega) [go_sem]
   subst hc2; refine vcK ?_; simp -implicitDefEqProofs only [go_sem]; have er := Option.some.inj h; subst er
   try simp -implicitDefEqProofs (disch := omega) [go_sem]
   refine A2 (by exact A8 (Ext.refl hw)) (by first | with_reducible rfl | (simp -implicitDefEqProofs (disch := omega) [go_sem] <;> omega)) nbA hK
  ·intro c5 h
   try simp (disch := omega) at c5
   try simp -implicitDefEqProofs (disch := omega) [go_sem]
   subst hc2; refine vcK ?_; simp -implicitDefEqProofs only [go_sem]; have er := Option.some.inj h; subst er
   try simp -implicitDefEqProofs (disch := omega) [go_sem]
   refine A2 (by exact A8 (Ext.refl hw)) (by first | with_reducible rfl | (simp -implicitDefEqProofs (disch := omega) [go_sem] <;> omega)) nbA hK
end Go.Idl
namespace Go.Idl
open Go Go.Proofs.Tryz
noncomputable def Hz  : Option Bool :=
 some true
noncomputable def Gd (a0 : List UInt8) (v13 : Int) : Option (Int ⊕ (Unit ⊕ Bool)) :=
 if v13 < (a0.length : Int) then (gd (0 ≤ v13 ∧ v13 < a0.length) ((F99 (((a0.getD v13.toNat 0).toNat : Int))).bind fun (x21 : Bool) => if ¬ (x21 = true) then (if (((a0.getD v13.toNat 0).toNat : Int)) < 48 then (if ¬ (((a0.getD v13.toNat 0).toNat : Int)) = 45 then (some (.inr (.inr false))) else (some (.inl (IntKind.i64.wrap (v13 + 1))))) else (if 57 < (((a0.getD v13.toNat 0).toNat : Int)) then (if ¬ (((a0.getD v13.toNat 0).toNat : Int)) = 45 then (some (.inr (.inr false))) else (some (.inl (IntKind.i64.wrap (v13 + 1))))) else (some (.inl (IntKind.i64.wrap (v13 + 1)))))) else (some (.inl (IntKind.i64.wrap (v13 + 1)))))) else (some (.inr (.inl ())))
noncomputable def F70 (a0 : List UInt8) : Option Bool :=
 if (a0.length : Int) < 1 then (some false) else (if 64 < (a0.length : Int) then (some false) else (gd (0 < a0.length) ((F99 (((a0.getD 0 0).toNat : Int))).bind fun (x7 : Bool) => if ¬ (x7 = true) then (some false) else ((B3 (fun (s : Int) => Gd a0 s) 0).bind fun y => Sum.elim (fun (e : Unit) => Hz) (fun (q : Bool) => some q) y))))
set_option maxHeartbeats 8000000 in
set_option pp.deepTerms false in
set_option maxRecDepth 60000 in
theorem Tv {H : A0} {K : Am → A0 → Prop} (a0 : List UInt8) {r : Bool} (h : F70 a0 = some r) (hK : K (.ret (.v (.bool r))) H) : A3 prog 70 [.v (str a0)] H K := by
 refine A9 (N := 47) func70 (by kernel_rfl) rfl (by kernel_rfl) (by kernel_rfl) fun cb hcb hw hbd hnb => ?_; clear hbd hnb; subst hcb; unfold F70 at h; refine A1 fun cb hc1 => ?_; refine vcK ?_
 try simp -implicitDefEqProofs (disch := omega) [go_sem]
 subst hc1; refine A1 fun cb hc2 => ?_; refine A1 fun cb hc3 => ?_; refine vcK ?_
 try simp -implicitDefEqProofs (disch := omega) [go_sem]
 refine A6 h (by first | with_reducible rfl | (simp -implicitDefEqProofs (disch := omega) [go_sem] <;> omega)) ?_ ?_
 ·intro c30 h
  try simp (disch := omega) at c30
  try simp -implicitDefEqProofs (disch := omega) [go_sem]
  subst hc3; refine Aw (by first | with_reducible rfl | (simp -implicitDefEqProofs (disch := omega) [go_sem] <;> omega)) rfl ?_; refine A1 fun cb hc4 => ?_; refine vcK ?_
  try simp -implicitDefEqProofs (disch := omega) [go_sem]
  subst hc4; refine vcK ?_; simp -implicitDefEqProofs only [go_sem]; have er := Option.some.inj h; subst er
  try simp -implicitDefEqProofs (disch := omega) [go_sem]
  refine A2 (by exact A8 (Ext.refl hw)) (by first | with_reducible rfl | (simp -implicitDefEqProofs (disch := omega) [go_sem] <;> omega)) nbA hK
 ·intro c30 h
  try simp (disch := omega) at c30
  try simp -implicitDefEqProofs (disch := omega) [go_sem]
  refine A6 h (by first | with_reducible rfl | (simp -implicitDefEqProofs (disch := omega) [go_sem] <;> omega)) ?_ ?_
  ·intro c29 h
   try simp (disch := omega) at c29
   try simp -implicitDefEqProofs (disch := omega) [go_sem]
   subst hc3; refine Aw (by first | with_reducible rfl | (simp -implicitDefEqProofs (disch := omega) [go_sem] <;> omega)) rfl ?_; refine A1 fun cb hc5 => ?_; refine vcK ?_
   try simp -implicitDefEqProofs (disch := omega) [go_sem]
   subst hc5; refine vcK ?_; simp -implicitDefEqProofs only [go_sem]; have er := Option.some.inj h; subst er
   try simp -implicitDefEqProofs (disch := omega) [go_sem]
   refine A2 (by exact A8 (Ext.refl hw)) (by first | with_reducible rfl | (simp -implicitDefEqProofs (disch := omega) [go_sem] <;> omega)) nbA hK
  ·intro c29 h
   try simp (disch := omega) at c29
   obtain ⟨g6, h⟩ := A7.1 h
   try simp (disch := omega) at g6
   try simp -implicitDefEqProofs (disch := omega) [go_sem]
   obtain ⟨x7, hx7, h⟩ := A4 h; refine A3.eqA (args' := [.v (.int .u8 (((a0.getD 0 0).toNat : Int)))]) (by first | with_reducible rfl | (simp -implicitDefEqProofs (disch := omega) [go_sem] <;> omega)) (P7 (((a0.getD 0 0).toNat : Int)) hx7 ?_)
   try simp -implicitDefEqProofs (disch := omega) [go_sem]
   subst hc3; refine Aa h (by first | with_reducible rfl | (simp -implicitDefEqProofs (disch := omega) [go_sem] <;> omega)) rfl ?_ ?_
   ·intro c8 h
    try simp (disch := omega) at c8
    refine A1 fun cb hc9 => ?_; refine vcK ?_
    try simp -implicitDefEqProofs (disch := omega) [go_sem]
    subst hc9; refine vcK ?_; simp -implicitDefEqProofs only [go_sem]; have er := Option.some.inj h; subst er
    try simp -implicitDefEqProofs (disch := omega) [go_sem]
    refine A2 (by exact A8 (Ext.refl hw)) (by first | with_reducible rfl | (simp -implicitDefEqProofs (disch := omega) [go_sem] <;> omega)) nbA hK
   ·intro c8 h
    try simp (disch := omega) at c8
    refine vcK ?_; simp -implicitDefEqProofs only [go_sem]; subst hc2; refine A1 fun cb hc10 => ?_; refine A1 fun cb hc11 => ?_; refine vcK ?_
    try simp -implicitDefEqProofs (disch := omega) [go_sem]
    subst hc11; obtain ⟨y12, hl12q, hk12⟩ := A4 h; refine AW (fun tm' H' => .inl () = y12 ∧ H = H') ?_ fun cb hc12 => ?_
    ·rintro tm12e H12e ⟨rfl, rfl⟩
     have h : Hz = some r := hk12; unfold Hz at h; simp -implicitDefEqProofs only [go_sem]; subst hc10; refine A1 fun cb hc14 => ?_; refine vcK ?_
     try simp -implicitDefEqProofs (disch := omega) [go_sem]
     subst hc14; refine vcK ?_; simp -implicitDefEqProofs only [go_sem]; have er := Option.some.inj h; subst er
     try simp -implicitDefEqProofs (disch := omega) [go_sem]
     refine A2 (by exact A8 (Ext.refl hw)) (by first | with_reducible rfl | (simp -implicitDefEqProofs (disch := omega) [go_sem] <;> omega)) nbA hK
    ·refine Af ?_; refine AN (fun (s : Int) tm' H' => H = H' ∧ tm' 0 = .v (str a0) ∧ tm' 3 = .v (.int .i64 s)) hl12q ?_ ?_
     ·refine .same ⟨rfl, ?_, ?_⟩ <;> first | with_reducible rfl | with_reducible assumption | (simp -implicitDefEqProofs (disch := omega) [go_sem] <;> omega)
     ·rintro I12 hI12 v13 x12 tm12 H12 ⟨rfl, Bw, Bx⟩ h hret12
      replace h : Gd a0 v13 = some x12 := h; unfold Gd at h; refine A1 fun cb hc15 => ?_; refine A1 fun cb hc16 => ?_; refine vcK ?_
      try simp -implicitDefEqProofs (disch := omega) [go_sem, Bw, Bx]
      subst hc16; refine Aa h (by first | with_reducible rfl | (simp -implicitDefEqProofs (disch := omega) [go_sem, Bw, Bx] <;> omega)) rfl ?_ ?_
      ·intro c17 h
       try simp (disch := omega) at c17
       refine vcK ?_; simp -implicitDefEqProofs only [go_sem]; subst hc15; refine A1 fun cb hc18 => ?_; refine Af ?_; refine A1 fun cb hc19 => ?_; refine vcK ?_; obtain ⟨g20, h⟩ := A7.1 h
       try simp (disch := omega) at g20
       try simp -implicitDefEqProofs (disch := omega) [go_sem, Bw, Bx]
       obtain ⟨x21, hx21, h⟩ := A4 h; refine A3.eqA (args' := [.v (.int .u8 (((a0.getD v13.toNat 0).toNat : Int)))]) (by first | with_reducible rfl | (simp -implicitDefEqProofs (disch := omega) [go_sem, Bw, Bx] <;> omega)) (P7 (((a0.getD v13.toNat 0).toNat : Int)) hx21 ?_)
       try simp -implicitDefEqProofs (disch := omega) [go_sem, Bw, Bx]
       refine A6 h (by first | with_reducible rfl | (simp -implicitDefEqProofs (disch := omega) [go_sem, Bw, Bx] <;> omega)) ?_ ?_
       ·intro c28 h
        try simp (disch := omega) at c28
        try simp -implicitDefEqProofs (disch := omega) [go_sem, Bw, Bx]
        refine A6 h (by first | with_reducible rfl | (simp -implicitDefEqProofs (disch := omega) [go_sem, Bw, Bx] <;> omega)) ?_ ?_
        ·intro c27 h
         try simp (disch := omega) at c27
         try simp -implicitDefEqProofs (disch := omega) [go_sem, Bw, Bx]
         subst hc19; refine Aa h (by first | with_reducible rfl | (simp -implicitDefEqProofs (disch := omega) [go_sem, Bw, Bx] <;> omega)) rfl ?_ ?_
         ·intro c22 h
          try simp (disch := omega) at c22
          refine A1 fun cb hc23 => ?_; refine vcK ?_
          try simp -implicitDefEqProofs (disch := omega) [go_sem, Bw, Bx]
          subst hc23; refine vcK ?_; simp -implicitDefEqProofs only [go_sem]; have e12 := Option.some.inj h; subst e12; have e12 := hret12 _ rfl; subst e12; replace h : some false = some r := hk12; have er := Option.some.inj h; subst er
          try simp -implicitDefEqProofs (disch := omega) [go_sem, Bw, Bx]
          refine A2 (by exact A8 (Ext.refl hw)) (by first | with_reducible rfl | (simp -implicitDefEqProofs (disch := omega) [go_sem, Bw, Bx] <;> omega)) nbA hK
         ·intro c22 h
          try simp (disch := omega) at c22
          refine vcK ?_; simp -implicitDefEqProofs only [go_sem]; subst hc18; refine vcK ?_
          try simp -implicitDefEqProofs (disch := omega) [go_sem, Bw, Bx]
          have e12 := Option.some.inj h; subst e12; refine Au hI12 (IntKind.i64.wrap (v13 + 1)) ?_; refine .same ⟨rfl, ?_, ?_⟩ <;> first | with_reducible rfl | with_reducible assumption | (simp -implicitDefEqProofs (disch := omega) [go_sem, Bw, Bx] <;> omega)
        ·intro c27 h
         try simp (disch := omega) at c27
         try simp -implicitDefEqProofs (disch := omega) [go_sem, Bw, Bx]
         refine A6 h (by first | with_reducible rfl | (simp -implicitDefEqProofs (disch := omega) [go_sem, Bw, Bx] <;> omega)) ?_ ?_
         ·intro c26 h
          try simp (disch := omega) at c26
          try simp -implicitDefEqProofs (disch := omega) [go_sem, Bw, Bx]
          subst hc19; refine Aa h (by first | with_reducible rfl | (simp -implicitDefEqProofs (disch := omega) [go_sem, Bw, Bx] <;> omega)) rfl ?_ ?_
          ·intro c24 h
           try simp (disch := omega) at c24
           refine A1 fun cb hc25 => ?_; refine vcK ?_
           try simp -implicitDefEqProofs (disch := omega) [go_sem, Bw, Bx]
           subst hc25; refine vcK ?_; simp -implicitDefEqProofs only [go_sem]; have e12 := Option.some.inj h; subst e12; have e12 := hret12 _ rfl; subst e12; replace h : some false = some r := hk12; have er := Option.some.inj h; subst er
           try simp -implicitDefEqProofs (disch := omega) [go_sem, Bw, Bx]
           refine A2 (by exact A8 (Ext.refl hw)) (by first | with_reducible rfl | (simp -implicitDefEqProofs (disch := omega) [go_sem, Bw, Bx] <;> omega)) nbA hK
          ·intro c24 h
           try simp (disch := omega) at c24
           refine vcK ?_; simp -implicitDefEqProofs only [go_sem]; subst hc18; refine vcK ?_
           try simp -implicitDefEqProofs (disch := omega) [go_sem, Bw, Bx]
           have e12 := Option.some.inj h; subst e12; refine Au hI12 (IntKind.i64.wrap (v13 + 1)) ?_; refine .same ⟨rfl, ?_, ?_⟩ <;> first | with_reducible rfl | with_reducible assumption | (simp -implicitDefEqProofs (disch := omega) [go_sem, Bw, Bx] <;> omega)
         ·intro c26 h
          try simp (disch := omega) at c26
          try simp -implicitDefEqProofs (disch := omega) [go_sem, Bw, Bx]
          subst hc19; refine BN (by first | with_reducible rfl | (simp -implicitDefEqProofs (disch := omega) [go_sem, Bw, Bx] <;> omega)) rfl ?_; refine vcK ?_; simp -implicitDefEqProofs only [go_sem]; subst hc18; refine vcK ?_
          try simp -implicitDefEqProofs (disch := omega) [go_sem, Bw, Bx]
          have e12 := Option.some.inj h; subst e12; refine Au hI12 (IntKind.i64.wrap (v13 + 1)) ?_; refine .same ⟨rfl, ?_, ?_⟩ <;> first | with_reducible rfl | with_reducible assumption | (simp -implicitDefEqProofs (disch := omega) [go_sem, Bw, Bx] <;> omega)
       ·intro c28 h
        try simp (disch := omega) at c28
        try simp -implicitDefEqProofs (disch := omega) [go_sem, Bw, Bx]
        subst hc19; refine BN (by first | with_reducible rfl | (simp -implicitDefEqProofs (disch := omega) [go_sem, Bw, Bx] <;> omega)) rfl ?_; refine vcK ?_; simp -implicitDefEqProofs only [go_sem]; subst hc18; refine vcK ?_
        try simp -implicitDefEqProofs (disch := omega) [go_sem, Bw, Bx]
        have e12 := Option.some.inj h; subst e12; refine Au hI12 (IntKind.i64.wrap (v13 + 1)) ?_; refine .same ⟨rfl, ?_, ?_⟩ <;> first | with_reducible rfl | with_reducible assumption | (simp -implicitDefEqProofs (disch := omega) [go_sem, Bw, Bx] <;> omega)
      ·intro c17 h
       try simp (disch := omega) at c17
       refine vcK ?_; simp -implicitDefEqProofs only [go_sem]; have e12 := Option.some.inj h; subst e12; have hy12 := hret12 _ rfl; refine hc12 _ _ ?_; refine .same ⟨hy12, rfl⟩
noncomputable def Kh (v8 : List UInt8) : Option (List UInt8) :=
 some v8
noncomputable def GF (a0 : List UInt8) (v6 : List UInt8) (v7 : Int) : Option (((List UInt8) × Int) ⊕ (List UInt8)) :=
 if v7 < (a0.length : Int) then (gd (0 ≤ v7 ∧ v7 < a0.length) (if 65 ≤ (((a0.getD v7.toNat 0).toNat : Int)) then (if (((a0.getD v7.toNat 0).toNat : Int)) ≤ 90 then (gd (0 ≤ (IntKind.u8.wrap ((((a0.getD v7.toNat 0).toNat : Int)) + 32)) ∧ (IntKind.u8.wrap ((((a0.getD v7.toNat 0).toNat : Int)) + 32)) ≤ 255) (gd ((v6.length : Int) + (([UInt8.ofNat (IntKind.u8.wrap ((((a0.getD v7.toNat 0).toNat : Int)) + 32)).toNat] : List UInt8)).length ≤ 9223372036854775807) (some (.inl ((v6 ++ (([UInt8.ofNat (IntKind.u8.wrap ((((a0.getD v7.toNat 0).toNat : Int)) + 32)).toNat] : List UInt8)), IntKind.i64.wrap (v7 + 1))))))) else (gd (0 ≤ (((a0.getD v7.toNat 0).toNat : Int)) ∧ (((a0.getD v7.toNat 0).toNat : Int)) ≤ 255) (gd ((v6.length : Int) + (([UInt8.ofNat (((a0.getD v7.toNat 0).toNat : Int)).toNat] : List UInt8)).length ≤ 9223372036854775807) (some (.inl ((v6 ++ (([UInt8.ofNat (((a0.getD v7.toNat 0).toNat : Int)).toNat] : List UInt8)), IntKind.i64.wrap (v7 + 1)))))))) else (gd (0 ≤ (((a0.getD v7.toNat 0).toNat : Int)) ∧ (((a0.getD v7.toNat 0).toNat : Int)) ≤ 255) (gd ((v6.length : Int) + (([UInt8.ofNat (((a0.getD v7.toNat 0).toNat : Int)).toNat] : List UInt8)).length ≤ 9223372036854775807) (some (.inl ((v6 ++ (([UInt8.ofNat (((a0.getD v7.toNat 0).toNat : Int)).toNat] : List UInt8)), IntKind.i64.wrap (v7 + 1))))))))) else (some (.inr v6))
noncomputable def F71 (a0 : List UInt8) : Option (List UInt8) :=
 (B3 (fun (s : (List UInt8) × Int) => GF a0 s.1 s.2) ([], 0)).bind fun (e : (List UInt8)) => Kh e
set_option maxHeartbeats 8000000 in
set_option pp.deepTerms false in
set_option maxRecDepth 60000 in
theorem Tw {H : A0} {K : Am → A0 → Prop} (a0 : List UInt8) {r : (List UInt8)} (h : F71 a0 = some r) (hK : K (.ret (.v (str r))) H) : A3 prog 71 [.v (str a0)] H K := by
 refine A9 (N := 29) func71 (by kernel_rfl) rfl (by kernel_rfl) (by kernel_rfl) fun cb hcb hw hbd hnb => ?_; clear hbd hnb; subst hcb; unfold F71 at h; refine A1 fun cb hc1 => ?_; refine vcK ?_
 try simp -implicitDefEqProofs (disch := omega) [go_sem]
 subst hc1; refine A1 fun cb hc2 => ?_; refine vcK ?_
 try simp -implicitDefEqProofs (disch := omega) [go_sem]
 subst hc2; refine A1 fun cb hc3 => ?_; refine A1 fun cb hc4 => ?_; refine vcK ?_
 try simp -implicitDefEqProofs (disch := omega) [go_sem]
 subst hc4; obtain ⟨y5, hl5q, hk5⟩ := A4 h; refine AW (fun tm' H' => ∃ v8 : List UInt8, v8 = y5 ∧ H = H' ∧ tm' 3 = .v (str v8)) ?_ fun cb hc5 => ?_
 ·rintro tm5e H5e ⟨v8, rfl, rfl, t3_5e⟩
  have h : Kh v8 = some r := hk5; unfold Kh at h; simp -implicitDefEqProofs only [go_sem]; subst hc3; refine A1 fun cb hc9 => ?_; refine vcK ?_
  try simp -implicitDefEqProofs (disch := omega) [go_sem, t3_5e]
  subst hc9; refine vcK ?_; simp -implicitDefEqProofs only [go_sem]; have er := Option.some.inj h; subst er
  try simp -implicitDefEqProofs (disch := omega) [go_sem, t3_5e]
  refine A2 (by exact A8 (Ext.refl hw)) (by first | with_reducible rfl | (simp -implicitDefEqProofs (disch := omega) [go_sem, t3_5e] <;> omega)) nbA hK
 ·refine Af ?_; refine AN (fun (s : (List UInt8) × Int) tm' H' => H = H' ∧ tm' 0 = .v (str a0) ∧ tm' 3 = .v (str s.1) ∧ tm' 4 = .v (.int .i64 s.2)) hl5q ?_ ?_
  ·refine .same ⟨rfl, ?_, ?_, ?_⟩ <;> first | with_reducible rfl | with_reducible assumption | (simp -implicitDefEqProofs (disch := omega) [go_sem] <;> omega)
  ·rintro I5 hI5 ⟨v6, v7⟩ x5 tm5 H5 ⟨rfl, B8, By, DO⟩ h hret5
   replace h : GF a0 v6 v7 = some x5 := h; unfold GF at h; refine A1 fun cb hc10 => ?_; refine A1 fun cb hc11 => ?_; refine vcK ?_
   try simp -implicitDefEqProofs (disch := omega) [go_sem, B8, By, DO]
   subst hc11; refine Aa h (by first | with_reducible rfl | (simp -implicitDefEqProofs (disch := omega) [go_sem, B8, By, DO] <;> omega)) rfl ?_ ?_
   ·intro c12 h
    try simp (disch := omega) at c12
    refine vcK ?_; simp -implicitDefEqProofs only [go_sem]; subst hc10; refine A1 fun cb hc13 => ?_; refine Af ?_; refine A1 fun cb hc14 => ?_; refine vcK ?_; obtain ⟨g15, h⟩ := A7.1 h
    try simp (disch := omega) at g15
    try simp -implicitDefEqProofs (disch := omega) [go_sem, B8, By, DO]
    subst hc14; refine A1 fun cb hc16 => ?_; refine A1 fun cb hc17 => ?_; refine vcK ?_
    try simp -implicitDefEqProofs (disch := omega) [go_sem, B8, By, DO]
    refine A6 h (by first | with_reducible rfl | (simp -implicitDefEqProofs (disch := omega) [go_sem, B8, By, DO] <;> omega)) ?_ ?_
    ·intro c25 h
     try simp (disch := omega) at c25
     try simp -implicitDefEqProofs (disch := omega) [go_sem, B8, By, DO]
     subst hc17; refine Aa h (by first | with_reducible rfl | (simp -implicitDefEqProofs (disch := omega) [go_sem, B8, By, DO] <;> omega)) rfl ?_ ?_
     ·intro c18 h
      try simp (disch := omega) at c18
      refine vcK ?_
      try simp -implicitDefEqProofs (disch := omega) [go_sem, B8, By, DO]
      subst hc16; refine vcK ?_; obtain ⟨g19, h⟩ := A7.1 h
      try simp (disch := omega) at g19
      obtain ⟨g20, h⟩ := A7.1 h
      try simp (disch := omega) at g20
      try simp -implicitDefEqProofs (disch := omega) [go_sem] at g19
      try simp -implicitDefEqProofs (disch := omega) [go_sem] at g20
      try simp -implicitDefEqProofs (disch := omega) [go_sem, B8, By, DO]
      subst hc13; refine vcK ?_
      try simp -implicitDefEqProofs (disch := omega) [go_sem, B8, By, DO]
      have e5 := Option.some.inj h; subst e5; refine Au hI5 ((v6 ++ (([UInt8.ofNat (IntKind.u8.wrap ((((a0.getD v7.toNat 0).toNat : Int)) + 32)).toNat] : List UInt8)), IntKind.i64.wrap (v7 + 1))) ?_; refine .same ⟨rfl, ?_, ?_, ?_⟩ <;> first | with_reducible rfl | with_reducible assumption | (simp -implicitDefEqProofs (disch := omega) [go_sem, B8, By, DO] <;> omega)
     ·intro c18 h
      try simp (disch := omega) at c18
      refine vcK ?_; simp -implicitDefEqProofs only [go_sem]; subst hc16; refine vcK ?_; obtain ⟨g21, h⟩ := A7.1 h
      try simp (disch := omega) at g21
      obtain ⟨g22, h⟩ := A7.1 h
      try simp (disch := omega) at g22
      try simp -implicitDefEqProofs (disch := omega) [go_sem, B8, By, DO]
      subst hc13; refine vcK ?_
      try simp -implicitDefEqProofs (disch := omega) [go_sem, B8, By, DO]
      have e5 := Option.some.inj h; subst e5; refine Au hI5 ((v6 ++ (([UInt8.ofNat (((a0.getD v7.toNat 0).toNat : Int)).toNat] : List UInt8)), IntKind.i64.wrap (v7 + 1))) ?_; refine .same ⟨rfl, ?_, ?_, ?_⟩ <;> first | with_reducible rfl | with_reducible assumption | (simp -implicitDefEqProofs (disch := omega) [go_sem, B8, By, DO] <;> omega)
    ·intro c25 h
     try simp (disch := omega) at c25
     try simp -implicitDefEqProofs (disch := omega) [go_sem, B8, By, DO]
     subst hc17; refine BN (by first | with_reducible rfl | (simp -implicitDefEqProofs (disch := omega) [go_sem, B8, By, DO] <;> omega)) rfl ?_; refine vcK ?_; simp -implicitDefEqProofs only [go_sem]; subst hc16; refine vcK ?_; obtain ⟨g23, h⟩ := A7.1 h
     try simp (disch := omega) at g23
     obtain ⟨g24, h⟩ := A7.1 h
     try simp (disch := omega) at g24
     try simp -implicitDefEqProofs (disch := omega) [go_sem, B8, By, DO]
     subst hc13; refine vcK ?_
     try simp -implicitDefEqProofs (disch := omega) [go_sem, B8, By, DO]
     have e5 := Option.some.inj h; subst e5; refine Au hI5 ((v6 ++ (([UInt8.ofNat (((a0.getD v7.toNat 0).toNat : Int)).toNat] : List UInt8)), IntKind.i64.wrap (v7 + 1))) ?_; refine .same ⟨rfl, ?_, ?_, ?_⟩ <;> first | with_reducible rfl | with_reducible assumption | (simp -implicitDefEqProofs (disch := omega) [go_sem, B8, By, DO] <;> omega)
   ·intro c12 h
    try simp (disch := omega) at c12
    refine vcK ?_; simp -implicitDefEqProofs only [go_sem]; have e5 := Option.some.inj h; subst e5; have hy5 := hret5 _ rfl; refine hc5 _ _ ?_; refine .same ⟨v6, hy5, rfl, by first | with_reducible rfl | with_reducible assumption | (simp -implicitDefEqProofs (disch := omega) [go_sem, B8, By, DO] <;> omega)⟩
noncomputable def F72 (a0 : List UInt8) : Option Bool :=
 if (a0.length : Int) ≤ 200 then ((F55 a0 32 126).bind fun (x3 : Bool) => if x3 = true then (if a0 = [] then (some true) else (gd (0 < a0.length) (if ¬ (((a0.getD 0 0).toNat : Int)) = 32 then (gd (0 ≤ (IntKind.i64.wrap ((a0.length : Int) - 1)) ∧ (IntKind.i64.wrap ((a0.length : Int) - 1)) < a0.length) (some (decide (¬ (((a0.getD (IntKind.i64.wrap ((a0.length : Int) - 1)).toNat 0).toNat : Int)) = 32)))) else (some false)))) else (some false)) else (some false)
set_option maxHeartbeats 8000000 in
set_option pp.deepTerms false in
set_option maxRecDepth 60000 in
theorem Tx {H : A0} {K : Am → A0 → Prop} (a0 : List UInt8) {r : Bool} (h : F72 a0 = some r) (hK : K (.ret (.v (.bool r))) H) : A3 prog 72 [.v (str a0)] H K := by
 refine A9 (N := 27) func72 (by kernel_rfl) rfl (by kernel_rfl) (by kernel_rfl) fun cb hcb hw hbd hnb => ?_; clear hbd hnb; subst hcb; unfold F72 at h; refine A1 fun cb hc1 => ?_; refine vcK ?_
 try simp -implicitDefEqProofs (disch := omega) [go_sem]
 subst hc1; refine A1 fun cb hc2 => ?_; refine vcK ?_
 try simp -implicitDefEqProofs (disch := omega) [go_sem]
 refine A6 h (by first | with_reducible rfl | (simp -implicitDefEqProofs (disch := omega) [go_sem] <;> omega)) ?_ ?_
 ·intro c9 h
  try simp (disch := omega) at c9
  try simp -implicitDefEqProofs (disch := omega) [go_sem]
  obtain ⟨x3, hx3, h⟩ := A4 h; refine A3.eqA (args' := [.v (str a0), .v (.int .u8 32), .v (.int .u8 126)]) (by first | with_reducible rfl | (simp -implicitDefEqProofs (disch := omega) [go_sem] <;> omega)) (Mo a0 32 126 hx3 ?_)
  try simp -implicitDefEqProofs (disch := omega) [go_sem]
  refine A6 h (by first | with_reducible rfl | (simp -implicitDefEqProofs (disch := omega) [go_sem] <;> omega)) ?_ ?_
  ·intro c8 h
   try simp (disch := omega) at c8
   try simp -implicitDefEqProofs (disch := omega) [go_sem]
   refine A6 h (by first | with_reducible rfl | (simp -implicitDefEqProofs (disch := omega) [go_sem] <;> omega)) ?_ ?_
   ·intro c7 h
    try simp (disch := omega) at c7
    try simp -implicitDefEqProofs (disch := omega) [go_sem]
    subst hc2; refine vcK ?_; simp -implicitDefEqProofs only [go_sem]; have er := Option.some.inj h; subst er
    try simp -implicitDefEqProofs (disch := omega) [go_sem]
    refine A2 (by exact A8 (Ext.refl hw)) (by first | with_reducible rfl | (simp -implicitDefEqProofs (disch := omega) [go_sem] <;> omega)) nbA hK
   ·intro c7 h
    try simp (disch := omega) at c7
    obtain ⟨g4, h⟩ := A7.1 h
    try simp (disch := omega) at g4
    try simp -implicitDefEqProofs (disch := omega) [go_sem]
    refine A6 h (by first | with_reducible rfl | (simp -implicitDefEqProofs (disch := omega) [go_sem] <;> omega)) ?_ ?_
    ·intro c6 h
     try simp (disch := omega) at c6
     obtain ⟨g5, h⟩ := A7.1 h
     try simp (disch := omega) at g5
     try simp -implicitDefEqProofs (disch := omega) [go_sem]
     subst hc2; refine vcK ?_; simp -implicitDefEqProofs only [go_sem]; have er := Option.some.inj h; subst er
     try simp -implicitDefEqProofs (disch := omega) [go_sem]
     refine A2 (by exact A8 (Ext.refl hw)) (by first | with_reducible rfl | (simp -implicitDefEqProofs (disch := omega) [go_sem] <;> omega)) nbA hK
    ·intro c6 h
     try simp (disch := omega) at c6
     try simp -implicitDefEqProofs (disch := omega) [go_sem]
     subst hc2; refine vcK ?_; simp -implicitDefEqProofs only [go_sem]; have er := Option.some.inj h; subst er
     try simp -implicitDefEqProofs (disch := omega) [go_sem]
     refine A2 (by exact A8 (Ext.refl hw)) (by first | with_reducible rfl | (simp -implicitDefEqProofs (disch := omega) [go_sem] <;> omega)) nbA hK
  ·intro c8 h
   try simp (disch := omega) at c8
   try simp -implicitDefEqProofs (disch := omega) [go_sem]
   subst hc2; refine vcK ?_; simp -implicitDefEqProofs only [go_sem]; have er := Option.some.inj h; subst er
   try simp -implicitDefEqProofs (disch := omega) [go_sem]
   refine A2 (by exact A8 (Ext.refl hw)) (by first | with_reducible rfl | (simp -implicitDefEqProofs (disch := omega) [go_sem] <;> omega)) nbA hK
 ·intro c9 h
  try simp (disch := omega) at c9
  try simp -implicitDefEqProofs (disch := omega) [go_sem]
  subst hc2; refine vcK ?_; simp -implicitDefEqProofs only [go_sem]; have er := Option.some.inj h; subst er
  try simp -implicitDefEqProofs (disch := omega) [go_sem]
  refine A2 (by exact A8 (Ext.refl hw)) (by first | with_reducible rfl | (simp -implicitDefEqProofs (disch := omega) [go_sem] <;> omega)) nbA hK
noncomputable def Ki (a0 : List S55) : Option Bool :=
 some (decide ((a0.length : Int) ≤ 16))
noncomputable def ED (a0 : List S55) (v5 : Int) : Option (Int ⊕ (Unit ⊕ Bool)) :=
 if v5 < (a0.length : Int) then (gd (0 ≤ v5 ∧ v5 < a0.length) ((F70 ((a0.getD v5.toNat S55.zero).fName)).bind fun (x14 : Bool) => if ¬ (x14 = true) then (some (.inr (.inr false))) else ((F71 ((a0.getD v5.toNat S55.zero).fName)).bind fun (x16 : (List UInt8)) => if ¬ x16 = ((a0.getD v5.toNat S55.zero).fName) then (some (.inr (.inr false))) else ((F72 ((a0.getD v5.toNat S55.zero).A5)).bind fun (x18 : Bool) => if ¬ (x18 = true) then (some (.inr (.inr false))) else (if ((a0.getD v5.toNat S55.zero).fName) = ([99, 111, 110, 116, 101, 110, 116, 45, 108, 101, 110, 103, 116, 104]) then (some (.inr (.inr false))) else (if ((a0.getD v5.toNat S55.zero).fName) = ([116, 114, 97, 110, 115, 102, 101, 114, 45, 101, 110, 99, 111, 100, 105, 110, 103]) then (some (.inr (.inr false))) else (if 0 < v5 then (gd (0 ≤ (IntKind.i64.wrap (v5 - 1)) ∧ (IntKind.i64.wrap (v5 - 1)) < a0.length) (if ¬ Op.bytesLess ((a0.getD (IntKind.i64.wrap (v5 - 1)).toNat S55.zero).fName) ((a0.getD v5.toNat S55.zero).fName) = true then (some (.inr (.inr false))) else (some (.inl (IntKind.i64.wrap (v5 + 1)))))) else (some (.inl (IntKind.i64.wrap (v5 + 1))))))))))) else (some (.inr (.inl ())))
noncomputable def F44 (a0 : List S55) : Option Bool :=
 (B3 (fun (s : Int) => ED a0 s) 0).bind fun y => Sum.elim (fun (e : Unit) => Ki a0) (fun (q : Bool) => some q) y
set_option maxHeartbeats 8000000 in
set_option pp.deepTerms false in
set_option maxRecDepth 60000 in
theorem Ty {H : A0} {K : Am → A0 → Prop} (a0 : List S55) {r : Bool} (h : F44 a0 = some r) (hK : K (.ret (.v (.bool r))) H) : A3 prog 44 [.sl 2 (a0.map fun x => [.v (str x.fName), .v (str x.A5)])] H K := by
 refine A9 (N := 59) func44 (by kernel_rfl) rfl (by kernel_rfl) (by kernel_rfl) fun cb hcb hw hbd hnb => ?_; clear hbd hnb; subst hcb; unfold F44 at h; refine A1 fun cb hc1 => ?_; refine vcK ?_
 try simp -implicitDefEqProofs (disch := omega) [go_sem]
 subst hc1; refine A1 fun cb hc2 => ?_; refine A1 fun cb hc3 => ?_; refine vcK ?_
 try simp -implicitDefEqProofs (disch := omega) [go_sem]
 subst hc3; obtain ⟨y4, hl4q, hk4⟩ := A4 h; refine AW (fun tm' H' => .inl () = y4 ∧ H = H' ∧ tm' 0 = .sl 2 (a0.map fun x => [.v (str x.fName), .v (str x.A5)])) ?_ fun cb hc4 => ?_
 ·rintro tm4e H4e ⟨rfl, rfl, t0_4e⟩
  have h : Ki a0 = some r := hk4; unfold Ki at h; simp -implicitDefEqProofs only [go_sem]; subst hc2; refine A1 fun cb hc6 => ?_; refine vcK ?_
  try simp -implicitDefEqProofs (disch := omega) [go_sem, t0_4e]
  subst hc6; refine vcK ?_; simp -implicitDefEqProofs only [go_sem]; have er := Option.some.inj h; subst er
  try simp -implicitDefEqProofs (disch := omega) [go_sem, t0_4e]
  refine A2 (by exact A8 (Ext.refl hw)) (by first | with_reducible rfl | (simp -implicitDefEqProofs (disch := omega) [go_sem, t0_4e] <;> omega)) nbA hK
 ·refine Af ?_; refine AN (fun (s : Int) tm' H' => H = H' ∧ tm' 0 = .sl 2 (a0.map fun x => [.v (str x.fName), .v (str x.A5)]) ∧ tm' 3 = .v (.int .i64 s)) hl4q ?_ ?_
  ·refine .same ⟨rfl, ?_, ?_⟩ <;> first | with_reducible rfl | with_reducible assumption | (simp -implicitDefEqProofs (disch := omega) [go_sem] <;> omega)
  ·rintro I4 hI4 v5 x4 tm4 H4 ⟨rfl, Ah, Be⟩ h hret4
   replace h : ED a0 v5 = some x4 := h; unfold ED at h; refine A1 fun cb hc7 => ?_; refine A1 fun cb hc8 => ?_; refine vcK ?_
   try simp -implicitDefEqProofs (disch := omega) [go_sem, Ah, Be]
   subst hc8; refine Aa h (by first | with_reducible rfl | (simp -implicitDefEqProofs (disch := omega) [go_sem, Ah, Be] <;> omega)) rfl ?_ ?_
   ·intro c9 h
    try simp (disch := omega) at c9
    refine vcK ?_; simp -implicitDefEqProofs only [go_sem]; subst hc7; refine A1 fun cb hc10 => ?_; refine Af ?_; refine A1 fun cb hc11 => ?_; refine vcK ?_; obtain ⟨g12, h⟩ := A7.1 h
    try simp (disch := omega) at g12
    try simp -implicitDefEqProofs (disch := omega) [go_sem, Ah, Be]
    subst hc11; refine A1 fun cb hc13 => ?_; refine vcK ?_
    try simp -implicitDefEqProofs (disch := omega) [go_sem, Ah, Be]
    obtain ⟨x14, hx14, h⟩ := A4 h; refine A3.eqA (args' := [.v (str ((a0.getD v5.toNat S55.zero).fName))]) (by first | with_reducible rfl | (simp -implicitDefEqProofs (disch := omega) [go_sem, Ah, Be] <;> omega)) (Tv ((a0.getD v5.toNat S55.zero).fName) hx14 ?_)
    try simp -implicitDefEqProofs (disch := omega) [go_sem, Ah, Be]
    refine A6 h (by first | with_reducible rfl | (simp -implicitDefEqProofs (disch := omega) [go_sem, Ah, Be] <;> omega)) ?_ ?_
    ·intro c30 h
     try simp (disch := omega) at c30
     try simp -implicitDefEqProofs (disch := omega) [go_sem, Ah, Be]
     subst hc13; refine Aw (by first | with_reducible rfl | (simp -implicitDefEqProofs (disch := omega) [go_sem, Ah, Be] <;> omega)) rfl ?_; refine A1 fun cb hc15 => ?_; refine vcK ?_
     try simp -implicitDefEqProofs (disch := omega) [go_sem, Ah, Be]
     subst hc15; refine vcK ?_; simp -implicitDefEqProofs only [go_sem]; have e4 := Option.some.inj h; subst e4; have e4 := hret4 _ rfl; subst e4; replace h : some false = some r := hk4; have er := Option.some.inj h; subst er
     try simp -implicitDefEqProofs (disch := omega) [go_sem, Ah, Be]
     refine A2 (by exact A8 (Ext.refl hw)) (by first | with_reducible rfl | (simp -implicitDefEqProofs (disch := omega) [go_sem, Ah, Be] <;> omega)) nbA hK
    ·intro c30 h
     try simp (disch := omega) at c30
     try simp -implicitDefEqProofs (disch := omega) [go_sem, Ah, Be]
     obtain ⟨x16, hx16, h⟩ := A4 h; refine A3.eqA (args' := [.v (str ((a0.getD v5.toNat S55.zero).fName))]) (by first | with_reducible rfl | (simp -implicitDefEqProofs (disch := omega) [go_sem, Ah, Be] <;> omega)) (Tw ((a0.getD v5.toNat S55.zero).fName) hx16 ?_)
     try simp -implicitDefEqProofs (disch := omega) [go_sem, Ah, Be]
     refine A6 h (by first | with_reducible rfl | (simp -implicitDefEqProofs (disch := omega) [go_sem, Ah, Be] <;> omega)) ?_ ?_
     ·intro c29 h
      try simp (disch := omega) at c29
      try simp -implicitDefEqProofs (disch := omega) [go_sem, Ah, Be]
      subst hc13; refine Aw (by first | with_reducible rfl | (simp -implicitDefEqProofs (disch := omega) [go_sem, Ah, Be] <;> omega)) rfl ?_; refine A1 fun cb hc17 => ?_; refine vcK ?_
      try simp -implicitDefEqProofs (disch := omega) [go_sem, Ah, Be]
      subst hc17; refine vcK ?_; simp -implicitDefEqProofs only [go_sem]; have e4 := Option.some.inj h; subst e4; have e4 := hret4 _ rfl; subst e4; replace h : some false = some r := hk4; have er := Option.some.inj h; subst er
      try simp -implicitDefEqProofs (disch := omega) [go_sem, Ah, Be]
      refine A2 (by exact A8 (Ext.refl hw)) (by first | with_reducible rfl | (simp -implicitDefEqProofs (disch := omega) [go_sem, Ah, Be] <;> omega)) nbA hK
     ·intro c29 h
      try simp (disch := omega) at c29
      try simp -implicitDefEqProofs (disch := omega) [go_sem, Ah, Be]
      obtain ⟨x18, hx18, h⟩ := A4 h; refine A3.eqA (args' := [.v (str ((a0.getD v5.toNat S55.zero).A5))]) (by first | with_reducible rfl | (simp -implicitDefEqProofs (disch := omega) [go_sem, Ah, Be] <;> omega)) (Tx ((a0.getD v5.toNat S55.zero).A5) hx18 ?_)
      try simp -implicitDefEqProofs (disch := omega) [go_sem, Ah, Be]
      refine A6 h (by first | with_reducible rfl | (simp -implicitDefEqProofs (disch := omega) [go_sem, Ah, Be] <;> omega)) ?_ ?_
      ·intro c28 h
       try simp (disch := omega) at c28
       try simp -implicitDefEqProofs (disch := omega) [go_sem, Ah, Be]
       subst hc13; refine Aw (by first | with_reducible rfl | (simp -implicitDefEqProofs (disch := omega) [go_sem, Ah, Be] <;> omega)) rfl ?_; refine A1 fun cb hc19 => ?_; refine vcK ?_
       try simp -implicitDefEqProofs (disch := omega) [go_sem, Ah, Be]
       subst hc19; refine vcK ?_; simp -implicitDefEqProofs only [go_sem]; have e4 := Option.some.inj h; subst e4; have e4 := hret4 _ rfl; subst e4; replace h : some false = some r := hk4; have er := Option.some.inj h; subst er
       try simp -implicitDefEqProofs (disch := omega) [go_sem, Ah, Be]
       refine A2 (by exact A8 (Ext.refl hw)) (by first | with_reducible rfl | (simp -implicitDefEqProofs (disch := omega) [go_sem, Ah, Be] <;> omega)) nbA hK
      ·intro c28 h
       try simp (disch := omega) at c28
       try simp -implicitDefEqProofs (disch := omega) [go_sem, Ah, Be]
       refine A6 h (by first | with_reducible rfl | (simp -implicitDefEqProofs (disch := omega) [go_sem, Ah, Be] <;> omega)) ?_ ?_
       ·intro c27 h
        try simp (disch := omega) at c27
        try simp -implicitDefEqProofs (disch := omega) [go_sem, Ah, Be]
        subst hc13; refine Aw (by first | with_reducible rfl | (simp -implicitDefEqProofs (disch := omega) [go_sem, Ah, Be] <;> omega)) rfl ?_; refine A1 fun cb hc20 => ?_; refine vcK ?_
        try simp -implicitDefEqProofs (disch := omega) [go_sem, Ah, Be]
        subst hc20; refine vcK ?_; simp -implicitDefEqProofs only [go_sem]; have e4 := Option.some.inj h; subst e4; have e4 := hret4 _ rfl; subst e4; replace h : some false = some r := hk4; have er := Option.some.inj h; subst er
        try simp -implicitDefEqProofs (disch := omega) [go_sem, Ah, Be]
        refine A2 (by exact A8 (Ext.refl hw)) (by first | with_reducible rfl | (simp -implicitDefEqProofs (disch := omega) [go_sem, Ah, Be] <;> omega)) nbA hK
       ·intro c27 h
        try simp (disch := omega) at c27
        try simp -implicitDefEqProofs (disch := omega) [go_sem, Ah, Be]
        refine A6 h (by first | with_reducible rfl | (simp -implicitDefEqProofs (disch := omega) [go_sem, Ah, Be] <;> omega)) ?_ ?_
        ·intro c26 h
         try simp (disch := omega) at c26
         try simp -implicitDefEqProofs (disch := omega) [go_sem, Ah, Be]
         subst hc13; refine Aw (by first | with_reducible rfl | (simp -implicitDefEqProofs (disch := omega) [go_sem, Ah, Be] <;> omega)) rfl ?_; refine A1 fun cb hc21 => ?_; refine vcK ?_
         try simp -implicitDefEqProofs (disch := omega) [go_sem, Ah, Be]
         subst hc21; refine vcK ?_; simp -implicitDefEqProofs only [go_sem]; have e4 := Option.some.inj h; subst e4; have e4 := hret4 _ rfl; subst e4; replace h : some false = some r := hk4; have er := Option.some.inj h; subst er
         try simp -implicitDefEqProofs (disch := omega) [go_sem, Ah, Be]
         refine A2 (by exact A8 (Ext.refl hw)) (by first | with_reducible rfl | (simp -implicitDefEqProofs (disch := omega) [go_sem, Ah, Be] <;> omega)) nbA hK
        ·intro c26 h
         try simp (disch := omega) at c26
         try simp -implicitDefEqProofs (disch := omega) [go_sem, Ah, Be]
         refine A6 h (by first | with_reducible rfl | (simp -implicitDefEqProofs (disch := omega) [go_sem, Ah, Be] <;> omega)) ?_ ?_
         ·intro c25 h
          try simp (disch := omega) at c25
          obtain ⟨g22, h⟩ := A7.1 h
          try simp (disch := omega) at g22
          try simp -implicitDefEqProofs (disch := omega) [go_sem, Ah, Be]
          subst hc13; refine Aa h (by first | with_reducible rfl | (simp -implicitDefEqProofs (disch := omega) [go_sem, Ah, Be] <;> omega)) rfl ?_ ?_
          ·intro c23 h
           try simp (disch := omega) at c23
           refine A1 fun cb hc24 => ?_; refine vcK ?_
           try simp -implicitDefEqProofs (disch := omega) [go_sem, Ah, Be]
           subst hc24; refine vcK ?_; simp -implicitDefEqProofs only [go_sem]; have e4 := Option.some.inj h; subst e4; have e4 := hret4 _ rfl; subst e4; replace h : some false = some r := hk4; have er := Option.some.inj h; subst er
           try simp -implicitDefEqProofs (disch := omega) [go_sem, Ah, Be]
           refine A2 (by exact A8 (Ext.refl hw)) (by first | with_reducible rfl | (simp -implicitDefEqProofs (disch := omega) [go_sem, Ah, Be] <;> omega)) nbA hK
          ·intro c23 h
           try simp (disch := omega) at c23
           refine vcK ?_; simp -implicitDefEqProofs only [go_sem]; subst hc10; refine vcK ?_
           try simp -implicitDefEqProofs (disch := omega) [go_sem, Ah, Be]
           have e4 := Option.some.inj h; subst e4; refine Au hI4 (IntKind.i64.wrap (v5 + 1)) ?_; refine .same ⟨rfl, ?_, ?_⟩ <;> first | with_reducible rfl | with_reducible assumption | (simp -implicitDefEqProofs (disch := omega) [go_sem, Ah, Be] <;> omega)
         ·intro c25 h
          try simp (disch := omega) at c25
          try simp -implicitDefEqProofs (disch := omega) [go_sem, Ah, Be]
          subst hc13; refine BN (by first | with_reducible rfl | (simp -implicitDefEqProofs (disch := omega) [go_sem, Ah, Be] <;> omega)) rfl ?_; refine vcK ?_; simp -implicitDefEqProofs only [go_sem]; subst hc10; refine vcK ?_
          try simp -implicitDefEqProofs (disch := omega) [go_sem, Ah, Be]
          have e4 := Option.some.inj h; subst e4; refine Au hI4 (IntKind.i64.wrap (v5 + 1)) ?_; refine .same ⟨rfl, ?_, ?_⟩ <;> first | with_reducible rfl | with_reducible assumption | (simp -implicitDefEqProofs (disch := omega) [go_sem, Ah, Be] <;> omega)
   ·intro c9 h
    try simp (disch := omega) at c9
    refine vcK ?_; simp -implicitDefEqProofs only [go_sem]; have e4 := Option.some.inj h; subst e4; have hy4 := hret4 _ rfl; refine hc4 _ _ ?_; refine .same ⟨hy4, rfl, by first | with_reducible rfl | with_reducible assumption | (simp -implicitDefEqProofs (disch := omega) [go_sem, Ah, Be] <;> omega)⟩
noncomputable def F19 (a0 : S42) : Option Bool :=
 (F47 a0.Ag).bind fun (x3 : Bool) => if x3 = true then ((F48 a0.Ax).bind fun (x4 : Bool) => if x4 = true then ((F44 a0.Aj).bind fun (x5 : Bool) => if x5 = true then (some (decide ((a0.An.length : Int) ≤ 60000))) else (some false)) else (some false)) else (some false)
set_option maxHeartbeats 8000000 in
set_option pp.deepTerms false in
set_option maxRecDepth 60000 in
theorem Tz {H : A0} {K : Am → A0 → Prop} (a0 : S42) {r : Bool} (h : F19 a0 = some r) (hK : K (.ret (.v (.bool r))) H) : A3 prog 19 [.ag ([.v (str a0.Ag), .v (str a0.Ax), .sl 2 (a0.Aj.map fun x => [.v (str x.fName), .v (str x.A5)]), .sl 1 (a0.An.map fun x => [.v (.int .u8 x.toNat)])])] H K := by
 refine A9 (N := 22) func19 (by kernel_rfl) rfl (by kernel_rfl) (by kernel_rfl) fun cb hcb hw hbd hnb => ?_; clear hbd hnb; subst hcb; unfold F19 at h; refine A1 fun cb hc1 => ?_; refine vcK ?_
 try simp -implicitDefEqProofs (disch := omega) [go_sem]
 subst hc1; refine A1 fun cb hc2 => ?_; refine vcK ?_
 try simp -implicitDefEqProofs (disch := omega) [go_sem]
 obtain ⟨x3, hx3, h⟩ := A4 h; refine A3.eqA (args' := [.v (str a0.Ag)]) (by first | with_reducible rfl | (simp -implicitDefEqProofs (disch := omega) [go_sem] <;> omega)) (Tt a0.Ag hx3 ?_)
 try simp -implicitDefEqProofs (disch := omega) [go_sem]
 refine A6 h (by first | with_reducible rfl | (simp -implicitDefEqProofs (disch := omega) [go_sem] <;> omega)) ?_ ?_
 ·intro c8 h
  try simp (disch := omega) at c8
  try simp -implicitDefEqProofs (disch := omega) [go_sem]
  obtain ⟨x4, hx4, h⟩ := A4 h; refine A3.eqA (args' := [.v (str a0.Ax)]) (by first | with_reducible rfl | (simp -implicitDefEqProofs (disch := omega) [go_sem] <;> omega)) (Tu a0.Ax hx4 ?_)
  try simp -implicitDefEqProofs (disch := omega) [go_sem]
  refine A6 h (by first | with_reducible rfl | (simp -implicitDefEqProofs (disch := omega) [go_sem] <;> omega)) ?_ ?_
  ·intro c7 h
   try simp (disch := omega) at c7
   try simp -implicitDefEqProofs (disch := omega) [go_sem]
   obtain ⟨x5, hx5, h⟩ := A4 h; refine A3.eqA (args' := [.sl 2 (a0.Aj.map fun x => [.v (str x.fName), .v (str x.A5)])]) (by first | with_reducible rfl | (simp -implicitDefEqProofs (disch := omega) [go_sem] <;> omega)) (Ty a0.Aj hx5 ?_)
   try simp -implicitDefEqProofs (disch := omega) [go_sem]
   refine A6 h (by first | with_reducible rfl | (simp -implicitDefEqProofs (disch := omega) [go_sem] <;> omega)) ?_ ?_
   ·intro c6 h
    try simp (disch := omega) at c6
    try simp -implicitDefEqProofs (disch := omega) [go_sem]
    subst hc2; refine vcK ?_; simp -implicitDefEqProofs only [go_sem]; have er := Option.some.inj h; subst er
    try simp -implicitDefEqProofs (disch := omega) [go_sem]
    refine A2 (by exact A8 (Ext.refl hw)) (by first | with_reducible rfl | (simp -implicitDefEqProofs (disch := omega) [go_sem] <;> omega)) nbA hK
   ·intro c6 h
    try simp (disch := omega) at c6
    try simp -implicitDefEqProofs (disch := omega) [go_sem]
    subst hc2; refine vcK ?_; simp -implicitDefEqProofs only [go_sem]; have er := Option.some.inj h; subst er
    try simp -implicitDefEqProofs (disch := omega) [go_sem]
    refine A2 (by exact A8 (Ext.refl hw)) (by first | with_reducible rfl | (simp -implicitDefEqProofs (disch := omega) [go_sem] <;> omega)) nbA hK
  ·intro c7 h
   try simp (disch := omega) at c7
   try simp -implicitDefEqProofs (disch := omega) [go_sem]
   subst hc2; refine vcK ?_; simp -implicitDefEqProofs only [go_sem]; have er := Option.some.inj h; subst er
   try simp -implicitDefEqProofs (disch := omega) [go_sem]
   refine A2 (by exact A8 (Ext.refl hw)) (by first | with_reducible rfl | (simp -implicitDefEqProofs (disch := omega) [go_sem] <;> omega)) nbA hK
 ·intro c8 h
  try simp (disch := omega) at c8
  try simp -implicitDefEqProofs (disch := omega) [go_sem]
  subst hc2; refine vcK ?_; simp -implicitDefEqProofs only [go_sem]; have er := Option.some.inj h; subst er
  try simp -implicitDefEqProofs (disch := omega) [go_sem]
  refine A2 (by exact A8 (Ext.refl hw)) (by first | with_reducible rfl | (simp -implicitDefEqProofs (disch := omega) [go_sem] <;> omega)) nbA hK
end Go.Idl
namespace Go.Idl
open Go Go.Proofs.Tryz
noncomputable def F49 (a0 : List UInt8) : Option (Except Unit (S42)) :=
 (F50 a0 ([32])).bind fun (x3 : (List (List UInt8))) => if (x3.length : Int) = 3 then (gd (0 < x3.length) ((F45 (x3.getD 0 [])).bind fun (x6 : Bool) => if x6 = true then (gd (1 < x3.length) ((F46 (x3.getD 1 [])).bind fun (x8 : Bool) => if x8 = true then (gd (2 < x3.length) (if (x3.getD 2 []) = ([72, 84, 84, 80, 47, 49, 46, 49]) then (some ((.ok (⟨x3.getD 0 [], x3.getD 1 [], [], []⟩ : S42)))) else (some (.error ())))) else (some (.error ())))) else (some (.error ())))) else (some (.error ()))
set_option maxHeartbeats 8000000 in
set_option pp.deepTerms false in
set_option maxRecDepth 60000 in
theorem TA {H : A0} {K : Am → A0 → Prop} (a0 : List UInt8) (hV : VOK prog H) {r : Except Unit (S42)} (h : F49 a0 = some r) (hP : ∀ e, r = .error e → K (.pan (C8 e)) H) (hK : ∀ v : S42, r = .ok v → K (.ret (.ag ([.v (str v.Ag), .v (str v.Ax), .sl 2 (v.Aj.map fun x => [.v (str x.fName), .v (str x.A5)]), .sl 1 (v.An.map fun x => [.v (.int .u8 x.toNat)])]))) H) : A3 prog 49 [.v (str a0)] H K := by
 refine A9 (N := 35) func49 (by kernel_rfl) rfl (by kernel_rfl) (by kernel_rfl) fun cb hcb hw hbd hnb => ?_; clear hbd hnb; subst hcb; unfold F49 at h; refine A1 fun cb hc1 => ?_; refine vcK ?_
 try simp -implicitDefEqProofs (disch := omega) [go_sem, bdP]
 subst hc1; refine A1 fun cb hc2 => ?_; refine vcK ?_
 try simp -implicitDefEqProofs (disch := omega) [go_sem, bdP]
 obtain ⟨x3, hx3, h⟩ := A4 h; refine A3.eqA (args' := [.v (str a0), .v (str ([32]))]) (by first | with_reducible rfl | (simp -implicitDefEqProofs (disch := omega) [go_sem, bdP] <;> omega)) (T5 a0 ([32]) (by first | exact hV.of rfl | exact hV.of ((Ext.refl hw)).sn | exact hV.of (Ext.sn (H := H) (by exact A8 (Ext.refl hw))) | exact (VOK.of hV rfl).tok | exact (VOK.of hV ((Ext.refl hw)).sn).tok | exact (VOK.of hV (Ext.sn (H := H) (by exact A8 (Ext.refl hw)))).tok) hx3 ?_)
 try simp -implicitDefEqProofs (disch := omega) [go_sem, bdP]
 subst hc2; refine A1 fun cb hc4 => ?_; refine vcK ?_
 try simp -implicitDefEqProofs (disch := omega) [go_sem, bdP]
 refine A6 h (by first | with_reducible rfl | (simp -implicitDefEqProofs (disch := omega) [go_sem, bdP] <;> omega)) ?_ ?_
 ·intro c14 h
  try simp (disch := omega) at c14
  obtain ⟨g5, h⟩ := A7.1 h
  try simp (disch := omega) at g5
  try simp -implicitDefEqProofs (disch := omega) [go_sem, bdP]
  obtain ⟨x6, hx6, h⟩ := A4 h; refine A3.eqA (args' := [.v (str (x3.getD 0 []))]) (by first | with_reducible rfl | (simp -implicitDefEqProofs (disch := omega) [go_sem, bdP] <;> omega)) (OO (x3.getD 0 []) hx6 ?_)
  try simp -implicitDefEqProofs (disch := omega) [go_sem, bdP]
  refine A6 h (by first | with_reducible rfl | (simp -implicitDefEqProofs (disch := omega) [go_sem, bdP] <;> omega)) ?_ ?_
  ·intro c13 h
   try simp (disch := omega) at c13
   obtain ⟨g7, h⟩ := A7.1 h
   try simp (disch := omega) at g7
   try simp -implicitDefEqProofs (disch := omega) [go_sem, bdP]
   obtain ⟨x8, hx8, h⟩ := A4 h; refine A3.eqA (args' := [.v (str (x3.getD 1 []))]) (by first | with_reducible rfl | (simp -implicitDefEqProofs (disch := omega) [go_sem, bdP] <;> omega)) (OQ (x3.getD 1 []) hx8 ?_)
   try simp -implicitDefEqProofs (disch := omega) [go_sem, bdP]
   refine A6 h (by first | with_reducible rfl | (simp -implicitDefEqProofs (disch := omega) [go_sem, bdP] <;> omega)) ?_ ?_
   ·intro c12 h
    try simp (disch := omega) at c12
    obtain ⟨g9, h⟩ := A7.1 h
    try simp (disch := omega) at g9
    try simp -implicitDefEqProofs (disch := omega) [go_sem, bdP]
    refine A3.eqA (args' := [.v (.bool (decide ((x3.getD 2 []) = ([72, 84, 84, 80, 47, 49, 46, 49]))))]) (by first | with_reducible rfl | (simp -implicitDefEqProofs (disch := omega) [go_sem, bdP] <;> omega)) ?_; by_cases m10 : ¬ ((x3.getD 2 []) = ([72, 84, 84, 80, 47, 49, 46, 49]))
    ·rw [if_neg m10] at h; refine Bf  (by first | simpa using m10 | exact Bool.eq_false_iff.2 (fun q => m10 (by simpa using q))) ?_
     try simp (disch := omega) at m10
     have er := Option.some.inj h; subst er
     try simp -implicitDefEqProofs (disch := omega) [go_sem, bdP]
     exact Bu (by exact Bm (Ext.refl hw)) (Dl.refl _) (hP _ rfl)
    have m10 := Classical.not_not.1 m10; rw [if_pos m10] at h; refine Cv  (by simpa using m10) ?_
    try simp (disch := omega) at m10
    try simp -implicitDefEqProofs (disch := omega) [go_sem, bdP]
    subst hc4; refine A1 fun cb hc11 => ?_; refine BX [] [0, 1, 2, 3, 4, 5, 6, 7] (by kernel_rfl) (by kernel_rfl) (fun _ _ _ _ h => h) ?_
    try simp -implicitDefEqProofs (disch := omega) [go_sem, bdP]
    subst hc11; refine vcK ?_; simp -implicitDefEqProofs only [go_sem]; have er := Option.some.inj h; subst er
    try simp -implicitDefEqProofs (disch := omega) [go_sem, bdP]
    refine AL (J := H) (r' := _) (Ext.Dz (by exact A8 (Ext.refl hw))) (by first | with_reducible rfl | (simp -implicitDefEqProofs (disch := omega) [go_sem, bdP] <;> omega)) (.wk _ (.ag ([.v (str (x3.getD 0 [])), .v (str (x3.getD 1 [])), .sl 2 (([] : List S55).map fun x => [.v (str x.fName), .v (str x.A5)]), .sl 1 (([] : List UInt8).map fun x => [.v (.int .u8 x.toNat)])])) (by repeat (first | exact WkL.nil | refine WkL.cons ?_ ?_ | exact Wk.refl _ | exact Wk.nil _ | refine Wk.agL ?_ | refine Wk.tuL ?_ | (refine Wk.eqv ?_; focus (simp -implicitDefEqProofs (disch := omega) [go_sem, str]; done)))) (by first | exact nbA | exact BP | exact BB)) (hK _ rfl)
   ·intro c12 h
    try simp (disch := omega) at c12
    try simp -implicitDefEqProofs (disch := omega) [go_sem, bdP]
    refine A3.eqA (args' := [.v (.bool false)]) (by first | with_reducible rfl | (simp -implicitDefEqProofs (disch := omega) [go_sem, bdP] <;> omega)) (Bf  rfl ?_); have er := Option.some.inj h; subst er
    try simp -implicitDefEqProofs (disch := omega) [go_sem, bdP]
    exact Bu (by exact Bm (Ext.refl hw)) (Dl.refl _) (hP _ rfl)
  ·intro c13 h
   try simp (disch := omega) at c13
   try simp -implicitDefEqProofs (disch := omega) [go_sem, bdP]
   refine A3.eqA (args' := [.v (.bool false)]) (by first | with_reducible rfl | (simp -implicitDefEqProofs (disch := omega) [go_sem, bdP] <;> omega)) (Bf  rfl ?_); have er := Option.some.inj h; subst er
   try simp -implicitDefEqProofs (disch := omega) [go_sem, bdP]
   exact Bu (by exact Bm (Ext.refl hw)) (Dl.refl _) (hP _ rfl)
 ·intro c14 h
  try simp (disch := omega) at c14
  try simp -implicitDefEqProofs (disch := omega) [go_sem, bdP]
  refine A3.eqA (args' := [.v (.bool false)]) (by first | with_reducible rfl | (simp -implicitDefEqProofs (disch := omega) [go_sem, bdP] <;> omega)) (Bf  rfl ?_); have er := Option.some.inj h; subst er
  try simp -implicitDefEqProofs (disch := omega) [go_sem, bdP]
  exact Bu (by exact Bm (Ext.refl hw)) (Dl.refl _) (hP _ rfl)
noncomputable def F52 (a0 : S42) (a1 : List S55) (a2 : List UInt8) : Option S42 :=
 some (⟨a0.Ag, a0.Ax, a1, a2⟩ : S42)
set_option maxHeartbeats 8000000 in
set_option pp.deepTerms false in
set_option maxRecDepth 60000 in
theorem TB {H : A0} {K : Am → A0 → Prop} (a0 : S42) (a1 : List S55) (a2 : List UInt8) (ka0 : Nat) (Ac : H.obj ka0 = some (.cells ([.v (str a0.Ag), .v (str a0.Ax), .sl 2 (a0.Aj.map fun x => [.v (str x.fName), .v (str x.A5)]), .sl 1 (a0.An.map fun x => [.v (.int .u8 x.toNat)])]))) {r : S42} (h : F52 a0 a1 a2 = some r) (hK : K (.ret (.tu [])) (Dh H [(ka0, .cells ([.v (str r.Ag), .v (str r.Ax), .sl 2 (r.Aj.map fun x => [.v (str x.fName), .v (str x.A5)]), .sl 1 (r.An.map fun x => [.v (.int .u8 x.toNat)])]))])) : A3 prog 52 [.p ka0 0, .sl 2 (a1.map fun x => [.v (str x.fName), .v (str x.A5)]), .sl 1 (a2.map fun x => [.v (.int .u8 x.toNat)])] H K := by
 refine A9 (N := 14) func52 (by kernel_rfl) rfl (by kernel_rfl) (by kernel_rfl) fun cb hcb hw hbd hnb => ?_; clear hbd hnb; subst hcb; unfold F52 at h; have NC : ka0 < H.next := Nat.lt_of_not_le fun q => by rw [hw _ q] at Ac; cases Ac
 refine vcK ?_
 try simp -implicitDefEqProofs (disch := omega) [go_sem, Ac]
 have er := Option.some.inj h; subst er
 try simp -implicitDefEqProofs (disch := omega) [go_sem, Ac]
 refine AL (r' := .tu []) (io1 ka0 (.cells ([.v (str a0.Ag), .v (str a0.Ax), .sl 2 (a1.map fun x => [.v (str x.fName), .v (str x.A5)]), .sl 1 (a2.map fun x => [.v (.int .u8 x.toNat)])])) (by exact A8 (Ext.Ao (Ext.refl hw) ka0)) (by omega) (by first | with_reducible assumption | rfl | simp -implicitDefEqProofs (disch := omega) [go_sem, Ac]) (by first | exact nbA | exact BP | exact BB)) (by first | with_reducible rfl | (simp -implicitDefEqProofs (disch := omega) [go_sem, Ac] <;> omega)) (.same (by first | exact nbA | exact BP | exact BB)) hK
noncomputable def F51 (a0 : List UInt8) : Option (S42 × Int) :=
 (F64 ((⟨(⟨a0⟩ : S98)⟩ : AA))).bind fun (x5 : Except Unit ((List UInt8) × AA)) => orP x5 (fun (ex5 : Unit) => some (((⟨[], [], [], []⟩ : S42), 220))) (fun (y6 : (List UInt8) × AA) => (F49 y6.1).bind fun (x7 : Except Unit (S42)) => orP x7 (fun (ex7 : Unit) => some (((⟨[], [], [], []⟩ : S42), 220))) (fun (y8 : S42) => (F65 y6.2).bind fun (x10 : Except Unit ((List (List UInt8 × (List UInt8))) × AA)) => orP x10 (fun (ex10 : Unit) => some (((⟨[], [], [], []⟩ : S42), 220))) (fun (y11 : (List (List UInt8 × (List UInt8))) × AA) => (F66 y11.2 y11.1).bind fun (x13 : Except Unit ((List UInt8) × AA × (List (List UInt8 × (List UInt8))))) => orP x13 (fun (ex13 : Unit) => some (((⟨[], [], [], []⟩ : S42), 220))) (fun (y14 : (List UInt8) × AA × (List (List UInt8 × (List UInt8)))) => if (y14.2.1.Bb.fb.length : Int) = 0 then ((F67 y14.2.2).bind fun (x16 : (List S55)) => (F27 x16 y14.1).bind fun (x17 : Bool) => if x17 = true then ((F67 y14.2.2).bind fun (x20 : (List S55)) => (F52 y8 x20 y14.1).bind fun (x21 : S42) => some (x21, 0)) else (some (((⟨[], [], [], []⟩ : S42), 220)))) else (some (((⟨[], [], [], []⟩ : S42), 220)))))))
set_option maxHeartbeats 8000000 in
set_option pp.deepTerms false in
set_option maxRecDepth 60000 in
theorem TC {H : A0} {K : Am → A0 → Prop} (a0 : List UInt8) (hV : VOK prog H) {r : S42 × Int} (h : F51 a0 = some r) (hK : K (.ret (.tu [.ag ([.v (str r.1.Ag), .v (str r.1.Ax), .sl 2 (r.1.Aj.map fun x => [.v (str x.fName), .v (str x.A5)]), .sl 1 (r.1.An.map fun x => [.v (.int .u8 x.toNat)])]), .v (.int .i64 r.2)])) H) : A3 prog 51 [.sl 1 (a0.map fun x => [.v (.int .u8 x.toNat)]), .v (.func (.func 49) #[] #[]), .v (.func (.func 52) #[] #[])] H K := by
 refine Iv (N := 45) func51 (by kernel_rfl) rfl (by kernel_rfl) (by kernel_rfl) fun cb hcb hw => ?_; subst hcb; unfold F51 at h; refine EL fun cb hc1 => ?_; refine Fl.of ?_; refine vcK ?_
 try simp -implicitDefEqProofs (disch := omega) [go_sem, bdP]
 subst hc1; refine EL fun cb hc2 => ?_; refine G_ (by kernel_rfl) ?_; simp (decide := true) only [G0, Js, Iw]
 try simp -implicitDefEqProofs (disch := omega) [go_sem, bdP]
 subst hc2; refine Fl.of ?_; refine A1 fun cb hc3 => ?_; refine vcK ?_
 try simp -implicitDefEqProofs (disch := omega) [go_sem, bdP]
 subst hc3; refine A1 fun cb hc4 => ?_; refine vcK ?_
 try simp -implicitDefEqProofs (disch := omega) [go_sem, bdP]
 obtain ⟨x5, hx5, h⟩ := A4 h; refine A3.eqA (args' := [.p (H.next + 2) 0]) (by first | with_reducible rfl | (simp -implicitDefEqProofs (disch := omega) [go_sem, bdP] <;> omega)) (Fy ((⟨(⟨a0⟩ : S98)⟩ : AA)) (H.next + 2) (by first | with_reducible assumption | simp -implicitDefEqProofs (disch := omega) [go_sem, bdP]) (by first | exact hV.of rfl | exact hV.of ((Ext.refl hw)).sn | exact hV.of (Ext.sn (H := H) (by exact A8 (Ext.refl hw))) | exact (VOK.of hV rfl).tok | exact (VOK.of hV ((Ext.refl hw)).sn).tok | exact (VOK.of hV (Ext.sn (H := H) (by exact A8 (Ext.refl hw)))).tok) hx5 ?_ ?_)
 ·intro ex5 qx5; subst qx5; replace h := AP h; have er := Option.some.inj h; subst er
  try simp -implicitDefEqProofs (disch := omega) [go_sem, bdP]
  refine Cc ?_; refine AV.eqA (args' := [.p H.next 0, .p (H.next + 1) 0]) (by first | with_reducible rfl | (simp -implicitDefEqProofs (disch := omega) [go_sem, bdP]; done) | rfl) (ES H.next (H.next + 1) (.v (str [])) (.v (str [])) (.v (.slice none 0 0)) (.v (.slice none 0 0)) (.v (.int .i64 0)) (by first | with_reducible assumption | simp -implicitDefEqProofs (disch := omega) [go_sem, bdP]) (by first | with_reducible assumption | simp -implicitDefEqProofs (disch := omega) [go_sem, bdP]) (by first | omega | (simp [go_sem]; done) | (simp [go_sem]; omega)) ?_)
  try simp -implicitDefEqProofs (disch := omega) [go_sem, bdP]
  refine AL (J := H) (r' := _) (Ext.Dz (by exact A8 (Ext.refl hw))) (by first | with_reducible rfl | (simp -implicitDefEqProofs (disch := omega) [go_sem, bdP] <;> omega)) (.wk _ (.tu [.ag ([.v (str []), .v (str []), .sl 2 (([] : List S55).map fun x => [.v (str x.fName), .v (str x.A5)]), .sl 1 (([] : List UInt8).map fun x => [.v (.int .u8 x.toNat)])]), .v (.int .i64 220)]) (by repeat (first | exact WkL.nil | refine WkL.cons ?_ ?_ | exact Wk.refl _ | exact Wk.nil _ | refine Wk.agL ?_ | refine Wk.tuL ?_ | (refine Wk.eqv ?_; focus (simp -implicitDefEqProofs (disch := omega) [go_sem, str]; done)))) (by first | exact nbA | exact BP | exact BB)) hK
 intro y6 qx5; subst qx5; replace h := B6 h
 try simp -implicitDefEqProofs (disch := omega) [go_sem, bdP]
 obtain ⟨x7, hx7, h⟩ := A4 h; refine A3.eqA (args' := [.v (str y6.1)]) (by first | with_reducible rfl | (simp -implicitDefEqProofs (disch := omega) [go_sem, bdP] <;> omega)) (TA y6.1 (by first | exact hV.of rfl | exact hV.of ((Ext.refl hw)).sn | exact hV.of (Ext.sn (H := H) (by exact A8 (Ext.refl hw))) | exact (VOK.of hV rfl).tok | exact (VOK.of hV ((Ext.refl hw)).sn).tok | exact (VOK.of hV (Ext.sn (H := H) (by exact A8 (Ext.refl hw)))).tok) hx7 ?_ ?_)
 ·intro ex7 qx7; subst qx7; replace h := AP h; have er := Option.some.inj h; subst er
  try simp -implicitDefEqProofs (disch := omega) [go_sem, bdP]
  refine Cc ?_; refine AV.eqA (args' := [.p H.next 0, .p (H.next + 1) 0]) (by first | with_reducible rfl | (simp -implicitDefEqProofs (disch := omega) [go_sem, bdP]; done) | rfl) (ES H.next (H.next + 1) (.v (str [])) (.v (str [])) (.v (.slice none 0 0)) (.v (.slice none 0 0)) (.v (.int .i64 0)) (by first | with_reducible assumption | simp -implicitDefEqProofs (disch := omega) [go_sem, bdP]) (by first | with_reducible assumption | simp -implicitDefEqProofs (disch := omega) [go_sem, bdP]) (by first | omega | (simp [go_sem]; done) | (simp [go_sem]; omega)) ?_)
  try simp -implicitDefEqProofs (disch := omega) [go_sem, bdP]
  refine AL (J := H) (r' := _) (Ext.Dz (by exact A8 (Ext.refl hw))) (by first | with_reducible rfl | (simp -implicitDefEqProofs (disch := omega) [go_sem, bdP] <;> omega)) (.wk _ (.tu [.ag ([.v (str []), .v (str []), .sl 2 (([] : List S55).map fun x => [.v (str x.fName), .v (str x.A5)]), .sl 1 (([] : List UInt8).map fun x => [.v (.int .u8 x.toNat)])]), .v (.int .i64 220)]) (by repeat (first | exact WkL.nil | refine WkL.cons ?_ ?_ | exact Wk.refl _ | exact Wk.nil _ | refine Wk.agL ?_ | refine Wk.tuL ?_ | (refine Wk.eqv ?_; focus (simp -implicitDefEqProofs (disch := omega) [go_sem, str]; done)))) (by first | exact nbA | exact BP | exact BB)) hK
 intro y8 qx7; subst qx7; replace h := B6 h
 try simp -implicitDefEqProofs (disch := omega) [go_sem, bdP]
 subst hc4; refine A1 fun cb hc9 => ?_; refine vcK ?_
 try simp -implicitDefEqProofs (disch := omega) [go_sem, bdP]
 obtain ⟨x10, hx10, h⟩ := A4 h; refine A3.eqA (args' := [.p (H.next + 2) 0]) (by first | with_reducible rfl | (simp -implicitDefEqProofs (disch := omega) [go_sem, bdP] <;> omega)) (P4 y6.2 (H.next + 2) (by first | with_reducible assumption | simp -implicitDefEqProofs (disch := omega) [go_sem, bdP]) (by first | exact hV.of rfl | exact hV.of ((Ext.refl hw)).sn | exact hV.of (Ext.sn (H := H) (by exact A8 (Ext.refl hw))) | exact (VOK.of hV rfl).tok | exact (VOK.of hV ((Ext.refl hw)).sn).tok | exact (VOK.of hV (Ext.sn (H := H) (by exact A8 (Ext.refl hw)))).tok) hx10 ?_ ?_)
 ·intro ex10 qx10; subst qx10; replace h := AP h; have er := Option.some.inj h; subst er
  try simp -implicitDefEqProofs (disch := omega) [go_sem, bdP]
  refine Cc ?_; refine AV.eqA (args' := [.p H.next 0, .p (H.next + 1) 0]) (by first | with_reducible rfl | (simp -implicitDefEqProofs (disch := omega) [go_sem, bdP]; done) | rfl) (ES H.next (H.next + 1) (.v (str y8.Ag)) (.v (str y8.Ax)) (.sl 2 (y8.Aj.map fun x => [.v (str x.fName), .v (str x.A5)])) (.sl 1 (y8.An.map fun x => [.v (.int .u8 x.toNat)])) (.v (.int .i64 0)) (by first | with_reducible assumption | simp -implicitDefEqProofs (disch := omega) [go_sem, bdP]) (by first | with_reducible assumption | simp -implicitDefEqProofs (disch := omega) [go_sem, bdP]) (by first | omega | (simp [go_sem]; done) | (simp [go_sem]; omega)) ?_)
  try simp -implicitDefEqProofs (disch := omega) [go_sem, bdP]
  refine AL (J := H) (r' := _) (Ext.Dz (by exact A8 (Ext.refl hw))) (by first | with_reducible rfl | (simp -implicitDefEqProofs (disch := omega) [go_sem, bdP] <;> omega)) (.wk _ (.tu [.ag ([.v (str []), .v (str []), .sl 2 (([] : List S55).map fun x => [.v (str x.fName), .v (str x.A5)]), .sl 1 (([] : List UInt8).map fun x => [.v (.int .u8 x.toNat)])]), .v (.int .i64 220)]) (by repeat (first | exact WkL.nil | refine WkL.cons ?_ ?_ | exact Wk.refl _ | exact Wk.nil _ | refine Wk.agL ?_ | refine Wk.tuL ?_ | (refine Wk.eqv ?_; focus (simp -implicitDefEqProofs (disch := omega) [go_sem, str]; done)))) (by first | exact nbA | exact BP | exact BB)) hK
 intro y11 qx10; subst qx10; replace h := B6 h
 try simp -implicitDefEqProofs (disch := omega) [go_sem, bdP]
 subst hc9; refine A1 fun cb hc12 => ?_; refine vcK ?_
 try simp -implicitDefEqProofs (disch := omega) [go_sem, bdP]
 obtain ⟨x13, hx13, h⟩ := A4 h; refine A3.eqA (args' := [.p (H.next + 2) 0, .mp (H.next + 3)]) (by first | with_reducible rfl | (simp -implicitDefEqProofs (disch := omega) [go_sem, bdP] <;> omega)) (P6 y11.2 y11.1 (H.next + 2) (H.next + 3) (by first | with_reducible assumption | simp -implicitDefEqProofs (disch := omega) [go_sem, bdP]) (by first | with_reducible assumption | simp -implicitDefEqProofs (disch := omega) [go_sem, bdP]) (by first | exact hV.of rfl | exact hV.of ((Ext.refl hw)).sn | exact hV.of (Ext.sn (H := H) (by exact A8 (Ext.refl hw))) | exact (VOK.of hV rfl).tok | exact (VOK.of hV ((Ext.refl hw)).sn).tok | exact (VOK.of hV (Ext.sn (H := H) (by exact A8 (Ext.refl hw)))).tok) hx13 ?_ ?_)
 ·intro ex13 qx13; subst qx13; replace h := AP h; have er := Option.some.inj h; subst er
  try simp -implicitDefEqProofs (disch := omega) [go_sem, bdP]
  refine Cc ?_; refine AV.eqA (args' := [.p H.next 0, .p (H.next + 1) 0]) (by first | with_reducible rfl | (simp -implicitDefEqProofs (disch := omega) [go_sem, bdP]; done) | rfl) (ES H.next (H.next + 1) (.v (str y8.Ag)) (.v (str y8.Ax)) (.sl 2 (y8.Aj.map fun x => [.v (str x.fName), .v (str x.A5)])) (.sl 1 (y8.An.map fun x => [.v (.int .u8 x.toNat)])) (.v (.int .i64 0)) (by first | with_reducible assumption | simp -implicitDefEqProofs (disch := omega) [go_sem, bdP]) (by first | with_reducible assumption | simp -implicitDefEqProofs (disch := omega) [go_sem, bdP]) (by first | omega | (simp [go_sem]; done) | (simp [go_sem]; omega)) ?_)
  try simp -implicitDefEqProofs (disch := omega) [go_sem, bdP]
  refine AL (J := H) (r' := _) (Ext.Dz (by exact A8 (Ext.refl hw))) (by first | with_reducible rfl | (simp -implicitDefEqProofs (disch := omega) [go_sem, bdP] <;> omega)) (.wk _ (.tu [.ag ([.v (str []), .v (str []), .sl 2 (([] : List S55).map fun x => [.v (str x.fName), .v (str x.A5)]), .sl 1 (([] : List UInt8).map fun x => [.v (.int .u8 x.toNat)])]), .v (.int .i64 220)]) (by repeat (first | exact WkL.nil | refine WkL.cons ?_ ?_ | exact Wk.refl _ | exact Wk.nil _ | refine Wk.agL ?_ | refine Wk.tuL ?_ | (refine Wk.eqv ?_; focus (simp -implicitDefEqProofs (disch := omega) [go_sem, str]; done)))) (by first | exact nbA | exact BP | exact BB)) hK
 intro y14 qx13; subst qx13; replace h := B6 h
 try simp -implicitDefEqProofs (disch := omega) [go_sem, bdP]
 subst hc12; refine A1 fun cb hc15 => ?_; refine vcK ?_
 try simp -implicitDefEqProofs (disch := omega) [go_sem, bdP]
 refine A6 h (by first | with_reducible rfl | (simp -implicitDefEqProofs (disch := omega) [go_sem, bdP] <;> omega)) ?_ ?_
 ·intro c23 h
  try simp (disch := omega) at c23
  try simp -implicitDefEqProofs (disch := omega) [go_sem, bdP]
  obtain ⟨x16, hx16, h⟩ := A4 h; refine A3.eqA (args' := [.mp (H.next + 3)]) (by first | with_reducible rfl | (simp -implicitDefEqProofs (disch := omega) [go_sem, bdP] <;> omega)) (K9 y14.2.2 (H.next + 3) (by first | with_reducible assumption | simp -implicitDefEqProofs (disch := omega) [go_sem, bdP]) hx16 ?_)
  try simp -implicitDefEqProofs (disch := omega) [go_sem, bdP]
  obtain ⟨x17, hx17, h⟩ := A4 h; refine A3.eqA (args' := [.sl 2 (x16.map fun x => [.v (str x.fName), .v (str x.A5)]), .sl 1 (y14.1.map fun x => [.v (.int .u8 x.toNat)])]) (by first | with_reducible rfl | (simp -implicitDefEqProofs (disch := omega) [go_sem, bdP] <;> omega)) (Mh x16 y14.1 hx17 ?_)
  try simp -implicitDefEqProofs (disch := omega) [go_sem, bdP]
  refine A3.eqA (args' := [.v (.bool x17)]) (by first | with_reducible rfl | (simp -implicitDefEqProofs (disch := omega) [go_sem, bdP] <;> omega)) ?_; by_cases m18 : ¬ (x17 = true)
  ·rw [if_neg m18] at h; refine Bf  (by first | simpa using m18 | exact Bool.eq_false_iff.2 (fun q => m18 (by simpa using q))) ?_
   try simp (disch := omega) at m18
   have er := Option.some.inj h; subst er
   try simp -implicitDefEqProofs (disch := omega) [go_sem, bdP]
   refine Cc ?_; refine AV.eqA (args' := [.p H.next 0, .p (H.next + 1) 0]) (by first | with_reducible rfl | (simp -implicitDefEqProofs (disch := omega) [go_sem, bdP]; done) | rfl) (ES H.next (H.next + 1) (.v (str y8.Ag)) (.v (str y8.Ax)) (.sl 2 (y8.Aj.map fun x => [.v (str x.fName), .v (str x.A5)])) (.sl 1 (y8.An.map fun x => [.v (.int .u8 x.toNat)])) (.v (.int .i64 0)) (by first | with_reducible assumption | simp -implicitDefEqProofs (disch := omega) [go_sem, bdP]) (by first | with_reducible assumption | simp -implicitDefEqProofs (disch := omega) [go_sem, bdP]) (by first | omega | (simp [go_sem]; done) | (simp [go_sem]; omega)) ?_)
   try simp -implicitDefEqProofs (disch := omega) [go_sem, bdP]
   refine AL (J := H) (r' := _) (Ext.Dz (by exact A8 (Ext.refl hw))) (by first | with_reducible rfl | (simp -implicitDefEqProofs (disch := omega) [go_sem, bdP] <;> omega)) (.wk _ (.tu [.ag ([.v (str []), .v (str []), .sl 2 (([] : List S55).map fun x => [.v (str x.fName), .v (str x.A5)]), .sl 1 (([] : List UInt8).map fun x => [.v (.int .u8 x.toNat)])]), .v (.int .i64 220)]) (by repeat (first | exact WkL.nil | refine WkL.cons ?_ ?_ | exact Wk.refl _ | exact Wk.nil _ | refine Wk.agL ?_ | refine Wk.tuL ?_ | (refine Wk.eqv ?_; focus (simp -implicitDefEqProofs (disch := omega) [go_sem, str]; done)))) (by first | exact nbA | exact BP | exact BB)) hK
  have m18 := Classical.not_not.1 m18; rw [if_pos m18] at h; refine Cv  (by simpa using m18) ?_
  try simp (disch := omega) at m18
  try simp -implicitDefEqProofs (disch := omega) [go_sem, bdP]
  subst hc15; refine A1 fun cb hc19 => ?_; refine vcK ?_
  try simp -implicitDefEqProofs (disch := omega) [go_sem, bdP]
  obtain ⟨x20, hx20, h⟩ := A4 h; refine A3.eqA (args' := [.mp (H.next + 3)]) (by first | with_reducible rfl | (simp -implicitDefEqProofs (disch := omega) [go_sem, bdP] <;> omega)) (K9 y14.2.2 (H.next + 3) (by first | with_reducible assumption | simp -implicitDefEqProofs (disch := omega) [go_sem, bdP]) hx20 ?_)
  try simp -implicitDefEqProofs (disch := omega) [go_sem, bdP]
  obtain ⟨x21, hx21, h⟩ := A4 h; refine A3.eqA (args' := [.p H.next 0, .sl 2 (x20.map fun x => [.v (str x.fName), .v (str x.A5)]), .sl 1 (y14.1.map fun x => [.v (.int .u8 x.toNat)])]) (by first | with_reducible rfl | (simp -implicitDefEqProofs (disch := omega) [go_sem, bdP] <;> omega)) (TB y8 x20 y14.1 H.next (by first | with_reducible assumption | simp -implicitDefEqProofs (disch := omega) [go_sem, bdP]) hx21 ?_)
  try simp -implicitDefEqProofs (disch := omega) [go_sem, bdP]
  subst hc19; refine A1 fun cb hc22 => ?_; refine vcK ?_
  try simp -implicitDefEqProofs (disch := omega) [go_sem, bdP]
  subst hc22; refine vcK ?_; simp -implicitDefEqProofs only [go_sem]; have er := Option.some.inj h; subst er
  try simp -implicitDefEqProofs (disch := omega) [go_sem, bdP]
  refine MR ?_; refine AV.eqA (args' := [.p H.next 0, .p (H.next + 1) 0]) (by first | with_reducible rfl | (simp -implicitDefEqProofs (disch := omega) [go_sem, bdP]; done) | rfl) (QE ?_)
  try simp -implicitDefEqProofs (disch := omega) [go_sem, bdP]
  refine A2 (by exact A8 (Ext.refl hw)) (by first | with_reducible rfl | (simp -implicitDefEqProofs (disch := omega) [go_sem, bdP] <;> omega)) nbA hK
 ·intro c23 h
  try simp (disch := omega) at c23
  try simp -implicitDefEqProofs (disch := omega) [go_sem, bdP]
  refine A3.eqA (args' := [.v (.bool false)]) (by first | with_reducible rfl | (simp -implicitDefEqProofs (disch := omega) [go_sem, bdP] <;> omega)) (Bf  rfl ?_); have er := Option.some.inj h; subst er
  try simp -implicitDefEqProofs (disch := omega) [go_sem, bdP]
  refine Cc ?_; refine AV.eqA (args' := [.p H.next 0, .p (H.next + 1) 0]) (by first | with_reducible rfl | (simp -implicitDefEqProofs (disch := omega) [go_sem, bdP]; done) | rfl) (ES H.next (H.next + 1) (.v (str y8.Ag)) (.v (str y8.Ax)) (.sl 2 (y8.Aj.map fun x => [.v (str x.fName), .v (str x.A5)])) (.sl 1 (y8.An.map fun x => [.v (.int .u8 x.toNat)])) (.v (.int .i64 0)) (by first | with_reducible assumption | simp -implicitDefEqProofs (disch := omega) [go_sem, bdP]) (by first | with_reducible assumption | simp -implicitDefEqProofs (disch := omega) [go_sem, bdP]) (by first | omega | (simp [go_sem]; done) | (simp [go_sem]; omega)) ?_)
  try simp -implicitDefEqProofs (disch := omega) [go_sem, bdP]
  refine AL (J := H) (r' := _) (Ext.Dz (by exact A8 (Ext.refl hw))) (by first | with_reducible rfl | (simp -implicitDefEqProofs (disch := omega) [go_sem, bdP] <;> omega)) (.wk _ (.tu [.ag ([.v (str []), .v (str []), .sl 2 (([] : List S55).map fun x => [.v (str x.fName), .v (str x.A5)]), .sl 1 (([] : List UInt8).map fun x => [.v (.int .u8 x.toNat)])]), .v (.int .i64 220)]) (by repeat (first | exact WkL.nil | refine WkL.cons ?_ ?_ | exact Wk.refl _ | exact Wk.nil _ | refine Wk.agL ?_ | refine Wk.tuL ?_ | (refine Wk.eqv ?_; focus (simp -implicitDefEqProofs (disch := omega) [go_sem, str]; done)))) (by first | exact nbA | exact BP | exact BB)) hK
noncomputable def F20 (a0 : List UInt8) : Option (Except Unit (S42 × Int)) :=
 (F51 a0).bind fun (x4 : S42 × Int) => some ((.ok (x4.1, x4.2)))
set_option maxHeartbeats 8000000 in
set_option pp.deepTerms false in
set_option maxRecDepth 60000 in
theorem TD {H : A0} {K : Am → A0 → Prop} (a0 : List UInt8) (hV : VOK prog H) {r : Except Unit (S42 × Int)} (h : F20 a0 = some r) (hP : ∀ e, r = .error e → K (.pan (C8 e)) H) (hK : ∀ v : S42 × Int, r = .ok v → K (.ret (.tu [.ag ([.v (str v.1.Ag), .v (str v.1.Ax), .sl 2 (v.1.Aj.map fun x => [.v (str x.fName), .v (str x.A5)]), .sl 1 (v.1.An.map fun x => [.v (.int .u8 x.toNat)])]), .v (.int .i64 v.2)])) H) : A3 prog 20 [.sl 1 (a0.map fun x => [.v (.int .u8 x.toNat)])] H K := by
 refine A9 (N := 10) func20 (by kernel_rfl) rfl (by kernel_rfl) (by kernel_rfl) fun cb hcb hw hbd hnb => ?_; clear hbd hnb; subst hcb; unfold F20 at h; refine A1 fun cb hc1 => ?_; refine vcK ?_
 try simp -implicitDefEqProofs (disch := omega) [go_sem]
 subst hc1; refine A1 fun cb hc2 => ?_; refine vcK ?_
 try simp -implicitDefEqProofs (disch := omega) [go_sem]
 subst hc2; refine A1 fun cb hc3 => ?_; refine vcK ?_
 try simp -implicitDefEqProofs (disch := omega) [go_sem]
 obtain ⟨x4, hx4, h⟩ := A4 h; refine A3.eqA (args' := [.sl 1 (a0.map fun x => [.v (.int .u8 x.toNat)]), .v (.func (.func 49) #[] #[]), .v (.func (.func 52) #[] #[])]) (by first | with_reducible rfl | (simp -implicitDefEqProofs (disch := omega) [go_sem] <;> omega)) (TC a0 (by first | exact hV.of rfl | exact hV.of ((Ext.refl hw)).sn | exact hV.of (Ext.sn (H := H) (by exact A8 (Ext.refl hw))) | exact (VOK.of hV rfl).tok | exact (VOK.of hV ((Ext.refl hw)).sn).tok | exact (VOK.of hV (Ext.sn (H := H) (by exact A8 (Ext.refl hw)))).tok) hx4 ?_)
 try simp -implicitDefEqProofs (disch := omega) [go_sem]
 subst hc3; refine vcK ?_; simp -implicitDefEqProofs only [go_sem]; have er := Option.some.inj h; subst er
 try simp -implicitDefEqProofs (disch := omega) [go_sem]
 refine A2 (by exact A8 (Ext.refl hw)) (by first | with_reducible rfl | (simp -implicitDefEqProofs (disch := omega) [go_sem] <;> omega)) nbA (hK _ rfl)
noncomputable def GG (v4 : Int) (v5 : List UInt8) : Option ((Int × (List UInt8)) ⊕ (List UInt8)) :=
 gd (0 ≤ (IntKind.u8.wrap (IntKind.i64.wrap (48 + (v4.tmod 10)))) ∧ (IntKind.u8.wrap (IntKind.i64.wrap (48 + (v4.tmod 10)))) ≤ 255) (gd (((([UInt8.ofNat (IntKind.u8.wrap (IntKind.i64.wrap (48 + (v4.tmod 10)))).toNat] : List UInt8)).length : Int) + v5.length ≤ 9223372036854775807) (if (IntKind.i64.wrap (v4.tdiv 10)) = 0 then (some (.inr ((([UInt8.ofNat (IntKind.u8.wrap (IntKind.i64.wrap (48 + (v4.tmod 10)))).toNat] : List UInt8)) ++ v5))) else (some (.inl ((IntKind.i64.wrap (v4.tdiv 10), (([UInt8.ofNat (IntKind.u8.wrap (IntKind.i64.wrap (48 + (v4.tmod 10)))).toNat] : List UInt8)) ++ v5))))))
noncomputable def F39 (a0 : Int) : Option (List UInt8) :=
 (B3 (fun (s : Int × (List UInt8)) => GG s.1 s.2) (a0, [])).bind fun (q : (List UInt8)) => some q
set_option maxHeartbeats 8000000 in
set_option pp.deepTerms false in
set_option maxRecDepth 60000 in
theorem TE {H : A0} {K : Am → A0 → Prop} (a0 : Int) {r : (List UInt8)} (h : F39 a0 = some r) (hK : K (.ret (.v (str r))) H) : A3 prog 39 [.v (.int .i64 a0)] H K := by
 refine A9 (N := 17) func39 (by kernel_rfl) rfl (by kernel_rfl) (by kernel_rfl) fun cb hcb hw hbd hnb => ?_; clear hbd hnb; subst hcb; unfold F39 at h; refine A1 fun cb hc1 => ?_; refine vcK ?_
 try simp -implicitDefEqProofs (disch := omega) [go_sem]
 subst hc1; refine A1 fun cb hc2 => ?_; refine vcK ?_
 try simp -implicitDefEqProofs (disch := omega) [go_sem]
 subst hc2; obtain ⟨y3, hl3q, hk3⟩ := A4 h; refine Af ?_; refine AN (fun (s : Int × (List UInt8)) tm' H' => H = H' ∧ tm' 0 = .v (.int .i64 s.1) ∧ tm' 3 = .v (str s.2)) hl3q ?_ ?_
 ·refine .same ⟨rfl, ?_, ?_⟩ <;> first | with_reducible rfl | with_reducible assumption | (simp -implicitDefEqProofs (disch := omega) [go_sem] <;> omega)
 ·rintro I3 hI3 ⟨v4, v5⟩ x3 tm3 H3 ⟨rfl, AR, AS⟩ h hret3
  replace h : GG v4 v5 = some x3 := h; unfold GG at h; refine Af ?_; refine A1 fun cb hc6 => ?_; refine vcK ?_; obtain ⟨g7, h⟩ := A7.1 h
  try simp (disch := omega) at g7
  obtain ⟨g8, h⟩ := A7.1 h
  try simp (disch := omega) at g8
  try simp -implicitDefEqProofs (disch := omega) [go_sem] at g7
  try simp -implicitDefEqProofs (disch := omega) [go_sem] at g8
  try simp -implicitDefEqProofs (disch := omega) [go_sem, AR, AS]
  subst hc6; refine A1 fun cb hc9 => ?_; refine vcK ?_
  try simp -implicitDefEqProofs (disch := omega) [go_sem, AR, AS]
  subst hc9; refine A1 fun cb hc10 => ?_; refine vcK ?_
  try simp -implicitDefEqProofs (disch := omega) [go_sem, AR, AS]
  subst hc10; refine Aa h (by first | with_reducible rfl | (simp -implicitDefEqProofs (disch := omega) [go_sem, AR, AS] <;> omega)) rfl ?_ ?_
  ·intro c11 h
   try simp (disch := omega) at c11
   refine A1 fun cb hc12 => ?_; refine vcK ?_
   try simp -implicitDefEqProofs (disch := omega) [go_sem, AR, AS]
   subst hc12; refine vcK ?_; simp -implicitDefEqProofs only [go_sem]; have e3 := Option.some.inj h; subst e3; have e3 := hret3 _ rfl; subst e3; replace h : some ((([UInt8.ofNat (IntKind.u8.wrap (IntKind.i64.wrap (48 + (v4.tmod 10)))).toNat] : List UInt8)) ++ v5) = some r := hk3; have er := Option.some.inj h; subst er
   try simp -implicitDefEqProofs (disch := omega) [go_sem, AR, AS]
   refine A2 (by exact A8 (Ext.refl hw)) (by first | with_reducible rfl | (simp -implicitDefEqProofs (disch := omega) [go_sem, AR, AS] <;> omega)) nbA hK
  ·intro c11 h
   try simp (disch := omega) at c11
   refine vcK ?_; simp -implicitDefEqProofs only [go_sem]; have e3 := Option.some.inj h; subst e3; refine Au hI3 ((IntKind.i64.wrap (v4.tdiv 10), (([UInt8.ofNat (IntKind.u8.wrap (IntKind.i64.wrap (48 + (v4.tmod 10)))).toNat] : List UInt8)) ++ v5)) ?_; refine .same ⟨rfl, ?_, ?_⟩ <;> first | with_reducible rfl | with_reducible assumption | (simp -implicitDefEqProofs (disch := omega) [go_sem, AR, AS] <;> omega)
noncomputable def Mp (a2 : List UInt8) (v11 : List UInt8) : Option (List UInt8) :=
 gd ((a2.length : Int) + (([13, 10, 13, 10]) : List UInt8).length ≤ 9223372036854775807) (gd ((v11.length + (a2 ++ (([13, 10, 13, 10]) : List UInt8)).length) * 1 ≤ 140737488355328) (some (v11 ++ (a2 ++ (([13, 10, 13, 10]) : List UInt8)))))
noncomputable def Mq (a1 : List S55) (v8 : List UInt8) (v10 : Int) : Option (((List UInt8) × Int) ⊕ (List UInt8)) :=
 if v10 < (a1.length : Int) then (gd (0 ≤ v10 ∧ v10 < a1.length) (gd ((((a1.getD v10.toNat S55.zero).fName).length : Int) + (([58, 32]) : List UInt8).length ≤ 9223372036854775807) (gd (((((a1.getD v10.toNat S55.zero).fName) ++ (([58, 32]) : List UInt8)).length : Int) + ((a1.getD v10.toNat S55.zero).A5).length ≤ 9223372036854775807) (gd ((((((a1.getD v10.toNat S55.zero).fName) ++ (([58, 32]) : List UInt8)) ++ ((a1.getD v10.toNat S55.zero).A5)).length : Int) + (([13, 10]) : List UInt8).length ≤ 9223372036854775807) (gd ((v8.length + (((((a1.getD v10.toNat S55.zero).fName) ++ (([58, 32]) : List UInt8)) ++ ((a1.getD v10.toNat S55.zero).A5)) ++ (([13, 10]) : List UInt8)).length) * 1 ≤ 140737488355328) (some (.inl ((v8 ++ (((((a1.getD v10.toNat S55.zero).fName) ++ (([58, 32]) : List UInt8)) ++ ((a1.getD v10.toNat S55.zero).A5)) ++ (([13, 10]) : List UInt8)), IntKind.i64.wrap (v10 + 1)))))))))) else (some (.inr v8))
noncomputable def F38 (a0 : List UInt8) (a1 : List S55) (a2 : List UInt8) : Option (List UInt8) :=
 gd ((a0.length : Int) + (([13, 10]) : List UInt8).length ≤ 9223372036854775807) (gd (((a0 ++ (([13, 10]) : List UInt8)).length : Int) ≤ 9223372036854775807) ((B3 (fun (s : (List UInt8) × Int) => Mq a1 s.1 s.2) (((a0 ++ (([13, 10]) : List UInt8))), 0)).bind fun (e : (List UInt8)) => Mp a2 e))
set_option maxHeartbeats 8000000 in
set_option pp.deepTerms false in
set_option maxRecDepth 60000 in
theorem XW {H : A0} {K : Am → A0 → Prop} (a0 : List UInt8) (a1 : List S55) (a2 : List UInt8) {r : (List UInt8)} (h : F38 a0 a1 a2 = some r) (hK : K (.ret (.sl 1 (r.map fun x => [.v (.int .u8 x.toNat)]))) H) : A3 prog 38 [.v (str a0), .sl 2 (a1.map fun x => [.v (str x.fName), .v (str x.A5)]), .v (str a2)] H K := by
 refine A9 (N := 37) func38 (by kernel_rfl) rfl (by kernel_rfl) (by kernel_rfl) fun cb hcb hw hbd hnb => ?_; clear hbd hnb; subst hcb; unfold F38 at h; refine A1 fun cb hc1 => ?_; refine vcK ?_
 try simp -implicitDefEqProofs (disch := omega) [go_sem]
 subst hc1; refine A1 fun cb hc2 => ?_; refine Ch [false, false, true] (by kernel_rfl) ?_; obtain ⟨g3, h⟩ := A7.1 h
 try simp (disch := omega) at g3
 obtain ⟨g4, h⟩ := A7.1 h
 try simp (disch := omega) at g4
 try simp -implicitDefEqProofs (disch := omega) [go_sem]
 refine Iz (a0 ++ (([13, 10]) : List UInt8)) rfl (by kernel_rfl) underlying9 underlying23 underlying5 (by first | with_reducible rfl | (simp -implicitDefEqProofs (disch := omega) [go_sem]; done) | rfl) (by first | omega | decide | (simp; omega)) ?_
 try simp -implicitDefEqProofs (disch := omega) [go_sem]
 subst hc2; refine A1 fun cb hc5 => ?_; refine A1 fun cb hc6 => ?_; refine vcK ?_
 try simp -implicitDefEqProofs (disch := omega) [go_sem]
 subst hc6; obtain ⟨y7, hl7q, hk7⟩ := A4 h; refine AW (fun tm' H' => ∃ n12 : Nat, ∃ v11 : List UInt8, v11 = y7 ∧ Ext H H' ∧ H.next + 1 ≤ H'.next ∧ H.next ≤ n12 ∧ n12 < H'.next ∧ tm' 2 = .v (str a2) ∧ tm' 7 = .os n12 v11.length ∧ H'.obj n12 = some (.row 1 (v11.map fun x => [.v (.int .u8 x.toNat)]))) ?_ fun cb hc7 => ?_
 ·rintro tm7e H7e ⟨n12, v11, rfl, he7e, hl7e, hr0_7e, hs0_7e, t2_7e, t7_7e, or0_7e⟩
  have h : Mp a2 v11 = some r := hk7; unfold Mp at h; simp -implicitDefEqProofs only [go_sem]; subst hc5; refine A1 fun cb hc13 => ?_; refine vcK ?_; obtain ⟨g14, h⟩ := A7.1 h
  try simp (disch := omega) at g14
  obtain ⟨g15, h⟩ := A7.1 h
  try simp (disch := omega) at g15
  try simp -implicitDefEqProofs (disch := omega) [go_sem, t2_7e, t7_7e, or0_7e]
  subst hc13; refine IWp.gh (Gh.freeze (d := 6) (k := n12) (sz := 1) (es := (v11 ++ (a2 ++ (([13, 10, 13, 10]) : List UInt8))).map fun x => [.v (.int .u8 x.toNat)]) (by (simp -implicitDefEqProofs (disch := omega) [go_sem, t2_7e, t7_7e, or0_7e] <;> omega)) (by (simp -implicitDefEqProofs (disch := omega) [go_sem, t2_7e, t7_7e, or0_7e] <;> omega))) ?_; refine vcK ?_; simp -implicitDefEqProofs only [go_sem]; have er := Option.some.inj h; subst er
  try simp -implicitDefEqProofs (disch := omega) [go_sem, t2_7e, t7_7e, or0_7e]
  refine A2 (by exact A8 he7e) (by first | with_reducible rfl | (simp -implicitDefEqProofs (disch := omega) [go_sem, t2_7e, t7_7e, or0_7e] <;> omega)) nbA hK
 ·refine Af ?_; refine AN (fun (s : (List UInt8) × Int) tm' H' => ∃ n9 : Nat, Ext H H' ∧ H.next + 1 ≤ H'.next ∧ H.next ≤ n9 ∧ n9 < H'.next ∧ tm' 1 = .sl 2 (a1.map fun x => [.v (str x.fName), .v (str x.A5)]) ∧ tm' 2 = .v (str a2) ∧ tm' 7 = .os n9 s.1.length ∧ tm' 8 = .v (.int .i64 s.2) ∧ H'.obj n9 = some (.row 1 (s.1.map fun x => [.v (.int .u8 x.toNat)]))) hl7q ?_ ?_
  ·refine .same ⟨H.next, by exact A8 (Ext.refl hw), by first | with_reducible rfl | with_reducible assumption | omega | (simp -implicitDefEqProofs (disch := omega) [go_sem] <;> omega), by first | with_reducible rfl | with_reducible assumption | omega | (simp -implicitDefEqProofs (disch := omega) [go_sem] <;> omega), by first | with_reducible rfl | with_reducible assumption | omega | (simp -implicitDefEqProofs (disch := omega) [go_sem] <;> omega), ?_, ?_, ?_, ?_, ?_⟩ <;> first | with_reducible rfl | with_reducible assumption | (simp -implicitDefEqProofs (disch := omega) [go_sem] <;> omega)
  ·rintro I7 hI7 ⟨v8, v10⟩ x7 tm7 H7 ⟨n9, he7, hl7, W7, W8, CR, CS, CT, CU, BV⟩ h hret7
   replace h : Mq a1 v8 v10 = some x7 := h; unfold Mq at h; refine A1 fun cb hc16 => ?_; refine A1 fun cb hc17 => ?_; refine vcK ?_
   try simp -implicitDefEqProofs (disch := omega) [go_sem, CR, CS, CT, CU, BV]
   subst hc17; refine Aa h (by first | with_reducible rfl | (simp -implicitDefEqProofs (disch := omega) [go_sem, CR, CS, CT, CU, BV] <;> omega)) rfl ?_ ?_
   ·intro c18 h
    try simp (disch := omega) at c18
    refine vcK ?_; simp -implicitDefEqProofs only [go_sem]; subst hc16; refine A1 fun cb hc19 => ?_; refine Af ?_; refine BX [] [0, 1, 2, 3, 4, 5, 6, 7, 8, 9, 10, 11, 12, 13, 14, 15] (by kernel_rfl) (by kernel_rfl) (fun _ _ _ _ h => h) ?_; obtain ⟨g20, h⟩ := A7.1 h
    try simp (disch := omega) at g20
    obtain ⟨g21, h⟩ := A7.1 h
    try simp (disch := omega) at g21
    obtain ⟨g22, h⟩ := A7.1 h
    try simp (disch := omega) at g22
    obtain ⟨g23, h⟩ := A7.1 h
    try simp (disch := omega) at g23
    obtain ⟨g24, h⟩ := A7.1 h
    try simp (disch := omega) at g24
    try simp -implicitDefEqProofs (disch := omega) [go_sem, CR, CS, CT, CU, BV]
    subst hc19; refine vcK ?_
    try simp -implicitDefEqProofs (disch := omega) [go_sem, CR, CS, CT, CU, BV]
    have e7 := Option.some.inj h; subst e7; refine Au hI7 ((v8 ++ (((((a1.getD v10.toNat S55.zero).fName) ++ (([58, 32]) : List UInt8)) ++ ((a1.getD v10.toNat S55.zero).A5)) ++ (([13, 10]) : List UInt8)), IntKind.i64.wrap (v10 + 1))) ?_; refine .same ⟨n9, by exact A8 he7, by first | with_reducible rfl | with_reducible assumption | omega | (simp -implicitDefEqProofs (disch := omega) [go_sem, CR, CS, CT, CU, BV] <;> omega), by first | with_reducible rfl | with_reducible assumption | omega | (simp -implicitDefEqProofs (disch := omega) [go_sem, CR, CS, CT, CU, BV] <;> omega), by first | with_reducible rfl | with_reducible assumption | omega | (simp -implicitDefEqProofs (disch := omega) [go_sem, CR, CS, CT, CU, BV] <;> omega), ?_, ?_, ?_, ?_, ?_⟩ <;> first | with_reducible rfl | with_reducible assumption | (simp -implicitDefEqProofs (disch := omega) [go_sem, CR, CS, CT, CU, BV] <;> omega)
   ·intro c18 h
    try simp (disch := omega) at c18
    refine vcK ?_; simp -implicitDefEqProofs only [go_sem]; have e7 := Option.some.inj h; subst e7; have hy7 := hret7 _ rfl; refine hc7 _ _ ?_; refine .same ⟨n9, v8, hy7, by exact A8 he7, by first | with_reducible rfl | with_reducible assumption | omega | (simp -implicitDefEqProofs (disch := omega) [go_sem, CR, CS, CT, CU, BV] <;> omega), by first | with_reducible rfl | with_reducible assumption | omega | (simp -implicitDefEqProofs (disch := omega) [go_sem, CR, CS, CT, CU, BV] <;> omega), by first | with_reducible rfl | with_reducible assumption | omega | (simp -implicitDefEqProofs (disch := omega) [go_sem, CR, CS, CT, CU, BV] <;> omega), ?_, ?_, ?_⟩ <;> first | with_reducible rfl | with_reducible assumption | (simp -implicitDefEqProofs (disch := omega) [go_sem, CR, CS, CT, CU, BV] <;> omega)
noncomputable def Ge (a2 : List UInt8) (v11 : List UInt8) : Option (List UInt8) :=
 gd ((a2.length : Int) + (([13, 10, 13, 10]) : List UInt8).length ≤ 9223372036854775807) (gd ((v11.length + (a2 ++ (([13, 10, 13, 10]) : List UInt8)).length) * 1 ≤ 140737488355328) (some (v11 ++ (a2 ++ (([13, 10, 13, 10]) : List UInt8)))))
noncomputable def DP (a1 : List S55) (v8 : List UInt8) (v10 : Int) : Option (((List UInt8) × Int) ⊕ (List UInt8)) :=
 if v10 < (a1.length : Int) then (gd (0 ≤ v10 ∧ v10 < a1.length) (gd ((((a1.getD v10.toNat S55.zero).fName).length : Int) + (([58, 32]) : List UInt8).length ≤ 9223372036854775807) (gd (((((a1.getD v10.toNat S55.zero).fName) ++ (([58, 32]) : List UInt8)).length : Int) + ((a1.getD v10.toNat S55.zero).A5).length ≤ 9223372036854775807) (gd ((((((a1.getD v10.toNat S55.zero).fName) ++ (([58, 32]) : List UInt8)) ++ ((a1.getD v10.toNat S55.zero).A5)).length : Int) + (([13, 10]) : List UInt8).length ≤ 9223372036854775807) (gd ((v8.length + (((((a1.getD v10.toNat S55.zero).fName) ++ (([58, 32]) : List UInt8)) ++ ((a1.getD v10.toNat S55.zero).A5)) ++ (([13, 10]) : List UInt8)).length) * 1 ≤ 140737488355328) (some (.inl ((v8 ++ (((((a1.getD v10.toNat S55.zero).fName) ++ (([58, 32]) : List UInt8)) ++ ((a1.getD v10.toNat S55.zero).A5)) ++ (([13, 10]) : List UInt8)), IntKind.i64.wrap (v10 + 1)))))))))) else (some (.inr v8))
noncomputable def Lf (a0 : List UInt8) (a1 : List S55) (a2 : List UInt8) : Option (List UInt8) :=
 gd ((a0.length : Int) + (([13, 10]) : List UInt8).length ≤ 9223372036854775807) (gd (((a0 ++ (([13, 10]) : List UInt8)).length : Int) ≤ 9223372036854775807) ((B3 (fun (s : (List UInt8) × Int) => DP a1 s.1 s.2) (((a0 ++ (([13, 10]) : List UInt8))), 0)).bind fun (e : (List UInt8)) => Ge a2 e))
set_option maxHeartbeats 8000000 in
set_option pp.deepTerms false in
set_option maxRecDepth 60000 in
theorem P8 {H : A0} {K : Am → A0 → Prop} (a0 : List UInt8) (a1 : List S55) (a2 : List UInt8) {r : (List UInt8)} (h : Lf a0 a1 a2 = some r) (hK : K (.ret (.os H.next r.length)) (newL H [.row 1 (r.map fun x => [.v (.int .u8 x.toNat)])])) : A3 prog 38 [.v (str a0), .sl 2 (a1.map fun x => [.v (str x.fName), .v (str x.A5)]), .v (str a2)] H K := by
 refine A9 (N := 37) func38 (by kernel_rfl) rfl (by kernel_rfl) (by kernel_rfl) fun cb hcb hw hbd hnb => ?_; clear hbd hnb; subst hcb; unfold Lf at h; refine A1 fun cb hc1 => ?_; refine vcK ?_
 try simp -implicitDefEqProofs (disch := omega) [go_sem]
 subst hc1; refine A1 fun cb hc2 => ?_; refine Ch [false, false, true] (by kernel_rfl) ?_; obtain ⟨g3, h⟩ := A7.1 h
 try simp (disch := omega) at g3
 obtain ⟨g4, h⟩ := A7.1 h
 try simp (disch := omega) at g4
 try simp -implicitDefEqProofs (disch := omega) [go_sem]
 refine Iz (a0 ++ (([13, 10]) : List UInt8)) rfl (by kernel_rfl) underlying9 underlying23 underlying5 (by first | with_reducible rfl | (simp -implicitDefEqProofs (disch := omega) [go_sem]; done) | rfl) (by first | omega | decide | (simp; omega)) ?_
 try simp -implicitDefEqProofs (disch := omega) [go_sem]
 subst hc2; refine A1 fun cb hc5 => ?_; refine A1 fun cb hc6 => ?_; refine vcK ?_
 try simp -implicitDefEqProofs (disch := omega) [go_sem]
 subst hc6; obtain ⟨y7, hl7q, hk7⟩ := A4 h; refine AW (fun tm' H' => ∃ n12 : Nat, ∃ v11 : List UInt8, v11 = y7 ∧ Ext H H' ∧ H.next + 1 ≤ H'.next ∧ H.next ≤ n12 ∧ n12 < H'.next ∧ tm' 2 = .v (str a2) ∧ tm' 7 = .os n12 v11.length ∧ H'.obj n12 = some (.row 1 (v11.map fun x => [.v (.int .u8 x.toNat)]))) ?_ fun cb hc7 => ?_
 ·rintro tm7e H7e ⟨n12, v11, rfl, he7e, hl7e, hr0_7e, hs0_7e, t2_7e, t7_7e, or0_7e⟩
  have h : Ge a2 v11 = some r := hk7; unfold Ge at h; simp -implicitDefEqProofs only [go_sem]; subst hc5; refine A1 fun cb hc13 => ?_; refine vcK ?_; obtain ⟨g14, h⟩ := A7.1 h
  try simp (disch := omega) at g14
  obtain ⟨g15, h⟩ := A7.1 h
  try simp (disch := omega) at g15
  try simp -implicitDefEqProofs (disch := omega) [go_sem, t2_7e, t7_7e, or0_7e]
  subst hc13; refine vcK ?_; simp -implicitDefEqProofs only [go_sem]; have er := Option.some.inj h; subst er
  try simp -implicitDefEqProofs (disch := omega) [go_sem, t2_7e, t7_7e, or0_7e]
  refine K4 (r := .os n12 (v11 ++ (a2 ++ (([13, 10, 13, 10]) : List UInt8))).length) (r' := .os H.next (v11 ++ (a2 ++ (([13, 10, 13, 10]) : List UInt8))).length) (by first | with_reducible rfl | (simp -implicitDefEqProofs (disch := omega) [go_sem] <;> omega)) (Iu (by exact A8 he7e) (ks := [n12]) (os := [.row 1 ((v11 ++ (a2 ++ (([13, 10, 13, 10]) : List UInt8))).map fun x => [.v (.int .u8 x.toNat)])]) (.cons (o := .row 1 ((v11 ++ (a2 ++ (([13, 10, 13, 10]) : List UInt8))).map fun x => [.v (.int .u8 x.toNat)])) (by first | omega | (simp [go_sem]; done) | (simp [go_sem]; omega)) (by first | omega | (simp [go_sem]; done) | (simp [go_sem]; omega)) (by simp -implicitDefEqProofs (disch := omega) [go_sem, t2_7e, t7_7e, or0_7e]) (.same _ (Iy fun _ => by first | exact nbA | exact BP | exact BB)) .nil) (by simp)) (.osR (k := H.next) (by simp [Ca]) (by simp [go_sem]) rfl) hK
 ·refine Af ?_; refine AN (fun (s : (List UInt8) × Int) tm' H' => ∃ n9 : Nat, Ext H H' ∧ H.next + 1 ≤ H'.next ∧ H.next ≤ n9 ∧ n9 < H'.next ∧ tm' 1 = .sl 2 (a1.map fun x => [.v (str x.fName), .v (str x.A5)]) ∧ tm' 2 = .v (str a2) ∧ tm' 7 = .os n9 s.1.length ∧ tm' 8 = .v (.int .i64 s.2) ∧ H'.obj n9 = some (.row 1 (s.1.map fun x => [.v (.int .u8 x.toNat)]))) hl7q ?_ ?_
  ·refine .same ⟨H.next, by exact A8 (Ext.refl hw), by first | with_reducible rfl | with_reducible assumption | omega | (simp -implicitDefEqProofs (disch := omega) [go_sem] <;> omega), by first | with_reducible rfl | with_reducible assumption | omega | (simp -implicitDefEqProofs (disch := omega) [go_sem] <;> omega), by first | with_reducible rfl | with_reducible assumption | omega | (simp -implicitDefEqProofs (disch := omega) [go_sem] <;> omega), ?_, ?_, ?_, ?_, ?_⟩ <;> first | with_reducible rfl | with_reducible assumption | (simp -implicitDefEqProofs (disch := omega) [go_sem] <;> omega)
  ·rintro I7 hI7 ⟨v8, v10⟩ x7 tm7 H7 ⟨n9, he7, hl7, W7, W8, CR, CS, CT, CU, BV⟩ h hret7
   replace h : DP a1 v8 v10 = some x7 := h; unfold DP at h; refine A1 fun cb hc16 => ?_; refine A1 fun cb hc17 => ?_; refine vcK ?_
   try simp -implicitDefEqProofs (disch := omega) [go_sem, CR, CS, CT, CU, BV]
   subst hc17; refine Aa h (by first | with_reducible rfl | (simp -implicitDefEqProofs (disch := omega) [go_sem, CR, CS, CT, CU, BV] <;> omega)) rfl ?_ ?_
   ·intro c18 h
    try simp (disch := omega) at c18
    refine vcK ?_; simp -implicitDefEqProofs only [go_sem]; subst hc16; refine A1 fun cb hc19 => ?_; refine Af ?_; refine BX [] [0, 1, 2, 3, 4, 5, 6, 7, 8, 9, 10, 11, 12, 13, 14, 15] (by kernel_rfl) (by kernel_rfl) (fun _ _ _ _ h => h) ?_; obtain ⟨g20, h⟩ := A7.1 h
    try simp (disch := omega) at g20
    obtain ⟨g21, h⟩ := A7.1 h
    try simp (disch := omega) at g21
    obtain ⟨g22, h⟩ := A7.1 h
    try simp (disch := omega) at g22
    obtain ⟨g23, h⟩ := A7.1 h
    try simp (disch := omega) at g23
    obtain ⟨g24, h⟩ := A7.1 h
    try simp (disch := omega) at g24
    try simp -implicitDefEqProofs (disch := omega) [go_sem, CR, CS, CT, CU, BV]
    subst hc19; refine vcK ?_
    try simp -implicitDefEqProofs (disch := omega) [go_sem, CR, CS, CT, CU, BV]
    have e7 := Option.some.inj h; subst e7; refine Au hI7 ((v8 ++ (((((a1.getD v10.toNat S55.zero).fName) ++ (([58, 32]) : List UInt8)) ++ ((a1.getD v10.toNat S55.zero).A5)) ++ (([13, 10]) : List UInt8)), IntKind.i64.wrap (v10 + 1))) ?_; refine .same ⟨n9, by exact A8 he7, by first | with_reducible rfl | with_reducible assumption | omega | (simp -implicitDefEqProofs (disch := omega) [go_sem, CR, CS, CT, CU, BV] <;> omega), by first | with_reducible rfl | with_reducible assumption | omega | (simp -implicitDefEqProofs (disch := omega) [go_sem, CR, CS, CT, CU, BV] <;> omega), by first | with_reducible rfl | with_reducible assumption | omega | (simp -implicitDefEqProofs (disch := omega) [go_sem, CR, CS, CT, CU, BV] <;> omega), ?_, ?_, ?_, ?_, ?_⟩ <;> first | with_reducible rfl | with_reducible assumption | (simp -implicitDefEqProofs (disch := omega) [go_sem, CR, CS, CT, CU, BV] <;> omega)
   ·intro c18 h
    try simp (disch := omega) at c18
    refine vcK ?_; simp -implicitDefEqProofs only [go_sem]; have e7 := Option.some.inj h; subst e7; have hy7 := hret7 _ rfl; refine hc7 _ _ ?_; refine .same ⟨n9, v8, hy7, by exact A8 he7, by first | with_reducible rfl | with_reducible assumption | omega | (simp -implicitDefEqProofs (disch := omega) [go_sem, CR, CS, CT, CU, BV] <;> omega), by first | with_reducible rfl | with_reducible assumption | omega | (simp -implicitDefEqProofs (disch := omega) [go_sem, CR, CS, CT, CU, BV] <;> omega), by first | with_reducible rfl | with_reducible assumption | omega | (simp -implicitDefEqProofs (disch := omega) [go_sem, CR, CS, CT, CU, BV] <;> omega), ?_, ?_, ?_⟩ <;> first | with_reducible rfl | with_reducible assumption | (simp -implicitDefEqProofs (disch := omega) [go_sem, CR, CS, CT, CU, BV] <;> omega)
end Go.Idl
namespace Go.Idl
open Go Go.Proofs.Tryz
noncomputable def F21 (a0 : S42) : Option (List UInt8) :=
 gd ((a0.Ag.length : Int) + (([32]) : List UInt8).length ≤ 9223372036854775807) (gd (((a0.Ag ++ (([32]) : List UInt8)).length : Int) + a0.Ax.length ≤ 9223372036854775807) (gd ((((a0.Ag ++ (([32]) : List UInt8)) ++ a0.Ax).length : Int) + (([32, 72, 84, 84, 80, 47, 49, 46, 49]) : List UInt8).length ≤ 9223372036854775807) ((F39 (a0.An.length : Int)).bind fun (x6 : (List UInt8)) => gd (((([99, 111, 110, 116, 101, 110, 116, 45, 108, 101, 110, 103, 116, 104, 58, 32]) : List UInt8).length : Int) + x6.length ≤ 9223372036854775807) ((Lf (((a0.Ag ++ (([32]) : List UInt8)) ++ a0.Ax) ++ (([32, 72, 84, 84, 80, 47, 49, 46, 49]) : List UInt8)) a0.Aj ((([99, 111, 110, 116, 101, 110, 116, 45, 108, 101, 110, 103, 116, 104, 58, 32]) : List UInt8) ++ x6)).bind fun (x8 : (List UInt8)) => gd ((x8.length + a0.An.length) * 1 ≤ 140737488355328) (some (x8 ++ a0.An))))))
set_option maxHeartbeats 8000000 in
set_option pp.deepTerms false in
set_option maxRecDepth 60000 in
theorem TF {H : A0} {K : Am → A0 → Prop} (a0 : S42) {r : (List UInt8)} (h : F21 a0 = some r) (hK : K (.ret (.sl 1 (r.map fun x => [.v (.int .u8 x.toNat)]))) H) : A3 prog 21 [.ag ([.v (str a0.Ag), .v (str a0.Ax), .sl 2 (a0.Aj.map fun x => [.v (str x.fName), .v (str x.A5)]), .sl 1 (a0.An.map fun x => [.v (.int .u8 x.toNat)])])] H K := by
 refine A9 (N := 21) func21 (by kernel_rfl) rfl (by kernel_rfl) (by kernel_rfl) fun cb hcb hw hbd hnb => ?_; clear hbd hnb; subst hcb; unfold F21 at h; refine A1 fun cb hc1 => ?_; refine vcK ?_
 try simp -implicitDefEqProofs (disch := omega) [go_sem]
 subst hc1; refine A1 fun cb hc2 => ?_; refine BX [12] [0, 1, 2, 3, 4, 5, 6, 7, 8, 9, 10, 11, 12, 13, 15, 16, 14, 17, 18] (by kernel_rfl) (by kernel_rfl) (fun _ _ _ _ h => h) ?_; obtain ⟨g3, h⟩ := A7.1 h
 try simp (disch := omega) at g3
 obtain ⟨g4, h⟩ := A7.1 h
 try simp (disch := omega) at g4
 obtain ⟨g5, h⟩ := A7.1 h
 try simp (disch := omega) at g5
 try simp -implicitDefEqProofs (disch := omega) [go_sem]
 obtain ⟨x6, hx6, h⟩ := A4 h; refine Cu.mk _ (fun _ _ hK => A3.eqA (args' := [.v (.int .i64 (a0.An.length : Int))]) (by first | with_reducible rfl | (simp -implicitDefEqProofs (disch := omega) [go_sem] <;> omega)) (TE (a0.An.length : Int) hx6 hK)) ?_; obtain ⟨g7, h⟩ := A7.1 h
 try simp (disch := omega) at g7
 try simp -implicitDefEqProofs (disch := omega) [go_sem]
 obtain ⟨x8, hx8, h⟩ := A4 h; refine A3.eqA (args' := [.v (str (((a0.Ag ++ (([32]) : List UInt8)) ++ a0.Ax) ++ (([32, 72, 84, 84, 80, 47, 49, 46, 49]) : List UInt8))), .sl 2 (a0.Aj.map fun x => [.v (str x.fName), .v (str x.A5)]), .v (str ((([99, 111, 110, 116, 101, 110, 116, 45, 108, 101, 110, 103, 116, 104, 58, 32]) : List UInt8) ++ x6))]) (by first | with_reducible rfl | (simp -implicitDefEqProofs (disch := omega) [go_sem] <;> omega)) (P8 (((a0.Ag ++ (([32]) : List UInt8)) ++ a0.Ax) ++ (([32, 72, 84, 84, 80, 47, 49, 46, 49]) : List UInt8)) a0.Aj ((([99, 111, 110, 116, 101, 110, 116, 45, 108, 101, 110, 103, 116, 104, 58, 32]) : List UInt8) ++ x6) hx8 ?_); obtain ⟨g10, h⟩ := A7.1 h
 try simp (disch := omega) at g10
 try simp -implicitDefEqProofs (disch := omega) [go_sem]
 subst hc2; refine IWp.gh (Gh.freeze (d := 2) (k := H.next + 1) (sz := 1) (es := (x8 ++ a0.An).map fun x => [.v (.int .u8 x.toNat)]) (by (simp -implicitDefEqProofs (disch := omega) [go_sem] <;> omega)) (by (simp -implicitDefEqProofs (disch := omega) [go_sem] <;> omega))) ?_; refine vcK ?_; simp -implicitDefEqProofs only [go_sem]; have er := Option.some.inj h; subst er
 try simp -implicitDefEqProofs (disch := omega) [go_sem]
 refine A2 (by exact A8 (Ext.refl hw)) (by first | with_reducible rfl | (simp -implicitDefEqProofs (disch := omega) [go_sem] <;> omega)) nbA hK
noncomputable def Kj  : Option Bool :=
 some true
noncomputable def GH (a0 : List S55) (a1 : List S55) (v9 : Int) : Option (Int ⊕ (Unit ⊕ Bool)) :=
 if v9 < (a0.length : Int) then (gd (0 ≤ v9 ∧ v9 < a0.length) (gd (0 ≤ v9 ∧ v9 < a1.length) (if ¬ (((a0.getD v9.toNat S55.zero).fName) = ((a1.getD v9.toNat S55.zero).fName) ∧ ((a0.getD v9.toNat S55.zero).A5) = ((a1.getD v9.toNat S55.zero).A5)) then (some (.inr (.inr false))) else (some (.inl (IntKind.i64.wrap (v9 + 1))))))) else (some (.inr (.inl ())))
noncomputable def F40 (a0 : List S55) (a1 : List S55) : Option Bool :=
 if ¬ (a0.length : Int) = (a1.length : Int) then (some false) else ((B3 (fun (s : Int) => GH a0 a1 s) 0).bind fun y => Sum.elim (fun (e : Unit) => Kj) (fun (q : Bool) => some q) y)
set_option maxHeartbeats 8000000 in
set_option pp.deepTerms false in
set_option maxRecDepth 60000 in
theorem TG {H : A0} {K : Am → A0 → Prop} (a0 : List S55) (a1 : List S55) {r : Bool} (h : F40 a0 a1 = some r) (hK : K (.ret (.v (.bool r))) H) : A3 prog 40 [.sl 2 (a0.map fun x => [.v (str x.fName), .v (str x.A5)]), .sl 2 (a1.map fun x => [.v (str x.fName), .v (str x.A5)])] H K := by
 refine A9 (N := 26) func40 (by kernel_rfl) rfl (by kernel_rfl) (by kernel_rfl) fun cb hcb hw hbd hnb => ?_; clear hbd hnb; subst hcb; unfold F40 at h; refine A1 fun cb hc1 => ?_; refine vcK ?_
 try simp -implicitDefEqProofs (disch := omega) [go_sem]
 subst hc1; refine A1 fun cb hc2 => ?_; refine A1 fun cb hc3 => ?_; refine vcK ?_
 try simp -implicitDefEqProofs (disch := omega) [go_sem]
 subst hc3; refine Aa h (by first | with_reducible rfl | (simp -implicitDefEqProofs (disch := omega) [go_sem] <;> omega)) rfl ?_ ?_
 ·intro c4 h
  try simp (disch := omega) at c4
  refine A1 fun cb hc5 => ?_; refine vcK ?_
  try simp -implicitDefEqProofs (disch := omega) [go_sem]
  subst hc5; refine vcK ?_; simp -implicitDefEqProofs only [go_sem]; have er := Option.some.inj h; subst er
  try simp -implicitDefEqProofs (disch := omega) [go_sem]
  refine A2 (by exact A8 (Ext.refl hw)) (by first | with_reducible rfl | (simp -implicitDefEqProofs (disch := omega) [go_sem] <;> omega)) nbA hK
 ·intro c4 h
  try simp (disch := omega) at c4
  refine vcK ?_; simp -implicitDefEqProofs only [go_sem]; subst hc2; refine A1 fun cb hc6 => ?_; refine A1 fun cb hc7 => ?_; refine vcK ?_
  try simp -implicitDefEqProofs (disch := omega) [go_sem]
  subst hc7; obtain ⟨y8, hl8q, hk8⟩ := A4 h; refine AW (fun tm' H' => .inl () = y8 ∧ H = H') ?_ fun cb hc8 => ?_
  ·rintro tm8e H8e ⟨rfl, rfl⟩
   have h : Kj = some r := hk8; unfold Kj at h; simp -implicitDefEqProofs only [go_sem]; subst hc6; refine A1 fun cb hc10 => ?_; refine vcK ?_
   try simp -implicitDefEqProofs (disch := omega) [go_sem]
   subst hc10; refine vcK ?_; simp -implicitDefEqProofs only [go_sem]; have er := Option.some.inj h; subst er
   try simp -implicitDefEqProofs (disch := omega) [go_sem]
   refine A2 (by exact A8 (Ext.refl hw)) (by first | with_reducible rfl | (simp -implicitDefEqProofs (disch := omega) [go_sem] <;> omega)) nbA hK
  ·refine Af ?_; refine AN (fun (s : Int) tm' H' => H = H' ∧ tm' 0 = .sl 2 (a0.map fun x => [.v (str x.fName), .v (str x.A5)]) ∧ tm' 1 = .sl 2 (a1.map fun x => [.v (str x.fName), .v (str x.A5)]) ∧ tm' 5 = .v (.int .i64 s)) hl8q ?_ ?_
   ·refine .same ⟨rfl, ?_, ?_, ?_⟩ <;> first | with_reducible rfl | with_reducible assumption | (simp -implicitDefEqProofs (disch := omega) [go_sem] <;> omega)
   ·rintro I8 hI8 v9 x8 tm8 H8 ⟨rfl, Kk, Kl, Km⟩ h hret8
    replace h : GH a0 a1 v9 = some x8 := h; unfold GH at h; refine A1 fun cb hc11 => ?_; refine A1 fun cb hc12 => ?_; refine vcK ?_
    try simp -implicitDefEqProofs (disch := omega) [go_sem, Kk, Kl, Km]
    subst hc12; refine Aa h (by first | with_reducible rfl | (simp -implicitDefEqProofs (disch := omega) [go_sem, Kk, Kl, Km] <;> omega)) rfl ?_ ?_
    ·intro c13 h
     try simp (disch := omega) at c13
     refine vcK ?_; simp -implicitDefEqProofs only [go_sem]; subst hc11; refine A1 fun cb hc14 => ?_; refine Af ?_; refine A1 fun cb hc15 => ?_; refine BX [] [0, 1, 2, 3, 4, 5, 6, 7, 8] (by kernel_rfl) (by kernel_rfl) (fun _ _ _ _ h => h) ?_; obtain ⟨g16, h⟩ := A7.1 h
     try simp (disch := omega) at g16
     obtain ⟨g17, h⟩ := A7.1 h
     try simp (disch := omega) at g17
     try simp -implicitDefEqProofs (disch := omega) [go_sem, Kk, Kl, Km]
     subst hc15; refine Aa h (by first | with_reducible rfl | (simp -implicitDefEqProofs (disch := omega) [go_sem, Kk, Kl, Km] <;> omega)) rfl ?_ ?_
     ·intro c18 h
      try simp (disch := omega) at c18
      refine A1 fun cb hc19 => ?_; refine vcK ?_
      try simp -implicitDefEqProofs (disch := omega) [go_sem, Kk, Kl, Km]
      subst hc19; refine vcK ?_; simp -implicitDefEqProofs only [go_sem]; have e8 := Option.some.inj h; subst e8; have e8 := hret8 _ rfl; subst e8; replace h : some false = some r := hk8; have er := Option.some.inj h; subst er
      try simp -implicitDefEqProofs (disch := omega) [go_sem, Kk, Kl, Km]
      refine A2 (by exact A8 (Ext.refl hw)) (by first | with_reducible rfl | (simp -implicitDefEqProofs (disch := omega) [go_sem, Kk, Kl, Km] <;> omega)) nbA hK
     ·intro c18 h
      try simp (disch := omega) at c18
      refine vcK ?_; simp -implicitDefEqProofs only [go_sem]; subst hc14; refine vcK ?_
      try simp -implicitDefEqProofs (disch := omega) [go_sem, Kk, Kl, Km]
      have e8 := Option.some.inj h; subst e8; refine Au hI8 (IntKind.i64.wrap (v9 + 1)) ?_; refine .same ⟨rfl, ?_, ?_, ?_⟩ <;> first | with_reducible rfl | with_reducible assumption | (simp -implicitDefEqProofs (disch := omega) [go_sem, Kk, Kl, Km] <;> omega)
    ·intro c13 h
     try simp (disch := omega) at c13
     refine vcK ?_; simp -implicitDefEqProofs only [go_sem]; have e8 := Option.some.inj h; subst e8; have hy8 := hret8 _ rfl; refine hc8 _ _ ?_; refine .same ⟨hy8, rfl⟩
noncomputable def F22 (a0 : S42) (a1 : S42) : Option Bool :=
 if a0.Ag = a1.Ag then (if a0.Ax = a1.Ax then ((F40 a0.Aj a1.Aj).bind fun (x3 : Bool) => if x3 = true then (some (decide (a0.An = a1.An))) else (some false)) else (some false)) else (some false)
set_option maxHeartbeats 8000000 in
set_option pp.deepTerms false in
set_option maxRecDepth 60000 in
theorem TH {H : A0} {K : Am → A0 → Prop} (a0 : S42) (a1 : S42) {r : Bool} (h : F22 a0 a1 = some r) (hK : K (.ret (.v (.bool r))) H) : A3 prog 22 [.ag ([.v (str a0.Ag), .v (str a0.Ax), .sl 2 (a0.Aj.map fun x => [.v (str x.fName), .v (str x.A5)]), .sl 1 (a0.An.map fun x => [.v (.int .u8 x.toNat)])]), .ag ([.v (str a1.Ag), .v (str a1.Ax), .sl 2 (a1.Aj.map fun x => [.v (str x.fName), .v (str x.A5)]), .sl 1 (a1.An.map fun x => [.v (.int .u8 x.toNat)])])] H K := by
 refine A9 (N := 33) func22 (by kernel_rfl) rfl (by kernel_rfl) (by kernel_rfl) fun cb hcb hw hbd hnb => ?_; clear hbd hnb; subst hcb; unfold F22 at h; refine A1 fun cb hc1 => ?_; refine vcK ?_
 try simp -implicitDefEqProofs (disch := omega) [go_sem]
 subst hc1; refine A1 fun cb hc2 => ?_; refine vcK ?_
 try simp -implicitDefEqProofs (disch := omega) [go_sem]
 refine A6 h (by first | with_reducible rfl | (simp -implicitDefEqProofs (disch := omega) [go_sem] <;> omega)) ?_ ?_
 ·intro c6 h
  try simp (disch := omega) at c6
  try simp -implicitDefEqProofs (disch := omega) [go_sem]
  refine A6 h (by first | with_reducible rfl | (simp -implicitDefEqProofs (disch := omega) [go_sem] <;> omega)) ?_ ?_
  ·intro c5 h
   try simp (disch := omega) at c5
   try simp -implicitDefEqProofs (disch := omega) [go_sem]
   obtain ⟨x3, hx3, h⟩ := A4 h; refine A3.eqA (args' := [.sl 2 (a0.Aj.map fun x => [.v (str x.fName), .v (str x.A5)]), .sl 2 (a1.Aj.map fun x => [.v (str x.fName), .v (str x.A5)])]) (by first | with_reducible rfl | (simp -implicitDefEqProofs (disch := omega) [go_sem] <;> omega)) (TG a0.Aj a1.Aj hx3 ?_)
   try simp -implicitDefEqProofs (disch := omega) [go_sem]
   refine A6 h (by first | with_reducible rfl | (simp -implicitDefEqProofs (disch := omega) [go_sem] <;> omega)) ?_ ?_
   ·intro c4 h
    try simp (disch := omega) at c4
    try simp -implicitDefEqProofs (disch := omega) [go_sem]
    subst hc2; refine vcK ?_; simp -implicitDefEqProofs only [go_sem]; have er := Option.some.inj h; subst er
    try simp -implicitDefEqProofs (disch := omega) [go_sem]
    refine A2 (by exact A8 (Ext.refl hw)) (by first | with_reducible rfl | (simp -implicitDefEqProofs (disch := omega) [go_sem] <;> omega)) nbA hK
   ·intro c4 h
    try simp (disch := omega) at c4
    try simp -implicitDefEqProofs (disch := omega) [go_sem]
    subst hc2; refine vcK ?_; simp -implicitDefEqProofs only [go_sem]; have er := Option.some.inj h; subst er
    try simp -implicitDefEqProofs (disch := omega) [go_sem]
    refine A2 (by exact A8 (Ext.refl hw)) (by first | with_reducible rfl | (simp -implicitDefEqProofs (disch := omega) [go_sem] <;> omega)) nbA hK
  ·intro c5 h
   try simp (disch := omega) at c5
   try simp -implicitDefEqProofs (disch := omega) [go_sem]
   subst hc2; refine vcK ?_; simp -implicitDefEqProofs only [go_sem]; have er := Option.some.inj h; subst er
   try simp -implicitDefEqProofs (disch := omega) [go_sem]
   refine A2 (by exact A8 (Ext.refl hw)) (by first | with_reducible rfl | (simp -implicitDefEqProofs (disch := omega) [go_sem] <;> omega)) nbA hK
 ·intro c6 h
  try simp (disch := omega) at c6
  try simp -implicitDefEqProofs (disch := omega) [go_sem]
  subst hc2; refine vcK ?_; simp -implicitDefEqProofs only [go_sem]; have er := Option.some.inj h; subst er
  try simp -implicitDefEqProofs (disch := omega) [go_sem]
  refine A2 (by exact A8 (Ext.refl hw)) (by first | with_reducible rfl | (simp -implicitDefEqProofs (disch := omega) [go_sem] <;> omega)) nbA hK
noncomputable def F6 (a0 : S42) : Option (Except Unit (Bool)) :=
 (F15 a0.Aj a0.An).bind fun (x4 : Bool) => if ¬ (x4 = true) then ((F9 ).bind fun (x6 : Except Unit (Bool)) => orP x6 (fun (ex6 : Unit) => some (.error ex6)) (fun (y7 : Bool) => some (.ok y7))) else (if 300 < (a0.Ag.length : Int) then ((F9 ).bind fun (x9 : Except Unit (Bool)) => orP x9 (fun (ex9 : Unit) => some (.error ex9)) (fun (y10 : Bool) => some (.ok y10))) else (if 300 < (a0.Ax.length : Int) then ((F9 ).bind fun (x13 : Except Unit (Bool)) => orP x13 (fun (ex13 : Unit) => some (.error ex13)) (fun (y14 : Bool) => some (.ok y14))) else ((F18 a0).bind fun (x16 : (List UInt8) × Int) => (F19 a0).bind fun (x19 : Bool) => if ¬ (x19 = true) then (if (x16.1.length : Int) = 0 then (if x16.2 = 2 then ((F9 ).bind fun (x22 : Except Unit (Bool)) => orP x22 (fun (ex22 : Unit) => some (.error ex22)) (fun (y23 : Bool) => some (.ok y23))) else (some (.ok false))) else (some (.ok false))) else ((F20 x16.1).bind fun (x27 : Except Unit (S42 × Int)) => orP x27 (fun (ex27 : Unit) => some (.error ex27)) (fun (y28 : S42 × Int) => if x16.2 = 0 then ((F21 a0).bind fun (x30 : (List UInt8)) => if x16.1 = x30 then (if y28.2 = 0 then ((F22 y28.1 a0).bind fun (x31 : Bool) => if x31 = true then ((F9 ).bind fun (x32 : Except Unit (Bool)) => orP x32 (fun (ex32 : Unit) => some (.error ex32)) (fun (y33 : Bool) => some (.ok y33))) else (some (.ok false))) else (some (.ok false))) else (some (.ok false))) else (some (.ok false)))))))
set_option maxHeartbeats 8000000 in
set_option pp.deepTerms false in
set_option maxRecDepth 60000 in
theorem W9 {H : A0} {K : Am → A0 → Prop} (a0 : S42) (hV : VOK prog H) {r : Except Unit (Bool)} (h : F6 a0 = some r) (hP : ∀ e, r = .error e → K (.pan (C8 e)) H) (hK : ∀ v : Bool, r = .ok v → K (.ret (.v (.bool v))) H) : A3 prog 6 [.ag ([.v (str a0.Ag), .v (str a0.Ax), .sl 2 (a0.Aj.map fun x => [.v (str x.fName), .v (str x.A5)]), .sl 1 (a0.An.map fun x => [.v (.int .u8 x.toNat)])])] H K := by
 refine A9 (N := 71) func6 (by kernel_rfl) rfl (by kernel_rfl) (by kernel_rfl) fun cb hcb hw hbd hnb => ?_; clear hbd hnb; subst hcb; unfold F6 at h; refine A1 fun cb hc1 => ?_; refine vcK ?_
 try simp -implicitDefEqProofs (disch := omega) [go_sem]
 subst hc1; refine A1 fun cb hc2 => ?_; refine A1 fun cb hc3 => ?_; refine vcK ?_
 try simp -implicitDefEqProofs (disch := omega) [go_sem]
 obtain ⟨x4, hx4, h⟩ := A4 h; refine A3.eqA (args' := [.sl 2 (a0.Aj.map fun x => [.v (str x.fName), .v (str x.A5)]), .sl 1 (a0.An.map fun x => [.v (.int .u8 x.toNat)])]) (by first | with_reducible rfl | (simp -implicitDefEqProofs (disch := omega) [go_sem] <;> omega)) (Ts a0.Aj a0.An hx4 ?_)
 try simp -implicitDefEqProofs (disch := omega) [go_sem]
 refine A6 h (by first | with_reducible rfl | (simp -implicitDefEqProofs (disch := omega) [go_sem] <;> omega)) ?_ ?_
 ·intro c39 h
  try simp (disch := omega) at c39
  try simp -implicitDefEqProofs (disch := omega) [go_sem]
  subst hc3; refine Aw (by first | with_reducible rfl | (simp -implicitDefEqProofs (disch := omega) [go_sem] <;> omega)) rfl ?_; refine A1 fun cb hc5 => ?_; refine vcK ?_
  try simp -implicitDefEqProofs (disch := omega) [go_sem]
  obtain ⟨x6, hx6, h⟩ := A4 h; refine A3.eqA (args' := []) (by first | with_reducible rfl | (simp -implicitDefEqProofs (disch := omega) [go_sem] <;> omega)) (Le  (by first | exact hV.of rfl | exact hV.of ((Ext.refl hw)).sn | exact hV.of (Ext.sn (H := H) (by exact A8 (Ext.refl hw))) | exact (VOK.of hV rfl).tok | exact (VOK.of hV ((Ext.refl hw)).sn).tok | exact (VOK.of hV (Ext.sn (H := H) (by exact A8 (Ext.refl hw)))).tok) hx6 ?_ ?_)
  ·intro ex6 qx6; subst qx6; replace h := AP h; have er := Option.some.inj h; subst er
   try simp -implicitDefEqProofs (disch := omega) [go_sem]
   exact Bu (by exact Bm (Ext.refl hw)) (Dl.refl _) (hP _ rfl)
  intro y7 qx6; subst qx6; replace h := B6 h
  try simp -implicitDefEqProofs (disch := omega) [go_sem]
  subst hc5; refine vcK ?_; simp -implicitDefEqProofs only [go_sem]; have er := Option.some.inj h; subst er
  try simp -implicitDefEqProofs (disch := omega) [go_sem]
  refine A2 (by exact A8 (Ext.refl hw)) (by first | with_reducible rfl | (simp -implicitDefEqProofs (disch := omega) [go_sem] <;> omega)) nbA (hK _ rfl)
 ·intro c39 h
  try simp (disch := omega) at c39
  try simp -implicitDefEqProofs (disch := omega) [go_sem]
  refine A6 h (by first | with_reducible rfl | (simp -implicitDefEqProofs (disch := omega) [go_sem] <;> omega)) ?_ ?_
  ·intro c38 h
   try simp (disch := omega) at c38
   try simp -implicitDefEqProofs (disch := omega) [go_sem]
   subst hc3; refine Aw (by first | with_reducible rfl | (simp -implicitDefEqProofs (disch := omega) [go_sem] <;> omega)) rfl ?_; refine A1 fun cb hc8 => ?_; refine vcK ?_
   try simp -implicitDefEqProofs (disch := omega) [go_sem]
   obtain ⟨x9, hx9, h⟩ := A4 h; refine A3.eqA (args' := []) (by first | with_reducible rfl | (simp -implicitDefEqProofs (disch := omega) [go_sem] <;> omega)) (Le  (by first | exact hV.of rfl | exact hV.of ((Ext.refl hw)).sn | exact hV.of (Ext.sn (H := H) (by exact A8 (Ext.refl hw))) | exact (VOK.of hV rfl).tok | exact (VOK.of hV ((Ext.refl hw)).sn).tok | exact (VOK.of hV (Ext.sn (H := H) (by exact A8 (Ext.refl hw)))).tok) hx9 ?_ ?_)
   ·intro ex9 qx9; subst qx9; replace h := AP h; have er := Option.some.inj h; subst er
    try simp -implicitDefEqProofs (disch := omega) [go_sem]
    exact Bu (by exact Bm (Ext.refl hw)) (Dl.refl _) (hP _ rfl)
   intro y10 qx9; subst qx9; replace h := B6 h
   try simp -implicitDefEqProofs (disch := omega) [go_sem]
   subst hc8; refine vcK ?_; simp -implicitDefEqProofs only [go_sem]; have er := Option.some.inj h; subst er
   try simp -implicitDefEqProofs (disch := omega) [go_sem]
   refine A2 (by exact A8 (Ext.refl hw)) (by first | with_reducible rfl | (simp -implicitDefEqProofs (disch := omega) [go_sem] <;> omega)) nbA (hK _ rfl)
  ·intro c38 h
   try simp (disch := omega) at c38
   try simp -implicitDefEqProofs (disch := omega) [go_sem]
   subst hc3; refine Aa h (by first | with_reducible rfl | (simp -implicitDefEqProofs (disch := omega) [go_sem] <;> omega)) rfl ?_ ?_
   ·intro c11 h
    try simp (disch := omega) at c11
    refine A1 fun cb hc12 => ?_; refine vcK ?_
    try simp -implicitDefEqProofs (disch := omega) [go_sem]
    obtain ⟨x13, hx13, h⟩ := A4 h; refine A3.eqA (args' := []) (by first | with_reducible rfl | (simp -implicitDefEqProofs (disch := omega) [go_sem] <;> omega)) (Le  (by first | exact hV.of rfl | exact hV.of ((Ext.refl hw)).sn | exact hV.of (Ext.sn (H := H) (by exact A8 (Ext.refl hw))) | exact (VOK.of hV rfl).tok | exact (VOK.of hV ((Ext.refl hw)).sn).tok | exact (VOK.of hV (Ext.sn (H := H) (by exact A8 (Ext.refl hw)))).tok) hx13 ?_ ?_)
    ·intro ex13 qx13; subst qx13; replace h := AP h; have er := Option.some.inj h; subst er
     try simp -implicitDefEqProofs (disch := omega) [go_sem]
     exact Bu (by exact Bm (Ext.refl hw)) (Dl.refl _) (hP _ rfl)
    intro y14 qx13; subst qx13; replace h := B6 h
    try simp -implicitDefEqProofs (disch := omega) [go_sem]
    subst hc12; refine vcK ?_; simp -implicitDefEqProofs only [go_sem]; have er := Option.some.inj h; subst er
    try simp -implicitDefEqProofs (disch := omega) [go_sem]
    refine A2 (by exact A8 (Ext.refl hw)) (by first | with_reducible rfl | (simp -implicitDefEqProofs (disch := omega) [go_sem] <;> omega)) nbA (hK _ rfl)
   ·intro c11 h
    try simp (disch := omega) at c11
    refine vcK ?_; simp -implicitDefEqProofs only [go_sem]; subst hc2; refine A1 fun cb hc15 => ?_; refine vcK ?_
    try simp -implicitDefEqProofs (disch := omega) [go_sem]
    obtain ⟨x16, hx16, h⟩ := A4 h; refine A3.eqA (args' := [.ag ([.v (str a0.Ag), .v (str a0.Ax), .sl 2 (a0.Aj.map fun x => [.v (str x.fName), .v (str x.A5)]), .sl 1 (a0.An.map fun x => [.v (.int .u8 x.toNat)])])]) (by first | with_reducible rfl | (simp -implicitDefEqProofs (disch := omega) [go_sem] <;> omega)) (P0 a0 (by first | exact hV.of rfl | exact hV.of ((Ext.refl hw)).sn | exact hV.of (Ext.sn (H := H) (by exact A8 (Ext.refl hw))) | exact (VOK.of hV rfl).tok | exact (VOK.of hV ((Ext.refl hw)).sn).tok | exact (VOK.of hV (Ext.sn (H := H) (by exact A8 (Ext.refl hw)))).tok) hx16 ?_)
    try simp -implicitDefEqProofs (disch := omega) [go_sem]
    subst hc15; refine A1 fun cb hc17 => ?_; refine A1 fun cb hc18 => ?_; refine vcK ?_
    try simp -implicitDefEqProofs (disch := omega) [go_sem]
    obtain ⟨x19, hx19, h⟩ := A4 h; refine A3.eqA (args' := [.ag ([.v (str a0.Ag), .v (str a0.Ax), .sl 2 (a0.Aj.map fun x => [.v (str x.fName), .v (str x.A5)]), .sl 1 (a0.An.map fun x => [.v (.int .u8 x.toNat)])])]) (by first | with_reducible rfl | (simp -implicitDefEqProofs (disch := omega) [go_sem] <;> omega)) (Tz a0 hx19 ?_)
    try simp -implicitDefEqProofs (disch := omega) [go_sem]
    subst hc18; refine Aa h (by first | with_reducible rfl | (simp -implicitDefEqProofs (disch := omega) [go_sem] <;> omega)) rfl ?_ ?_
    ·intro c20 h
     try simp (disch := omega) at c20
     refine A1 fun cb hc21 => ?_; refine vcK ?_
     try simp -implicitDefEqProofs (disch := omega) [go_sem]
     refine A6 h (by first | with_reducible rfl | (simp -implicitDefEqProofs (disch := omega) [go_sem] <;> omega)) ?_ ?_
     ·intro c25 h
      try simp (disch := omega) at c25
      try simp -implicitDefEqProofs (disch := omega) [go_sem]
      refine A6 h (by first | with_reducible rfl | (simp -implicitDefEqProofs (disch := omega) [go_sem] <;> omega)) ?_ ?_
      ·intro c24 h
       try simp (disch := omega) at c24
       try simp -implicitDefEqProofs (disch := omega) [go_sem]
       obtain ⟨x22, hx22, h⟩ := A4 h; refine A3.eqA (args' := []) (by first | with_reducible rfl | (simp -implicitDefEqProofs (disch := omega) [go_sem] <;> omega)) (Le  (by first | exact hV.of rfl | exact hV.of ((Ext.refl hw)).sn | exact hV.of (Ext.sn (H := H) (by exact A8 (Ext.refl hw))) | exact (VOK.of hV rfl).tok | exact (VOK.of hV ((Ext.refl hw)).sn).tok | exact (VOK.of hV (Ext.sn (H := H) (by exact A8 (Ext.refl hw)))).tok) hx22 ?_ ?_)
       ·intro ex22 qx22; subst qx22; replace h := AP h; have er := Option.some.inj h; subst er
        try simp -implicitDefEqProofs (disch := omega) [go_sem]
        exact Bu (by exact Bm (Ext.refl hw)) (Dl.refl _) (hP _ rfl)
       intro y23 qx22; subst qx22; replace h := B6 h
       try simp -implicitDefEqProofs (disch := omega) [go_sem]
       subst hc21; refine vcK ?_; simp -implicitDefEqProofs only [go_sem]; have er := Option.some.inj h; subst er
       try simp -implicitDefEqProofs (disch := omega) [go_sem]
       refine A2 (by exact A8 (Ext.refl hw)) (by first | with_reducible rfl | (simp -implicitDefEqProofs (disch := omega) [go_sem] <;> omega)) nbA (hK _ rfl)
      ·intro c24 h
       try simp (disch := omega) at c24
       try simp -implicitDefEqProofs (disch := omega) [go_sem]
       subst hc21; refine vcK ?_; simp -implicitDefEqProofs only [go_sem]; have er := Option.some.inj h; subst er
       try simp -implicitDefEqProofs (disch := omega) [go_sem]
       refine A2 (by exact A8 (Ext.refl hw)) (by first | with_reducible rfl | (simp -implicitDefEqProofs (disch := omega) [go_sem] <;> omega)) nbA (hK _ rfl)
     ·intro c25 h
      try simp (disch := omega) at c25
      try simp -implicitDefEqProofs (disch := omega) [go_sem]
      subst hc21; refine vcK ?_; simp -implicitDefEqProofs only [go_sem]; have er := Option.some.inj h; subst er
      try simp -implicitDefEqProofs (disch := omega) [go_sem]
      refine A2 (by exact A8 (Ext.refl hw)) (by first | with_reducible rfl | (simp -implicitDefEqProofs (disch := omega) [go_sem] <;> omega)) nbA (hK _ rfl)
    ·intro c20 h
     try simp (disch := omega) at c20
     refine vcK ?_; simp -implicitDefEqProofs only [go_sem]; subst hc17; refine A1 fun cb hc26 => ?_; refine vcK ?_
     try simp -implicitDefEqProofs (disch := omega) [go_sem]
     obtain ⟨x27, hx27, h⟩ := A4 h; refine A3.eqA (args' := [.sl 1 (x16.1.map fun x => [.v (.int .u8 x.toNat)])]) (by first | with_reducible rfl | (simp -implicitDefEqProofs (disch := omega) [go_sem] <;> omega)) (TD x16.1 (by first | exact hV.of rfl | exact hV.of ((Ext.refl hw)).sn | exact hV.of (Ext.sn (H := H) (by exact A8 (Ext.refl hw))) | exact (VOK.of hV rfl).tok | exact (VOK.of hV ((Ext.refl hw)).sn).tok | exact (VOK.of hV (Ext.sn (H := H) (by exact A8 (Ext.refl hw)))).tok) hx27 ?_ ?_)
     ·intro ex27 qx27; subst qx27; replace h := AP h; have er := Option.some.inj h; subst er
      try simp -implicitDefEqProofs (disch := omega) [go_sem]
      exact Bu (by exact Bm (Ext.refl hw)) (Dl.refl _) (hP _ rfl)
     intro y28 qx27; subst qx27; replace h := B6 h
     try simp -implicitDefEqProofs (disch := omega) [go_sem]
     subst hc26; refine A1 fun cb hc29 => ?_; refine BX [6, 17] [0, 1, 2, 3, 4, 5, 6, 7, 8, 9, 10, 11, 12, 13, 14, 15, 16, 17, 18, 19, 20, 21, 22] (by kernel_rfl) (by kernel_rfl) (fun _ _ _ _ h => h) ?_
     try simp -implicitDefEqProofs (disch := omega) [go_sem]
     refine A6 h (by first | with_reducible rfl | (simp -implicitDefEqProofs (disch := omega) [go_sem] <;> omega)) ?_ ?_
     ·intro c37 h
      try simp (disch := omega) at c37
      try simp -implicitDefEqProofs (disch := omega) [go_sem]
      obtain ⟨x30, hx30, h⟩ := A4 h; refine Cu.mk _ (fun _ _ hK => A3.eqA (args' := [.ag ([.v (str a0.Ag), .v (str a0.Ax), .sl 2 (a0.Aj.map fun x => [.v (str x.fName), .v (str x.A5)]), .sl 1 (a0.An.map fun x => [.v (.int .u8 x.toNat)])])]) (by first | with_reducible rfl | (simp -implicitDefEqProofs (disch := omega) [go_sem] <;> omega)) (TF a0 hx30 hK)) ?_
      try simp -implicitDefEqProofs (disch := omega) [go_sem]
      refine A6 h (by first | with_reducible rfl | (simp -implicitDefEqProofs (disch := omega) [go_sem] <;> omega)) ?_ ?_
      ·intro c36 h
       try simp (disch := omega) at c36
       try simp -implicitDefEqProofs (disch := omega) [go_sem]
       refine A6 h (by first | with_reducible rfl | (simp -implicitDefEqProofs (disch := omega) [go_sem] <;> omega)) ?_ ?_
       ·intro c35 h
        try simp (disch := omega) at c35
        try simp -implicitDefEqProofs (disch := omega) [go_sem]
        obtain ⟨x31, hx31, h⟩ := A4 h; refine Cu.mk _ (fun _ _ hK => A3.eqA (args' := [.ag ([.v (str y28.1.Ag), .v (str y28.1.Ax), .sl 2 (y28.1.Aj.map fun x => [.v (str x.fName), .v (str x.A5)]), .sl 1 (y28.1.An.map fun x => [.v (.int .u8 x.toNat)])]), .ag ([.v (str a0.Ag), .v (str a0.Ax), .sl 2 (a0.Aj.map fun x => [.v (str x.fName), .v (str x.A5)]), .sl 1 (a0.An.map fun x => [.v (.int .u8 x.toNat)])])]) (by first | with_reducible rfl | (simp -implicitDefEqProofs (disch := omega) [go_sem] <;> omega)) (TH y28.1 a0 hx31 hK)) ?_
        try simp -implicitDefEqProofs (disch := omega) [go_sem]
        refine A6 h (by first | with_reducible rfl | (simp -implicitDefEqProofs (disch := omega) [go_sem] <;> omega)) ?_ ?_
        ·intro c34 h
         try simp (disch := omega) at c34
         try simp -implicitDefEqProofs (disch := omega) [go_sem]
         obtain ⟨x32, hx32, h⟩ := A4 h; refine A3.eqA (args' := []) (by first | with_reducible rfl | (simp -implicitDefEqProofs (disch := omega) [go_sem] <;> omega)) (Le  (by first | exact hV.of rfl | exact hV.of ((Ext.refl hw)).sn | exact hV.of (Ext.sn (H := H) (by exact A8 (Ext.refl hw))) | exact (VOK.of hV rfl).tok | exact (VOK.of hV ((Ext.refl hw)).sn).tok | exact (VOK.of hV (Ext.sn (H := H) (by exact A8 (Ext.refl hw)))).tok) hx32 ?_ ?_)
         ·intro ex32 qx32; subst qx32; replace h := AP h; have er := Option.some.inj h; subst er
          try simp -implicitDefEqProofs (disch := omega) [go_sem]
          exact Bu (by exact Bm (Ext.refl hw)) (Dl.refl _) (hP _ rfl)
         intro y33 qx32; subst qx32; replace h := B6 h
         try simp -implicitDefEqProofs (disch := omega) [go_sem]
         repeat refine ⟨hV, ?_⟩
         subst hc29; refine vcK ?_; simp -implicitDefEqProofs only [go_sem]; have er := Option.some.inj h; subst er
         try simp -implicitDefEqProofs (disch := omega) [go_sem]
         refine A2 (by exact A8 (Ext.refl hw)) (by first | with_reducible rfl | (simp -implicitDefEqProofs (disch := omega) [go_sem] <;> omega)) nbA (hK _ rfl)
        ·intro c34 h
         try simp (disch := omega) at c34
         try simp -implicitDefEqProofs (disch := omega) [go_sem]
         repeat refine ⟨hV, ?_⟩
         subst hc29; refine vcK ?_; simp -implicitDefEqProofs only [go_sem]; have er := Option.some.inj h; subst er
         try simp -implicitDefEqProofs (disch := omega) [go_sem]
         refine A2 (by exact A8 (Ext.refl hw)) (by first | with_reducible rfl | (simp -implicitDefEqProofs (disch := omega) [go_sem] <;> omega)) nbA (hK _ rfl)
       ·intro c35 h
        try simp (disch := omega) at c35
        try simp -implicitDefEqProofs (disch := omega) [go_sem]
        repeat refine ⟨hV, ?_⟩
        subst hc29; refine vcK ?_; simp -implicitDefEqProofs only [go_sem]; have er := Option.some.inj h; subst er
        try simp -implicitDefEqProofs (disch := omega) [go_sem]
        refine A2 (by exact A8 (Ext.refl hw)) (by first | with_reducible rfl | (simp -implicitDefEqProofs (disch := omega) [go_sem] <;> omega)) nbA (hK _ rfl)
      ·intro c36 h
       try simp (disch := omega) at c36
       try simp -implicitDefEqProofs (disch := omega) [go_sem]
       repeat refine ⟨hV, ?_⟩
       subst hc29; refine vcK ?_; simp -implicitDefEqProofs only [go_sem]; have er := Option.some.inj h; subst er
       try simp -implicitDefEqProofs (disch := omega) [go_sem]
       refine A2 (by exact A8 (Ext.refl hw)) (by first | with_reducible rfl | (simp -implicitDefEqProofs (disch := omega) [go_sem] <;> omega)) nbA (hK _ rfl)
     ·intro c37 h
      try simp (disch := omega) at c37
      try simp -implicitDefEqProofs (disch := omega) [go_sem]
      repeat refine ⟨hV, ?_⟩
      subst hc29; refine vcK ?_; simp -implicitDefEqProofs only [go_sem]; have er := Option.some.inj h; subst er
      try simp -implicitDefEqProofs (disch := omega) [go_sem]
      refine A2 (by exact A8 (Ext.refl hw)) (by first | with_reducible rfl | (simp -implicitDefEqProofs (disch := omega) [go_sem] <;> omega)) nbA (hK _ rfl)
end Go.Idl
namespace Go.Idl
open Go Go.Proofs.Tryz
end Go.Idl
namespace Go.Idl
open Go Go.Proofs.Tryz
end Go.Idl
namespace Go.Idl
open Go Go.Proofs.Tryz
end Go.Idl
namespace Go.Idl
open Go Go.Proofs.Tryz
end Go.Idl
namespace Go.Idl
open Go Go.Proofs.Tryz
end Go.Idl
namespace Go.Idl
open Go Go.Lib
def Di : Str := [72, 84, 84, 80, 47, 49, 46, 49]
def Bo (a b : Nat) (s : Str) : Bool := s.all fun x => decide (a ≤ x.toNat ∧ x.toNat ≤ b)
def BJ (s : Str) : Bool := decide (1 ≤ s.length ∧ s.length ≤ 20) && Bo 65 90 s
def CN (s : Str) : Bool := decide (1 ≤ s.length ∧ s.length ≤ 200) && decide (s.getD 0 0 = 47) && Bo 33 126 s
def AI (l : List Str) : Str := l.flatMap fun s => s ++ [13, 10]
def Bc (h : Hd) : Str := h.1 ++ 58 :: 32 :: h.2
def F0 (n : Nat) : Str := Ct ++ 58 :: 32 :: decDigits n
def Cw (first : Str) (l : List Hd) (last : Str) : Str := AI (first :: (l.map Bc ++ [last, []]))
def BK (m p : Str) (l : List Hd) (b : Str) : Str := Cw (m ++ 32 :: (p ++ 32 :: Di)) l (F0 b.length) ++ b
def EE (s : Str) : Option (Str × Str) :=
  (C2 s 32).bind fun a => (C2 a.2 32).bind fun b => if b.2 = Di ∧ BJ a.1 = true ∧ CN b.1 = true then some (a.1, b.1) else none
def MW (r : Str) : Bool := decide (r = []) || decide (r.getD 0 0 = 32) && Bo 32 126 r
noncomputable def E7 (s : Str) : Option Nat :=
  if s.take 9 = Di ++ [32] ∧ 12 ≤ s.length then (Ih ((s.drop 9).take 3)).bind fun n => if 100 ≤ n ∧ n ≤ 599 ∧ MW (s.drop 12) = true then some n else none else none
theorem Hj {a b : Nat} {s : Str} : Bo a b s = true ↔ ∀ x ∈ s, a ≤ x.toNat ∧ x.toNat ≤ b := by simp [Bo]
theorem ND {m p : Str} (hm : BJ m = true) (hp : CN p = true) : EE (m ++ 32 :: (p ++ 32 :: Di)) = some (m, p) := by
 have h1 := hm; have h2 := hp; simp only [BJ, CN, Bool.and_eq_true, Hj] at h1 h2; have n1 : (32 : UInt8) ∉ m := fun h => by have := h1.2 _ h; simp at this
 have n2 : (32 : UInt8) ∉ p := fun h => by have := h2.2 _ h; simp at this
 unfold EE; rw [C5.2 ⟨rfl, n1⟩, Option.bind_some]; simp only; rw [C5.2 ⟨rfl, n2⟩, Option.bind_some, if_pos ⟨rfl, hm, hp⟩]
theorem XX {c : Nat} (h : 100 ≤ c ∧ c ≤ 599) : decDigits c = [UInt8.ofNat (48 + c / 100), UInt8.ofNat (48 + c / 10 % 10), UInt8.ofNat (48 + c % 10)] := by
 rw [decDigits, dif_neg (by omega), decDigits, dif_neg (by omega), decDigits, dif_pos (by omega)]; rw [Nat.div_div_eq_div_mul]; rfl
theorem Lg {m p : Str} (hm : BJ m = true) (hp : CN p = true) : ∀ x ∈ m ++ 32 :: (p ++ 32 :: Di), x ≠ 13 := by
 simp only [BJ, CN, Bool.and_eq_true, Hj] at hm hp; intro x hx; simp only [List.mem_append, List.mem_cons] at hx; rcases hx with hx | rfl | hx | rfl | hx
 ·have := hm.2 x hx
  rintro rfl; simp at this
 ·decide
 ·have := hp.2 x hx
  rintro rfl; simp at this
 ·decide
 ·revert hx; revert x; decide
theorem Jy {α : Type} {first : Str → Option α} {f : Str} {x : α} (hf : ∀ y ∈ f, y ≠ 13) (hx : first f = some x) (L : List (Str × Hd)) (s : Str) (hL : ∀ y ∈ L, y.1 ≠ [] ∧ (∀ x ∈ y.1, x ≠ 13) ∧ F8 y.1 = some y.2) (hd : BU (L.map (·.2))) :
    Et first (f ++ 13 :: 10 :: (L.flatMap (fun y => y.1 ++ [13, 10]) ++ 13 :: 10 :: s)) = (DK (L.map (·.2)) s).bind fun r => if r.2 = [] ∧ CP (BQ (Dg (L.map (·.2)))) r.1 = true then some (x, BQ (Dg (L.map (·.2))), r.1) else none := by
 unfold Et; rw [Gy _ _ hf, Option.bind_some]; simp only [hx, Option.bind_some]; rw [F_ L [] s hL (by simpa using hd), Option.bind_some]; simp
theorem Mr {h : Hd} (hh : hdB h = true) : Bc h ≠ [] ∧ (∀ x ∈ Bc h, x ≠ 13) ∧ F8 (Bc h) = some h := by
 simp only [hdB, Bool.and_eq_true, decide_eq_true_eq] at hh; have e : Bc h = h.1 ++ 58 :: ([32] ++ h.2 ++ []) := by simp [Bc]
 have b1 : ∀ x ∈ ([32] : Str), Bl x = true := by simp [Bl]
 have b2 : ∀ x ∈ ([] : Str), Bl x = true := by simp
 refine ⟨by simp [Bc], ?_, ?_⟩
 ·rw [e]; exact Jp hh.1.1.1.1 hh.1.1.2 b1 b2
 ·rw [e, Ip hh.1.1.1.1 hh.1.1.2 b1 b2, hh.1.1.1.2]
theorem J5 {s : Str} (h1 : s.length ≤ 200) (h2 : ∀ x ∈ s, 33 ≤ x.toNat ∧ x.toNat ≤ 126) : Bq s = true := by
 simp only [Bq, Bool.and_eq_true, decide_eq_true_eq, List.all_eq_true]; refine ⟨⟨⟨h1, fun x hx => ?_⟩, fun h => ?_⟩, fun h => ?_⟩
 ·have := h2 x hx; omega
 ·have := h2 _ (List.mem_of_mem_head? h); simp at this
 ·have := h2 _ (List.mem_of_mem_getLast? h); simp at this
theorem EF {n : Nat} (h : n ≤ 1000000000) : (decDigits n).length ≤ 200 := by
 have : ∀ (k n : Nat), n < 10 ^ (k + 1) → (decDigits n).length ≤ k + 1 := by
  intro k
  induction k with
  | zero => intro n h; rw [decDigits, dif_pos (by simpa using h)]; simp
  | succ k ih =>
   intro n h; rw [decDigits]; split
   ·simp
   ·have := ih (n / 10) (by rw [Nat.pow_succ] at h; omega); simp; omega
 have := this 9 n (by omega); omega
theorem IJ {n : Nat} (h : n ≤ 1000000000) : Bq (decDigits n) = true :=
  J5 (EF h) fun x hx => by have := Jj n x hx; omega
theorem NF {n : Nat} (h : n ≤ 1000000000) : F0 n ≠ [] ∧ (∀ x ∈ F0 n, x ≠ 13) ∧ F8 (F0 n) = some (Ct, decDigits n) := by
 have e : F0 n = Ct ++ 58 :: ([32] ++ decDigits n ++ []) := by simp [F0]
 have b1 : ∀ x ∈ ([32] : Str), Bl x = true := by simp [Bl]
 have b2 : ∀ x ∈ ([] : Str), Bl x = true := by simp
 have hn : BG Ct = true := by decide
 refine ⟨by simp [F0], ?_, ?_⟩
 ·rw [e]; exact Jp hn (IJ h) b1 b2
 ·rw [e, Ip hn (IJ h) b1 b2]; rfl
theorem P9 (f : Str) (l : List Hd) (last s : Str) (h : Hd) : Cw f l last ++ s = f ++ 13 :: 10 :: ((l.map (fun h => (Bc h, h)) ++ [(last, h)]).flatMap (fun y => y.1 ++ [13, 10]) ++ 13 :: 10 :: s) := by
 simp [Cw, AI, List.flatMap_append, List.flatMap_map]
theorem Lh {l : List Hd} {n : Str} {x : Hd} (h : ∀ y ∈ l, y.1 ≠ n) : FY (l ++ [x]) n = if x.1 = n then some x.2 else none := by
 unfold FY; rw [List.find?_append, List.find?_eq_none.2 (by simpa using h)]; by_cases hx : x.1 = n <;> simp [hx]
theorem Ms {l : List Hd} (h : l.all hdB = true) : (∀ y ∈ l, y.1 ≠ Ct) ∧ ∀ y ∈ l, y.1 ≠ Ee := by
 rw [List.all_eq_true] at h; constructor <;> intro y hy <;> have := h y hy <;> simp only [hdB, Bool.and_eq_true, decide_eq_true_eq] at this
 ·exact this.1.2
 ·exact this.2
theorem Pa {l : List Hd} {x : Hd} (h : l.all hdB = true) (hx : x.1 = Ct ∨ x.1 = Ee) : Dg (l ++ [x]) = l := by
 obtain ⟨h1, h2⟩ := Ms h; unfold Dg; rw [List.filter_append, List.filter_eq_self.2 fun y hy => by simp [h1 y hy, h2 y hy]]; rcases hx with hx | hx <;> simp [hx]
theorem Mt {l : List Hd} (h : BI l) : BQ l = l := Io h (Im h) fun _ => Iff.rfl
theorem Pb : Ct ≠ Ee := by decide
theorem Mu {α : Type} {first : Str → Option α} {f : Str} {x : α} (hf : ∀ y ∈ f, y ≠ 13) (hx : first f = some x) {l : List Hd} (hl : Iq l = true) (last s : Str) (h : Hd) (hh : last ≠ [] ∧ (∀ x ∈ last, x ≠ 13) ∧ F8 last = some h) (hn : h.1 = Ct ∨ h.1 = Ee) {b : Str}
    (hb : DK (l ++ [h]) s = some (b, [])) : Et first (Cw f l last ++ s) = if b.length ≤ 60000 then some (x, l, b) else none := by
 have hl' := hl; simp only [Iq, Bool.and_eq_true, decide_eq_true_eq] at hl; obtain ⟨h1, h2⟩ := Ms hl.1.2; have hm : (l.map (fun h => (Bc h, h)) ++ [(last, h)]).map (·.2) = l ++ [h] := by simp [Function.comp_def]
 have hL : ∀ y ∈ l.map (fun h => (Bc h, h)) ++ [(last, h)], y.1 ≠ [] ∧ (∀ x ∈ y.1, x ≠ 13) ∧ F8 y.1 = some y.2 := by
  intro y hy; rcases List.mem_append.1 hy with hy | hy
  ·obtain ⟨z, hz, rfl⟩ := List.mem_map.1 hy; exact Mr (List.all_eq_true.1 hl.1.2 z hz)
  ·rw [List.mem_singleton.1 hy]; exact hh
 have hd : BU ((l.map (fun h => (Bc h, h)) ++ [(last, h)]).map (·.2)) := by
  rw [hm, BU, List.pairwise_append]; refine ⟨Im hl.1.1, by simp, fun a ha y hy => ?_⟩; rw [List.mem_singleton.1 hy]; rcases hn with hn | hn <;> rw [hn]
  ·exact h1 a ha
  ·exact h2 a ha
 rw [P9 f l last s h, Jy hf hx _ _ hL hd, hm, hb, Option.bind_some, Pa hl.1.2 hn, Mt hl.1.1]; simp only [CP, hl', Bool.true_and, decide_eq_true_eq, true_and]
theorem NG {l : List Hd} {s : Str} (hl : l.all hdB = true) (hs : s.length ≤ 1000000000) : DK (l ++ [(Ct, decDigits s.length)]) s = some (s, []) := by
 obtain ⟨h1, h2⟩ := Ms hl; unfold DK; rw [Lh h1, Lh h2, if_pos rfl, if_neg Pb]; simp only; rw [Eu hs, Option.bind_some, if_pos (Nat.le_refl _), List.take_length, List.drop_length]
theorem Kn {m p : Str} {l : List Hd} {b : Str} (hm : BJ m = true) (hp : CN p = true) (hl : Iq l = true) (hb : b.length ≤ 1000000000) :
    Et EE (BK m p l b) = if b.length ≤ 60000 then some ((m, p), l, b) else none := by
 have hl' := hl; simp only [Iq, Bool.and_eq_true, decide_eq_true_eq] at hl'; exact Mu (Lg hm hp) (ND hm hp) hl _ _ _ (NF hb) (.inl rfl) (NG hl'.1.2 hb)
end Go.Idl
namespace Go.Idl
open Go Go.Lib
end Go.Idl
namespace Go.Idl
open Go
theorem Cb {i : Nat} (h : i < 9223372036854775807) : IntKind.i64.wrap ((i : Int) + 1) = ((i + 1 : Nat) : Int) := by
 rw [wrap_i64 (by omega) (by omega)]; rfl
theorem ET {ρ : Type} {step : Int → Option (Int ⊕ ρ)} {Post : ρ → Prop} (n : Nat) (Inv : Nat → Prop) (h0 : Inv 0)
    (hs : ∀ i : Nat, i < n → Inv i → (step i = some (.inl ((i + 1 : Nat) : Int)) ∧ Inv (i + 1)) ∨ ∃ r, step i = some (.inr r) ∧ Post r)
    (hf : Inv n → ∃ r, step n = some (.inr r) ∧ Post r) : ∃ r, B3 step 0 = some r ∧ Post r := by
 refine Ji (fun s : Int => ∃ i : Nat, i ≤ n ∧ s = (i : Int) ∧ Inv i) (fun s : Int => n - s.toNat) ?_ ⟨0, Nat.zero_le _, rfl, h0⟩
 rintro s ⟨i, hi, rfl, hI⟩
 by_cases h : i < n
 ·rcases hs i h hI with ⟨h1, h2⟩ | h1
  ·exact .inl ⟨_, h1, ⟨i + 1, h, rfl, h2⟩, by simp; omega⟩
  ·exact .inr h1
 ·have e : i = n := by omega
  subst e; exact .inr (hf hI)
theorem E8 {σ ρ : Type} {step : σ × Int → Option ((σ × Int) ⊕ ρ)} {Post : ρ → Prop} (n : Nat) (Inv : Nat → σ → Prop) {a : σ} (h0 : Inv 0 a)
    (hs : ∀ (i : Nat) (a : σ), i < n → Inv i a → (∃ a', step (a, (i : Int)) = some (.inl (a', ((i + 1 : Nat) : Int))) ∧ Inv (i + 1) a') ∨ ∃ r, step (a, (i : Int)) = some (.inr r) ∧ Post r)
    (hf : ∀ a, Inv n a → ∃ r, step (a, (n : Int)) = some (.inr r) ∧ Post r) : ∃ r, B3 step (a, 0) = some r ∧ Post r := by
 refine Ji (fun s : σ × Int => ∃ i : Nat, i ≤ n ∧ s.2 = (i : Int) ∧ Inv i s.1) (fun s : σ × Int => n - s.2.toNat) ?_ ⟨0, Nat.zero_le _, rfl, h0⟩
 rintro ⟨a, s⟩ ⟨i, hi, hs2, hI⟩
 simp only at hs2 hI; subst hs2; by_cases h : i < n
 ·rcases hs i a h hI with ⟨a', h1, h2⟩ | h1
  ·exact .inl ⟨_, h1, ⟨i + 1, h, rfl, h2⟩, by simp; omega⟩
  ·exact .inr h1
 ·have e : i = n := by omega
  subst e; exact .inr (hf a hI)
theorem getD_some {α : Type} {l : List α} {i : Nat} (h : i < l.length) (d : α) : l.getD i d = l[i] := by simp [h]
end Go.Idl
namespace Go.Idl
open Go
def Db {α ρ : Type} (f : Nat → α → Option ρ) (d : ρ) : Nat → List α → ρ
  | _, [] => d
  | i, x :: l => match f i x with
    | none => Db f d (i + 1) l
    | some r => r
def Ko {α σ ρ : Type} (f : Nat → σ → α → σ ⊕ ρ) (fin : σ → ρ) : Nat → σ → List α → ρ
  | _, a, [] => fin a
  | i, a, x :: l => match f i a x with
    | .inl a' => Ko f fin (i + 1) a' l
    | .inr r => r
theorem Dc {α ρ : Type} {f : Nat → α → Option ρ} {d : ρ} {i : Nat} {x : α} {l : List α} : Db f d i (x :: l) = match f i x with
    | none => Db f d (i + 1) l
    | some r => r := rfl
theorem Jz {α σ ρ : Type} {f : Nat → σ → α → σ ⊕ ρ} {fin : σ → ρ} {i : Nat} {a : σ} {x : α} {l : List α} : Ko f fin i a (x :: l) = match f i a x with
    | .inl a' => Ko f fin (i + 1) a' l
    | .inr r => r := rfl
theorem FA {α ρ : Type} (l : List α) {step : Int → Option (Int ⊕ ρ)} (f : Nat → α → Option ρ) (d : ρ) (hl : l.length ≤ 1000000000)
    (hs : ∀ (i : Nat) (h : i < l.length), step (i : Int) = some (match f i l[i] with | none => .inl (IntKind.i64.wrap ((i : Int) + 1)) | some r => .inr r))
    (hf : step (l.length : Int) = some (.inr d)) : B3 step 0 = some (Db f d 0 l) := by
 obtain ⟨r, h1, h2⟩ := ET (step := step) (Post := fun r => r = Db f d 0 l) l.length (fun i => Db f d i (l.drop i) = Db f d 0 l) (by simp)
  (fun i hi hI => by
    rw [hs i hi]
    rw [List.drop_eq_getElem_cons hi] at hI
    rw [Dc] at hI
    cases hfi : f i l[i] with
    | none =>
      rw [hfi] at hI
      rw [Cb (by omega)]
      exact .inl ⟨rfl, hI⟩
    | some r =>
      rw [hfi] at hI
      exact .inr ⟨r, rfl, hI⟩)
  (fun hI => ⟨d, hf, by rw [List.drop_length] at hI; exact hI⟩)
 rw [h1, h2]
theorem NH {α σ ρ : Type} (l : List α) {step : σ × Int → Option ((σ × Int) ⊕ ρ)} (f : Nat → σ → α → σ ⊕ ρ) (fin : σ → ρ) (Inv : Nat → σ → Prop) {a : σ} (hl : l.length ≤ 1000000000) (h0 : Inv 0 a)
    (hs : ∀ (i : Nat) (h : i < l.length) (a : σ), Inv i a → step (a, (i : Int)) = some (match f i a l[i] with | .inl a' => .inl (a', IntKind.i64.wrap ((i : Int) + 1)) | .inr r => .inr r))
    (hn : ∀ (i : Nat) (h : i < l.length) (a a' : σ), Inv i a → f i a l[i] = .inl a' → Inv (i + 1) a')
    (hf : ∀ a, Inv l.length a → step (a, (l.length : Int)) = some (.inr (fin a))) : B3 step (a, 0) = some (Ko f fin 0 a l) := by
 obtain ⟨r, h1, h2⟩ := E8 (step := step) (Post := fun r => r = Ko f fin 0 a l) l.length (fun i a' => Inv i a' ∧ Ko f fin i a' (l.drop i) = Ko f fin 0 a l) (a := a) ⟨h0, by simp⟩
  (fun i a' hi hI => by
    obtain ⟨hI, hR⟩ := hI
    rw [hs i hi a' hI]
    rw [List.drop_eq_getElem_cons hi] at hR
    rw [Jz] at hR
    cases hfi : f i a' l[i] with
    | inl a2 =>
      rw [hfi] at hR
      rw [Cb (by omega)]
      exact .inl ⟨a2, rfl, hn i hi a' a2 hI hfi, hR⟩
    | inr r =>
      rw [hfi] at hR
      exact .inr ⟨r, rfl, hR⟩)
  (fun a' hI => ⟨_, hf a' hI.1, by have := hI.2; rw [List.drop_length] at this; exact this⟩)
 rw [h1, h2]
theorem GI {α ρ : Type} (p : α → Bool) (bad good : ρ) : ∀ (l : List α) (i : Nat), Db (fun _ x => if p x = true then none else some bad) good i l = if l.all p = true then good else bad
  | [], _ => by simp [Db]
  | x :: l, i => by
    unfold Db
    by_cases h : p x = true
    · rw [if_pos h]
      simp only [GI p bad good l (i + 1), List.all_cons, h, Bool.true_and]
    · rw [if_neg h]
      have : (List.all (x :: l) p) = false := by simp [List.all_cons, Bool.eq_false_iff.2 h]
      simp [this]
end Go.Idl
namespace Go.Idl
open Go
theorem CH {α : Type} (l : List α) (p : α → Bool) {step : Int → Option (Int ⊕ (Unit ⊕ Bool))} (hl : l.length ≤ 1000000000)
    (hs : ∀ (i : Nat) (h : i < l.length), step (i : Int) = some (if p l[i] = true then .inl (IntKind.i64.wrap ((i : Int) + 1)) else .inr (.inr false)))
    (hf : step (l.length : Int) = some (.inr (.inl ()))) : B3 step 0 = some (if l.all p = true then .inl () else .inr false) := by
 rw [FA l (fun _ x => if p x = true then none else some (.inr false)) (.inl ()) hl (fun i h => by
   rw [hs i h]
   by_cases hp : p l[i] = true
   · simp [hp]
   · simp [hp]) hf, GI]
theorem Hl {α ρ : Type} {f g : Nat → α → Option ρ} {d : ρ} : ∀ {l : List α} {k : Nat}, (∀ i x, k ≤ i → f i x = g i x) → Db f d k l = Db g d k l
  | [], _, _ => rfl
  | x :: l, k, h => by
    rw [Dc, Dc, h k x (Nat.le_refl _)]
    cases g k x with
    | none => exact Hl fun i x hi => h i x (by omega)
    | some r => rfl
theorem JA {α : Type} (p : α → Bool) : ∀ (l : List α) (k : Nat), ∃ j : Int, 0 ≤ j ∧ Db (fun i x => if p x = true then none else some (.inr (i : Int))) (.inl ()) k l = (if l.all p = true then (.inl () : Unit ⊕ Int) else .inr j)
  | [], k => ⟨0, by omega, by simp [Db]⟩
  | x :: l, k => by
    rw [Dc]
    by_cases h : p x = true
    · obtain ⟨j, h1, h2⟩ := JA p l (k + 1)
      exact ⟨j, h1, by simp only [h, if_true]; rw [h2]; simp [h]⟩
    · exact ⟨k, by omega, by simp [h]⟩
theorem Kp (x : UInt8) (a b : Nat) : J4 (x.toNat : Int) (a : Int) (b : Int) = some (decide (a ≤ x.toNat ∧ x.toNat ≤ b)) := by
 unfold J4; by_cases h : (a : Int) ≤ x.toNat
 ·rw [if_pos h]; congr 1; rw [decide_eq_decide]; omega
 ·rw [if_neg h, decide_eq_false (by omega)]
theorem QV (s : Str) (h : s.length ≤ 1000000) : OR s = some (BG s) := by
 unfold OR
 rw [Ab (by omega), FA s (fun i x => if (D7 x || (decide (¬ i = 0) && Cp x)) = true then none else some (.inr false)) (.inl ()) (by omega)
   (fun i hi => by
     simp only [G8]
     rw [if_pos (by omega), Ab (by omega), Int.toNat_natCast, getD_some hi]
     generalize s[i] = x
     have e1 : J4 (x.toNat : Int) 97 122 = _ := Kp x 97 122
     have e2 : J4 (x.toNat : Int) 65 90 = _ := Kp x 65 90
     have e3 : J4 (x.toNat : Int) 48 57 = _ := Kp x 48 57
     rw [e1, e2, e3]
     simp only [Option.bind_some, decide_eq_true_eq]
     by_cases h1 : 97 ≤ x.toNat ∧ x.toNat ≤ 122
     · have : D7 x = true := by simp only [D7, decide_eq_true_eq]; exact .inl h1
       simp [h1, this]
     · by_cases h2 : 65 ≤ x.toNat ∧ x.toNat ≤ 90
       · have : D7 x = true := by simp only [D7, decide_eq_true_eq]; exact .inr h2
         simp [h1, h2, this]
       · have hl : D7 x = false := by simp only [D7, decide_eq_false_iff_not]; omega
         rw [if_pos h1, if_pos h2]
         by_cases h0 : i = 0
         · subst h0
           simp [hl]
         · have h0' : ¬ ((i : Int) = 0) := by omega
           rw [if_neg h0']
           by_cases h3 : 48 ≤ x.toNat ∧ x.toNat ≤ 57
           · have : Cp x = true := by simp only [Cp, Bool.or_eq_true, decide_eq_true_eq]; exact .inr (.inl h3)
             simp [h3, this, h0]
           · rw [if_pos h3]
             by_cases h4 : (x.toNat : Int) = 45
             · have : Cp x = true := by simp only [Cp, Bool.or_eq_true, decide_eq_true_eq]; exact .inr (.inr (by omega))
               simp [h4, this, h0]
             · have : Cp x = false := by simp only [Cp, Bool.or_eq_false_iff, hl, decide_eq_false_iff_not, true_and]; omega
               rw [if_pos h4]
               simp [this, hl])
   (by simp only [G8]; rw [if_neg (by omega)])]
 unfold BG; cases s with
 | nil => simp [Db, G7]
 | cons c t =>
  rw [Dc]; by_cases hc : D7 c = true
  ·have hw : Cp c = true := by simp [Cp, hc]
   simp only [hc, Bool.true_or, if_true]
   rw [Hl (g := fun _ x => if Cp x = true then none else some (.inr false)) (fun i x hi => by
     have : ¬ i = 0 := by omega
     by_cases hx : D7 x = true
     · have : Cp x = true := by simp [Cp, hx]
       simp [hx, this]
     · simp [this, hx]), GI]
   by_cases ha : t.all Cp = true
   ·simp only [ha, if_true, Option.bind_some, Sum.elim_inl, G7, List.all_cons, hw, Bool.and_true]; by_cases h2 : (1 : Int) ≤ (c :: t).length
    ·rw [if_pos h2]; simp; omega
    ·simp at h2; omega
   ·rw [if_neg ha]; simp [List.all_cons, Bool.eq_false_iff.2 ha]
  ·have hc' : D7 c = false := Bool.eq_false_iff.2 hc; simp [hc']
set_option maxHeartbeats 4000000 in
theorem TI (s : Str) (h : s.length ≤ 1000000) : F70 s = some (BG s) := by
 have eL : ∀ x : UInt8, F99 (x.toNat : Int) = some (D7 x) := fun x => by
  unfold F99 D7; by_cases h : (97 ≤ x.toNat ∧ x.toNat ≤ 122) ∨ (65 ≤ x.toNat ∧ x.toNat ≤ 90)
  ·rw [decide_eq_true h]
   repeat' split
   all_goals first | rfl | (exfalso; omega) | (congr 1; rw [decide_eq_true_eq]; omega)
  ·rw [decide_eq_false h]
   repeat' split
   all_goals first | rfl | (exfalso; omega) | (congr 1; rw [decide_eq_false_iff_not]; omega)
 unfold F70 BG; by_cases h1 : (s.length : Int) < 1
 ·rw [if_pos h1, decide_eq_false (by omega)]; simp
 ·rw [if_neg h1]; by_cases h2 : (64 : Int) < s.length
  ·rw [if_pos h2, decide_eq_false (by omega)]; simp
  ·rw [if_neg h2, decide_eq_true (by omega), Ab (by omega), eL]; cases s with
   | nil => simp at h1
   | cons c t =>
    simp only [Option.bind_some, List.getD_cons_zero, Bool.true_and]; by_cases hc : D7 c = true
    ·rw [hc, if_neg (by simp), CH (c :: t) Cp (by omega)
       (fun i hi => by
         simp only [Gd]
         rw [if_pos (by omega), Ab (by omega), Int.toNat_natCast, getD_some hi, eL]
         generalize (c :: t)[i] = x
         simp only [Option.bind_some]
         by_cases hx : D7 x = true
         · have : Cp x = true := by simp [Cp, hx]
           rw [if_neg (by simpa using hx), if_pos this]
         · have hx' : D7 x = false := Bool.eq_false_iff.2 hx
           rw [if_pos hx]
           by_cases hw : (48 ≤ x.toNat ∧ x.toNat ≤ 57) ∨ x.toNat = 45
           · have : Cp x = true := by simp only [Cp, Bool.or_eq_true, decide_eq_true_eq]; exact .inr hw
             rw [if_pos this]
             repeat' split
             all_goals first | rfl | (exfalso; omega)
           · have : Cp x = false := by simp only [Cp, Bool.or_eq_false_iff, hx', decide_eq_false_iff_not, true_and]; exact hw
             rw [this]
             simp only [Bool.false_eq_true, if_false]
             repeat' split
             all_goals first | rfl | (exfalso; omega))
       (by simp only [Gd]; rw [if_neg (by omega)])]
     by_cases ha : (c :: t).all Cp = true
     ·simp only [ha, if_true, Option.bind_some, Sum.elim_inl, Hz, Bool.and_true]
     ·rw [if_neg ha, Bool.eq_false_iff.2 ha]; simp
    ·have hc' : D7 c = false := Bool.eq_false_iff.2 hc; simp [hc']
def J6 (x : Cs) : Bool := BG x.fType && decide (x.fType.map Cd = x.fType) && decide (1 ≤ x.A5.length ∧ x.A5.length ≤ 200)
def Kq (d : List Cs) : Bool := decide (d.length ≤ 16) && d.all J6
def Wa (d : List Cs) : Prop := d.length ≤ 1000000 ∧ ∀ x, x ∈ d → x.fType.length ≤ 1000000 ∧ x.A5.length ≤ 1000000
theorem GJ (s : Str) (h : s.length ≤ 1000000) : F57 s = some (s.map Cd) := Ab (by omega)
theorem QW (x : Cs) (h : x.fType.length ≤ 1000000 ∧ x.A5.length ≤ 1000000) : OS x = some (J6 x) := by
 unfold OS J6; rw [QV _ h.1, GJ _ h.1]; simp only [Option.bind_some]; by_cases h1 : BG x.fType = true
 ·rw [if_pos h1, h1]; by_cases h2 : x.fType.map Cd = x.fType
  ·rw [if_pos h2, decide_eq_true h2]; by_cases h3 : (1 : Int) ≤ x.A5.length
   ·rw [if_pos h3]; congr 1; simp only [Bool.true_and]; rw [decide_eq_decide]; omega
   ·rw [if_neg h3, decide_eq_false (p := 1 ≤ x.A5.length ∧ _) (by omega)]; rfl
  ·rw [if_neg h2, decide_eq_false h2]; simp
 ·rw [if_neg h1, Bool.eq_false_iff.2 h1]; simp
theorem QX (d : List Cs) (h : Wa d) : OT d = some (!d.all J6) := by
 unfold OT QN; obtain ⟨j, hj, hf⟩ := JA J6 d 0
 rw [FA d (fun i x => if J6 x = true then none else some (.inr (i : Int))) (.inl ()) (by have := h.1; omega)
   (fun i hi => by
     simp only [G9, QL]
     rw [if_pos (by omega), Ab (by omega), Int.toNat_natCast, getD_some hi, QW _ (h.2 _ (List.getElem_mem _))]
     simp only [Option.bind_some]
     cases J6 d[i] <;> simp)
   (by simp only [G9]; rw [if_neg (by omega)]), hf]
 by_cases h1 : d.all J6 = true
 ·rw [if_pos h1, h1]; simp [Hy]
 ·rw [if_neg h1, Bool.eq_false_iff.2 h1]; simp [hj]
theorem TJ (d : List Cs) (h : Wa d) : F79 d = some (if Kq d = true then 0 else 2) := by
 unfold F79 Kq; by_cases h1 : (16 : Int) < d.length
 ·rw [if_pos h1, decide_eq_false (by omega)]; simp
 ·rw [if_neg h1, decide_eq_true (by omega)]; unfold QT; rw [QX d h]; simp only [Option.bind_some, Bool.not_not, Bool.true_and]; by_cases h2 : d.all J6 = true
  ·rw [if_neg (by simpa using h2), if_pos h2]
  ·rw [if_pos h2, if_neg h2]
theorem Li {f : UInt8 → UInt8} : ∀ (l acc : Str) (k : Nat), Ko (fun _ (a : Str) x => (.inl (a ++ [f x]) : Str ⊕ Str)) id k acc l = acc ++ l.map f
  | [], acc, _ => by simp [Ko]
  | x :: l, acc, k => by
    rw [Jz]
    simp only
    rw [Li l]
    simp
theorem TK (s : Str) (h : s.length ≤ 1000000) : F71 s = some (s.map Cd) := by
 unfold F71; have key := NH (l := s) (step := fun (s_1 : Str × Int) => GF s s_1.1 s_1.2) (fun _ (a : Str) x => (.inl (a ++ [Cd x]) : Str ⊕ Str)) id (fun i a => a.length = i) (a := []) (by omega) rfl
  (fun i hi a hI => by
    simp only [GF]
    rw [if_pos (by omega), Ab (by omega), Int.toNat_natCast, getD_some hi]
    generalize s[i] = x
    obtain ⟨e1, e2⟩ := G4 x
    have hx := x.toNat_lt
    by_cases h1 : (65 : Int) ≤ x.toNat
    · rw [if_pos h1]
      by_cases h2 : (x.toNat : Int) ≤ 90
      · have hw : IntKind.u8.wrap ((x.toNat : Int) + 32) = (x.toNat : Int) + 32 := wrap_u8 (by omega) (by omega)
        have e3 := e1 ⟨h1, h2⟩
        rw [if_pos h2, hw, Ab (by omega), Ab (by simp; omega)]
        have e4 : ((x.toNat : Int) + 32).toNat = (Cd x).toNat := by omega
        rw [e4, UInt8.ofNat_toNat]
      · rw [if_neg h2, Ab (by omega), Ab (by simp; omega), Int.toNat_natCast, UInt8.ofNat_toNat, e2 (by omega)]
    · rw [if_neg h1, Ab (by omega), Ab (by simp; omega), Int.toNat_natCast, UInt8.ofNat_toNat, e2 (by omega)])
  (fun i hi a a' hI e => by cases e; simp [hI])
  (fun a hI => by simp only [GF]; rw [if_neg (by omega)]; rfl)
 rw [key, Li]; simp [Kh]
theorem Pc (s : Str) (h : s.length ≤ 1000000) : F56 s = some (BG s) := by
 unfold F56; rw [GJ s h, Option.bind_some, TJ _ ⟨by simp, fun x hx => by rw [List.mem_singleton.1 hx]; simpa using h⟩, Option.bind_some]; have e : Kq [(⟨s.map Cd, [120]⟩ : Cs)] = BG s := by
  have h1 := Jn s; have h2 := KX s; simp only [CC] at h1 h2; simp [Kq, J6, h1]; intro _; simpa [Function.comp_def] using h2
 rw [e]; cases BG s <;> simp
theorem DQ {a b : Nat} {s : Str} : s.all (fun x => decide (a ≤ x.toNat ∧ x.toNat ≤ b)) = Bo a b s := rfl
theorem TL (s : Str) (h : s.length ≤ 1000000000) : F34 s = some (Bo 65 90 s) := by
 unfold F34
 rw [Ab (by omega), CH s (fun x => decide (65 ≤ x.toNat ∧ x.toNat ≤ 90)) h
   (fun i hi => by
     simp only [IE, F73]
     rw [if_pos (by omega), Ab (by omega), Int.toNat_natCast, getD_some hi]
     generalize s[i] = x
     by_cases h1 : (65 : Int) ≤ x.toNat
     · rw [if_pos h1, Option.bind_some]
       by_cases h2 : (x.toNat : Int) ≤ 90
       · rw [if_neg (by simpa using h2), if_pos (by simp; omega)]
       · rw [if_pos (by simpa using h2), if_neg (by simp; omega)]
     · rw [if_neg h1, Option.bind_some, if_pos (by simp), if_neg (by simp; omega)])
   (by simp only [IE]; rw [if_neg (by omega)]), DQ]
 cases Bo 65 90 s <;> simp [Kb]
theorem Pd (s : Str) (h : s.length ≤ 1000000000) : La s = some (Bo 33 126 s) := by
 unfold La
 rw [Ab (by omega), CH s (fun x => decide (33 ≤ x.toNat ∧ x.toNat ≤ 126)) h
   (fun i hi => by
     simp only [Ex, F74]
     rw [if_pos (by omega), Ab (by omega), Int.toNat_natCast, getD_some hi]
     generalize s[i] = x
     by_cases h1 : (33 : Int) ≤ x.toNat
     · rw [if_pos h1, Option.bind_some]
       by_cases h2 : (x.toNat : Int) ≤ 126
       · rw [if_neg (by simpa using h2), if_pos (by simp; omega)]
       · rw [if_pos (by simpa using h2), if_neg (by simp; omega)]
     · rw [if_neg h1, Option.bind_some, if_pos (by simp), if_neg (by simp; omega)])
   (by simp only [Ex]; rw [if_neg (by omega)]), DQ]
 cases Bo 33 126 s <;> simp [G6]
theorem Pe (s : Str) (h : s.length ≤ 1000000000) : Lb s = some (Bo 32 126 s) := by
 unfold Lb
 rw [Ab (by omega), CH s (fun x => decide (32 ≤ x.toNat ∧ x.toNat ≤ 126)) h
   (fun i hi => by
     simp only [Ey, F81]
     rw [if_pos (by omega), Ab (by omega), Int.toNat_natCast, getD_some hi]
     generalize s[i] = x
     by_cases h1 : (32 : Int) ≤ x.toNat
     · rw [if_pos h1, Option.bind_some]
       by_cases h2 : (x.toNat : Int) ≤ 126
       · rw [if_neg (by simpa using h2), if_pos (by simp; omega)]
       · rw [if_pos (by simpa using h2), if_neg (by simp; omega)]
     · rw [if_neg h1, Option.bind_some, if_pos (by simp), if_neg (by simp; omega)])
   (by simp only [Ey]; rw [if_neg (by omega)]), DQ]
 cases Bo 32 126 s <;> simp [Ga]
theorem Pf (s : Str) (h : s.length ≤ 1000000000) : Jx s = some (Bo 32 126 s) := by
 unfold Jx
 rw [Ab (by omega), CH s (fun x => decide (32 ≤ x.toNat ∧ x.toNat ≤ 126)) h
   (fun i hi => by
     simp only [EA, F35]
     rw [if_pos (by omega), Ab (by omega), Int.toNat_natCast, getD_some hi]
     generalize s[i] = x
     by_cases h1 : (32 : Int) ≤ x.toNat
     · rw [if_pos h1, Option.bind_some]
       by_cases h2 : (x.toNat : Int) ≤ 126
       · rw [if_neg (by simpa using h2), if_pos (by simp; omega)]
       · rw [if_pos (by simpa using h2), if_neg (by simp; omega)]
     · rw [if_neg h1, Option.bind_some, if_pos (by simp), if_neg (by simp; omega)])
   (by simp only [EA]; rw [if_neg (by omega)]), DQ]
 cases Bo 32 126 s <;> simp [Gc]
theorem Mv (s : Str) (a b : Nat) (h : s.length ≤ 1000000000) : F55 s (a : Int) (b : Int) = some (Bo a b s) := by
 unfold F55
 rw [CH s (fun x => decide (a ≤ x.toNat ∧ x.toNat ≤ b)) h
   (fun i hi => by
     simp only [II]
     rw [if_pos (by omega), Ab (by omega), Int.toNat_natCast, getD_some hi]
     generalize s[i] = x
     by_cases h1 : (x.toNat : Int) < (a : Int)
     · rw [if_pos h1, if_neg (by simp; omega)]
     · rw [if_neg h1]
       by_cases h2 : (b : Int) < (x.toNat : Int)
       · rw [if_pos h2, if_neg (by simp; omega)]
       · rw [if_neg h2, if_pos (by simp; omega)])
   (by simp only [II]; rw [if_neg (by omega)]), DQ]
 cases Bo a b s <;> simp [Kg]
theorem Pg (s : Str) (h : s.length ≤ 1000000000) : F45 s = some (BJ s) := by
 unfold F45 BJ; rw [TL s h]; by_cases h1 : (1 : Int) ≤ s.length
 ·rw [if_pos h1]; by_cases h2 : (s.length : Int) ≤ 20
  ·rw [if_pos h2, decide_eq_true (by omega)]; simp
  ·rw [if_neg h2, decide_eq_false (by omega)]; simp
 ·rw [if_neg h1, decide_eq_false (by omega)]; simp
theorem TM (s : Str) (h : s.length ≤ 1000000000) : F47 s = some (BJ s) := by
 unfold F47 BJ; have e := Mv s 65 90 h; rw [show F55 s 65 90 = _ from e]; by_cases h1 : (1 : Int) ≤ s.length
 ·rw [if_pos h1]; by_cases h2 : (s.length : Int) ≤ 20
  ·rw [if_pos h2, decide_eq_true (by omega)]; simp
  ·rw [if_neg h2, decide_eq_false (by omega)]; simp
 ·rw [if_neg h1, decide_eq_false (by omega)]; simp
theorem Kr {x : UInt8} : (x.toNat : Int) = 47 ↔ x = 47 := by
 constructor
 ·intro h; exact UInt8.toNat_inj.1 (by show x.toNat = 47; omega)
 ·rintro rfl; rfl
theorem GK {x : UInt8} : (x.toNat : Int) = 32 ↔ x = 32 := by
 constructor
 ·intro h; exact UInt8.toNat_inj.1 (by show x.toNat = 32; omega)
 ·rintro rfl; rfl
theorem Ph (s : Str) (h : s.length ≤ 1000000000) : F46 s = some (CN s) := by
 unfold F46 CN; rw [Pd s h]; by_cases h1 : (1 : Int) ≤ s.length
 ·rw [if_pos h1]; by_cases h2 : (s.length : Int) ≤ 200
  ·rw [if_pos h2, Ab (by omega), decide_eq_true (p := 1 ≤ s.length ∧ _) (by omega)]; by_cases h3 : s.getD 0 0 = 47
   ·rw [if_pos (Kr.2 h3), decide_eq_true h3]; simp
   ·rw [if_neg (fun e => h3 (Kr.1 e)), decide_eq_false h3]; simp
  ·rw [if_neg h2, decide_eq_false (p := 1 ≤ s.length ∧ _) (by omega)]; simp
 ·rw [if_neg h1, decide_eq_false (p := 1 ≤ s.length ∧ _) (by omega)]; simp
theorem TN (s : Str) (h : s.length ≤ 1000000000) : F48 s = some (CN s) := by
 unfold F48 CN; have e := Mv s 33 126 h; rw [show F55 s 33 126 = _ from e]; by_cases h1 : (1 : Int) ≤ s.length
 ·rw [if_pos h1]; by_cases h2 : (s.length : Int) ≤ 200
  ·rw [if_pos h2, Ab (by omega), decide_eq_true (p := 1 ≤ s.length ∧ _) (by omega)]; by_cases h3 : s.getD 0 0 = 47
   ·rw [if_pos (Kr.2 h3), decide_eq_true h3]; simp
   ·rw [if_neg (fun e => h3 (Kr.1 e)), decide_eq_false h3]; simp
  ·rw [if_neg h2, decide_eq_false (p := 1 ≤ s.length ∧ _) (by omega)]; simp
 ·rw [if_neg h1, decide_eq_false (p := 1 ≤ s.length ∧ _) (by omega)]; simp
theorem Dd {p : UInt8 → Bool} : ∀ {s : Str} {x : UInt8}, (s.dropWhile p).head? = some x → p x = false
  | [], x, h => by simp at h
  | y :: s, x, h => by
    rw [List.dropWhile_cons] at h
    split at h
    · exact Dd h
    · rename_i hy
      simp at h
      subst h
      simpa using hy
theorem DD {p : UInt8 → Bool} : ∀ {s : Str} {x : UInt8}, x ∈ s.takeWhile p → p x = true
  | [], x, h => by simp at h
  | y :: s, x, h => by
    rw [List.takeWhile_cons] at h
    split at h
    · rename_i hy
      rcases List.mem_cons.1 h with rfl | h
      · exact hy
      · exact DD h
    · simp at h
theorem IK (p : UInt8 → Bool) (s : Str) : ∃ a m b, s = a ++ m ++ b ∧ (∀ x ∈ a, p x = true) ∧ (∀ x ∈ b, p x = true) ∧ (∀ x, m.head? = some x → p x = false) ∧ (∀ x, m.getLast? = some x → p x = false) := by
 refine ⟨s.takeWhile p, ((s.dropWhile p).reverse.dropWhile p).reverse, ((s.dropWhile p).reverse.takeWhile p).reverse, ?_, fun x hx => DD hx, fun x hx => DD (List.mem_reverse.1 hx), fun x hx => ?_, fun x hx => ?_⟩
 ·rw [List.append_assoc, ← List.reverse_append, List.takeWhile_append_dropWhile, List.reverse_reverse, List.takeWhile_append_dropWhile]
 ·have h1 : (s.dropWhile p) = ((s.dropWhile p).reverse.dropWhile p).reverse ++ ((s.dropWhile p).reverse.takeWhile p).reverse := by
   rw [← List.reverse_append, List.takeWhile_append_dropWhile, List.reverse_reverse]
  cases hm : ((s.dropWhile p).reverse.dropWhile p).reverse with
  | nil => rw [hm] at hx; cases hx
  | cons y m =>
   rw [hm] at hx h1; have : (s.dropWhile p).head? = some y := by rw [h1]; rfl
   simp at hx; subst hx; exact Dd this
 ·rw [List.getLast?_reverse] at hx; exact Dd hx
theorem HA (cs a m b : Str) (ha : ∀ x ∈ a, cs.contains x = true) (hb : ∀ x ∈ b, cs.contains x = true) (h1 : ∀ x, m.head? = some x → cs.contains x = false) (h2 : ∀ x, m.getLast? = some x → cs.contains x = false) : Lib.trimS (a ++ m ++ b) cs = m := by
 unfold Lib.trimS Lib.trimLeftS Lib.trimRightS; rw [List.reverse_append, BO _ _ (fun y hy => hb y (by simpa using hy))]; cases hs : m with
 | nil =>
  have : ∀ x ∈ a.reverse, cs.contains x = true := fun x hx => ha x (by simpa using hx); rw [List.append_nil]; have e : a.reverse.dropWhile (fun x => cs.contains x) = [] := by have := BO (p := fun x => cs.contains x) a.reverse [] this; simpa using this
  rw [e]; rfl
 | cons y t =>
  rw [← hs, CZ (s := (a ++ m).reverse) (fun x hx => h2 x (by
    rw [List.head?_reverse] at hx
    rw [List.getLast?_append] at hx
    rw [hs] at hx ⊢
    simpa using hx)), List.reverse_reverse, BO _ _ ha, CZ h1]
theorem NI (s : Str) : Lib.trimS s [32, 9] = trimS s := by
 obtain ⟨a, m, b, e, h1, h2, h3, h4⟩ := IK Bl s; have hc : ∀ x : UInt8, ([32, 9] : Str).contains x = Bl x := fun x => by rw [Bool.eq_iff_iff]; simp [Bl]
 rw [e, Ig a b m h1 h2 h3 h4]; exact HA _ a m b (fun x hx => by rw [hc]; exact h1 x hx) (fun x hx => by rw [hc]; exact h2 x hx) (fun x hx => by rw [hc]; exact h3 x hx) (fun x hx => by rw [hc]; exact h4 x hx)
theorem Pj (s : Str) : Lib.trimS s [32] = s ↔ s.head? ≠ some 32 ∧ s.getLast? ≠ some 32 := by
 have hc : ∀ x : UInt8, ([32] : Str).contains x = (x == 32) := fun x => by rw [Bool.eq_iff_iff]; simp
 constructor
 ·intro h; obtain ⟨a, m, b, e, h1, h2, h3, h4⟩ := IK (fun x => x == 32) s; have := HA [32] a m b (fun x hx => by rw [hc]; exact h1 x hx) (fun x hx => by rw [hc]; exact h2 x hx) (fun x hx => by rw [hc]; exact h3 x hx) (fun x hx => by rw [hc]; exact h4 x hx); rw [← e, h] at this; rw [this]; exact ⟨fun q => by have := h3 _ q; simp at this, fun q => by have := h4 _ q; simp at this⟩
 ·rintro ⟨h1, h2⟩
  have := HA [32] [] s [] (by simp) (by simp) (fun x hx => by rw [hc]; simp; rintro rfl; exact h1 hx) (fun x hx => by rw [hc]; simp; rintro rfl; exact h2 hx); simpa using this
theorem TO (s : Str) (h : s.length ≤ 1000000000) : F80 s [32] = some (Lib.trimS s [32]) := by
 unfold F80; rw [Ab (by omega), Ab ⟨by simp, by simp⟩]
theorem RG (s : Str) (h : s.length ≤ 1000000000) : F80 s [32, 9] = some (trimS s) := by
 unfold F80; rw [Ab (by omega), Ab ⟨by simp, by simp⟩, NI]
theorem Pk (s : Str) (h : s.length ≤ 1000000000) : F58 s = some (Bq s) := by
 unfold F58 Bq; rw [TO s h, Option.bind_some, Pe s h]; have e : s.all (fun x => decide (32 ≤ x.toNat ∧ x.toNat ≤ 126)) = Bo 32 126 s := rfl; rw [e]; by_cases h1 : (s.length : Int) ≤ 200
 ·rw [if_pos h1, decide_eq_true (by omega)]; by_cases h2 : Lib.trimS s [32] = s
  ·obtain ⟨q1, q2⟩ := (Pj s).1 h2; rw [if_pos h2, decide_eq_true q1, decide_eq_true q2]; simp
  ·rw [if_neg h2]; have := mt (Pj s).2 h2; by_cases q1 : s.head? = some 32
   ·simp [q1]
   ·have q2 : s.getLast? = some 32 := Classical.byContradiction fun q => this ⟨q1, q⟩; simp [q2]
 ·rw [if_neg h1, decide_eq_false (by omega)]; simp
theorem TP (s : Str) (h : s.length ≤ 1000000000) : F72 s = some (Bq s) := by
 unfold F72 Bq; have e := Mv s 32 126 h; rw [show F55 s 32 126 = _ from e]; have e : s.all (fun x => decide (32 ≤ x.toNat ∧ x.toNat ≤ 126)) = Bo 32 126 s := rfl; rw [e]; by_cases h1 : (s.length : Int) ≤ 200
 ·rw [if_pos h1, decide_eq_true (p := s.length ≤ 200) (by omega), Option.bind_some]; cases Bo 32 126 s with
  | false => simp
  | true =>
   rw [if_pos rfl]; by_cases h2 : s = []
   ·subst h2; simp
   ·have hl : 0 < s.length := List.length_pos_iff.2 h2; rw [if_neg h2, Ab (by omega)]; have hh : s.head? = some (s.getD 0 0) := by rw [List.head?_eq_getElem?, List.getD_eq_getElem?_getD, List.getElem?_eq_getElem hl]; rfl
    have hw : IntKind.i64.wrap ((s.length : Int) - 1) = ((s.length - 1 : Nat) : Int) := by rw [wrap_i64 (by omega) (by omega)]; omega
    have hg : s.getLast? = some (s.getD (s.length - 1) 0) := by rw [List.getLast?_eq_getElem?, List.getD_eq_getElem?_getD, List.getElem?_eq_getElem (by omega)]; rfl
    rw [hh, hg, hw, Int.toNat_natCast]; by_cases q1 : s.getD 0 0 = 32
    ·rw [if_neg (by simpa using GK.2 q1), q1]; simp
    ·rw [if_pos (fun q => q1 (GK.1 q)), Ab (by omega)]; by_cases q2 : s.getD (s.length - 1) 0 = 32
     ·rw [decide_eq_false (by simpa using GK.2 q2), q2]; simp
     ·rw [decide_eq_true (p := ¬ _) (fun q => q2 (GK.1 q)), decide_eq_true (by simpa using q1), decide_eq_true (by simpa using q2)]; simp
 ·rw [if_neg h1, decide_eq_false (p := s.length ≤ 200) (by omega)]; simp
end Go.Idl
namespace Go.Idl
open Go
abbrev toH (x : S55) : Hd := (x.fName, x.A5)
theorem QY (l : List S55) : (l.map toH).map toS = l := by
 rw [List.map_map]; have : (toS ∘ toH) = id := rfl; rw [this, List.map_id]
theorem MX (l : List Hd) : (l.map toS).map toH = l := by
 rw [List.map_map]; have : (toH ∘ toS) = id := rfl; rw [this, List.map_id]
def okH (l : List Hd) : Bool := decide (BI l) && l.all hdB
theorem Lj (l : List Hd) : Iq l = (okH l && decide (l.length ≤ 16)) := rfl
theorem JB : ∀ (l : List Hd) (x : Hd), BI (l ++ [x]) ↔ BI l ∧ ∀ y, l.getLast? = some y → lt8 y.1 x.1 := by
 intro l x; rw [BI, List.pairwise_append]; constructor
 ·rintro ⟨h1, _, h3⟩
  exact ⟨h1, fun y hy => h3 y (List.mem_of_getLast? hy) x (by simp)⟩
 ·rintro ⟨h1, h2⟩
  refine ⟨h1, by simp, fun a ha b hb => ?_⟩; rw [List.mem_singleton.1 hb]; have hne : l ≠ [] := List.ne_nil_of_mem ha; have hlast := h2 _ (List.getLast?_eq_some_getLast hne); obtain ⟨i, hi, rfl⟩ := List.getElem_of_mem ha; rcases Nat.lt_or_ge i (l.length - 1) with q | q
  ·have hp := List.pairwise_iff_getElem.1 h1 i (l.length - 1) hi (by omega) q; rw [List.getLast_eq_getElem] at hlast; exact EN hp hlast
  ·have e : i = l.length - 1 := by omega
   subst e; rw [List.getLast_eq_getElem] at hlast; exact hlast
theorem Pm (l : List S55) (hl : l.length ≤ 1000000) (hb : ∀ x ∈ l, x.fName.length ≤ 1000000 ∧ x.A5.length ≤ 1000000) : B3 (fun (s : Int) => Ez l s) 0 = some (if okH (l.map toH) = true then .inl () else .inr false) := by
 obtain ⟨r, h1, h2⟩ := ET (step := fun (s : Int) => Ez l s) (Post := fun y => y = if okH (l.map toH) = true then .inl () else .inr false) l.length (fun i => BI ((l.map toH).take i) ∧ ((l.map toH).take i).all hdB = true) (by simp [BI])
  (fun i hi hI => by
    obtain ⟨r1, r2⟩ := hI
    obtain ⟨n1, n2⟩ := hb l[i] (List.getElem_mem _)
    have hm : i < (l.map toH).length := by simpa using hi
    have hx : (l.map toH)[i] = toH l[i] := by simp
    have bad : (¬ (BG l[i].fName = true) ∨ ¬ CC l[i].fName = l[i].fName ∨ ¬ (Bq l[i].A5 = true) ∨ l[i].fName = Ct ∨ l[i].fName = Ee) → okH (l.map toH) = false := fun h => by
      have : hdB (toH l[i]) = false := by
        unfold hdB toH
        rcases h with h | h | h | h | h
        · simp [Bool.eq_false_iff.2 h]
        · simp [h]
        · simp [Bool.eq_false_iff.2 h]
        · simp [h]
        · simp [h]
      unfold okH
      have : (l.map toH).all hdB = false := List.all_eq_false.2 ⟨_, List.getElem_mem hm, by rw [hx, this]; simp⟩
      rw [this, Bool.and_false]
    have e1 : Ez l (i : Int) = if ¬ (BG l[i].fName = true) then some (.inr (.inr false)) else if ¬ CC l[i].fName = l[i].fName then some (.inr (.inr false)) else if ¬ (Bq l[i].A5 = true) then some (.inr (.inr false)) else if l[i].fName = Ct then some (.inr (.inr false)) else if l[i].fName = Ee then some (.inr (.inr false)) else if (0 : Int) < i then (if ¬ Op.bytesLess (l.getD (i - 1) S55.zero).fName l[i].fName = true then some (.inr (.inr false)) else some (.inl ((i + 1 : Nat) : Int))) else some (.inl ((i + 1 : Nat) : Int)) := by
      simp only [Ez]
      rw [if_pos (by omega), Ab (by omega), Int.toNat_natCast, getD_some hi, Pc _ n1, Option.bind_some, GJ _ n1, Option.bind_some, Pk _ (by omega), Option.bind_some]
      by_cases h0 : (0 : Int) < i
      · have hw : IntKind.i64.wrap ((i : Int) - 1) = ((i - 1 : Nat) : Int) := by rw [wrap_i64 (by omega) (by omega)]; omega
        rw [if_pos h0, if_pos h0, hw, Ab (by omega), Int.toNat_natCast, Cb (by omega)]
        rfl
      · rw [if_neg h0, if_neg h0, Cb (by omega)]
        rfl
    by_cases q1 : BG l[i].fName = true
    case neg => exact .inr ⟨_, by rw [e1, if_pos q1], by rw [bad (.inl q1)]; rfl⟩
    by_cases q2 : CC l[i].fName = l[i].fName
    case neg => exact .inr ⟨_, by rw [e1, if_neg (by simpa using q1), if_pos q2], by rw [bad (.inr (.inl q2))]; rfl⟩
    by_cases q3 : Bq l[i].A5 = true
    case neg => exact .inr ⟨_, by rw [e1, if_neg (by simpa using q1), if_neg (by simpa using q2), if_pos q3], by rw [bad (.inr (.inr (.inl q3)))]; rfl⟩
    by_cases q4 : l[i].fName = Ct
    case pos => exact .inr ⟨_, by rw [e1, if_neg (by simpa using q1), if_neg (by simpa using q2), if_neg (by simpa using q3), if_pos q4], by rw [bad (.inr (.inr (.inr (.inl q4))))]; rfl⟩
    by_cases q5 : l[i].fName = Ee
    case pos => exact .inr ⟨_, by rw [e1, if_neg (by simpa using q1), if_neg (by simpa using q2), if_neg (by simpa using q3), if_neg q4, if_pos q5], by rw [bad (.inr (.inr (.inr (.inr q5))))]; rfl⟩
    rw [e1, if_neg (by simpa using q1), if_neg (by simpa using q2), if_neg (by simpa using q3), if_neg q4, if_neg q5]
    have hgood : hdB (toH l[i]) = true := by simp only [hdB, toH, Bool.and_eq_true, decide_eq_true_eq]; exact ⟨⟨⟨⟨q1, q2⟩, q3⟩, q4⟩, q5⟩
    have ha : ((l.map toH).take (i + 1)).all hdB = true := by
      rw [List.take_succ_eq_append_getElem hm, List.all_append, r2, hx]
      simp [hgood]
    by_cases h0 : (0 : Int) < i
    · rw [if_pos h0]
      have hi1 : i - 1 < l.length := by omega
      rw [getD_some hi1]
      by_cases q6 : Op.bytesLess l[i - 1].fName l[i].fName = true
      · rw [if_neg (by simpa using q6)]
        refine .inl ⟨rfl, ?_, ha⟩
        rw [List.take_succ_eq_append_getElem hm, hx]
        refine (JB _ _).2 ⟨r1, fun y hy => ?_⟩
        rw [List.getLast?_take, if_neg (by omega)] at hy
        have : (l.map toH)[i - 1]? = some (toH l[i - 1]) := by simp [hi1]
        rw [this] at hy
        simp at hy
        rw [← hy]
        exact q6
      · rw [if_pos q6]
        refine .inr ⟨_, rfl, ?_⟩
        have : ¬ BI (l.map toH) := fun h => by
          have := List.pairwise_iff_getElem.1 h (i - 1) i (by simpa using hi1) hm (by omega)
          simp only [List.getElem_map, toH] at this
          exact q6 this
        unfold okH
        rw [decide_eq_false this]; rfl
    · rw [if_neg h0]
      refine .inl ⟨rfl, ?_, ha⟩
      have : i = 0 := by omega
      subst this
      rw [List.take_succ_eq_append_getElem hm]
      simp [BI])
  (fun hI => by
    refine ⟨_, by simp only [Ez]; rw [if_neg (by omega)], ?_⟩
    have hlen : (l.map toH).length = l.length := by simp
    rw [← hlen, List.take_length] at hI
    unfold okH
    rw [decide_eq_true hI.1, hI.2]; rfl)
 rw [h1, h2]
theorem Pn (l : List S55) (hl : l.length ≤ 1000000) (hb : ∀ x ∈ l, x.fName.length ≤ 1000000 ∧ x.A5.length ≤ 1000000) : B3 (fun (s : Int) => ED l s) 0 = some (if okH (l.map toH) = true then .inl () else .inr false) := by
 obtain ⟨r, h1, h2⟩ := ET (step := fun (s : Int) => ED l s) (Post := fun y => y = if okH (l.map toH) = true then .inl () else .inr false) l.length (fun i => BI ((l.map toH).take i) ∧ ((l.map toH).take i).all hdB = true) (by simp [BI])
  (fun i hi hI => by
    obtain ⟨r1, r2⟩ := hI
    obtain ⟨n1, n2⟩ := hb l[i] (List.getElem_mem _)
    have hm : i < (l.map toH).length := by simpa using hi
    have hx : (l.map toH)[i] = toH l[i] := by simp
    have bad : (¬ (BG l[i].fName = true) ∨ ¬ CC l[i].fName = l[i].fName ∨ ¬ (Bq l[i].A5 = true) ∨ l[i].fName = Ct ∨ l[i].fName = Ee) → okH (l.map toH) = false := fun h => by
      have : hdB (toH l[i]) = false := by
        unfold hdB toH
        rcases h with h | h | h | h | h
        · simp [Bool.eq_false_iff.2 h]
        · simp [h]
        · simp [Bool.eq_false_iff.2 h]
        · simp [h]
        · simp [h]
      unfold okH
      have : (l.map toH).all hdB = false := List.all_eq_false.2 ⟨_, List.getElem_mem hm, by rw [hx, this]; simp⟩
      rw [this, Bool.and_false]
    have e1 : ED l (i : Int) = if ¬ (BG l[i].fName = true) then some (.inr (.inr false)) else if ¬ CC l[i].fName = l[i].fName then some (.inr (.inr false)) else if ¬ (Bq l[i].A5 = true) then some (.inr (.inr false)) else if l[i].fName = Ct then some (.inr (.inr false)) else if l[i].fName = Ee then some (.inr (.inr false)) else if (0 : Int) < i then (if ¬ Op.bytesLess (l.getD (i - 1) S55.zero).fName l[i].fName = true then some (.inr (.inr false)) else some (.inl ((i + 1 : Nat) : Int))) else some (.inl ((i + 1 : Nat) : Int)) := by
      simp only [ED]
      rw [if_pos (by omega), Ab (by omega), Int.toNat_natCast, getD_some hi, TI _ n1, Option.bind_some, TK _ n1, Option.bind_some, TP _ (by omega), Option.bind_some]
      by_cases h0 : (0 : Int) < i
      · have hw : IntKind.i64.wrap ((i : Int) - 1) = ((i - 1 : Nat) : Int) := by rw [wrap_i64 (by omega) (by omega)]; omega
        rw [if_pos h0, if_pos h0, hw, Ab (by omega), Int.toNat_natCast, Cb (by omega)]
        rfl
      · rw [if_neg h0, if_neg h0, Cb (by omega)]
        rfl
    by_cases q1 : BG l[i].fName = true
    case neg => exact .inr ⟨_, by rw [e1, if_pos q1], by rw [bad (.inl q1)]; rfl⟩
    by_cases q2 : CC l[i].fName = l[i].fName
    case neg => exact .inr ⟨_, by rw [e1, if_neg (by simpa using q1), if_pos q2], by rw [bad (.inr (.inl q2))]; rfl⟩
    by_cases q3 : Bq l[i].A5 = true
    case neg => exact .inr ⟨_, by rw [e1, if_neg (by simpa using q1), if_neg (by simpa using q2), if_pos q3], by rw [bad (.inr (.inr (.inl q3)))]; rfl⟩
    by_cases q4 : l[i].fName = Ct
    case pos => exact .inr ⟨_, by rw [e1, if_neg (by simpa using q1), if_neg (by simpa using q2), if_neg (by simpa using q3), if_pos q4], by rw [bad (.inr (.inr (.inr (.inl q4))))]; rfl⟩
    by_cases q5 : l[i].fName = Ee
    case pos => exact .inr ⟨_, by rw [e1, if_neg (by simpa using q1), if_neg (by simpa using q2), if_neg (by simpa using q3), if_neg q4, if_pos q5], by rw [bad (.inr (.inr (.inr (.inr q5))))]; rfl⟩
    rw [e1, if_neg (by simpa using q1), if_neg (by simpa using q2), if_neg (by simpa using q3), if_neg q4, if_neg q5]
    have hgood : hdB (toH l[i]) = true := by simp only [hdB, toH, Bool.and_eq_true, decide_eq_true_eq]; exact ⟨⟨⟨⟨q1, q2⟩, q3⟩, q4⟩, q5⟩
    have ha : ((l.map toH).take (i + 1)).all hdB = true := by
      rw [List.take_succ_eq_append_getElem hm, List.all_append, r2, hx]
      simp [hgood]
    by_cases h0 : (0 : Int) < i
    · rw [if_pos h0]
      have hi1 : i - 1 < l.length := by omega
      rw [getD_some hi1]
      by_cases q6 : Op.bytesLess l[i - 1].fName l[i].fName = true
      · rw [if_neg (by simpa using q6)]
        refine .inl ⟨rfl, ?_, ha⟩
        rw [List.take_succ_eq_append_getElem hm, hx]
        refine (JB _ _).2 ⟨r1, fun y hy => ?_⟩
        rw [List.getLast?_take, if_neg (by omega)] at hy
        have : (l.map toH)[i - 1]? = some (toH l[i - 1]) := by simp [hi1]
        rw [this] at hy
        simp at hy
        rw [← hy]
        exact q6
      · rw [if_pos q6]
        refine .inr ⟨_, rfl, ?_⟩
        have : ¬ BI (l.map toH) := fun h => by
          have := List.pairwise_iff_getElem.1 h (i - 1) i (by simpa using hi1) hm (by omega)
          simp only [List.getElem_map, toH] at this
          exact q6 this
        unfold okH
        rw [decide_eq_false this]; rfl
    · rw [if_neg h0]
      refine .inl ⟨rfl, ?_, ha⟩
      have : i = 0 := by omega
      subst this
      rw [List.take_succ_eq_append_getElem hm]
      simp [BI])
  (fun hI => by
    refine ⟨_, by simp only [ED]; rw [if_neg (by omega)], ?_⟩
    have hlen : (l.map toH).length = l.length := by simp
    rw [← hlen, List.take_length] at hI
    unfold okH
    rw [decide_eq_true hI.1, hI.2]; rfl)
 rw [h1, h2]
def FB (l : List S55) : Prop := l.length ≤ 1000000 ∧ ∀ x ∈ l, x.fName.length ≤ 1000000 ∧ x.A5.length ≤ 1000000
theorem Mw (l : List S55) (b : Str) (h : FB l) : F27 l b = some (CP (l.map toH) b) := by
 unfold F27; rw [Pm l h.1 h.2]; unfold CP; rw [Lj]; cases okH (l.map toH) with
 | false => simp
 | true =>
  simp only [if_true, Option.bind_some, Sum.elim_inl, Ke, List.length_map, Bool.true_and]; by_cases h1 : (l.length : Int) ≤ 16
  ·rw [if_pos h1, decide_eq_true (p := l.length ≤ 16) (by omega), Bool.true_and]; congr 1; rw [decide_eq_decide]; omega
  ·rw [if_neg h1, decide_eq_false (p := l.length ≤ 16) (by omega)]; rfl
theorem TQ (l : List S55) (h : FB l) : F44 l = some (Iq (l.map toH)) := by
 unfold F44; rw [Pn l h.1 h.2, Lj]; cases okH (l.map toH) with
 | false => simp
 | true =>
  simp only [if_true, Option.bind_some, Sum.elim_inl, Ki, List.length_map, Bool.true_and]; congr 1; rw [decide_eq_decide]; omega
theorem Ce (a b : List Str) : AI (a ++ b) = AI a ++ AI b := List.flatMap_append
theorem FC (l : List Str) : l.length ≤ (AI l).length := by
 induction l with
 | nil => simp
 | cons x l ih =>
  rw [show AI (x :: l) = (x ++ [13, 10]) ++ AI l from rfl, List.length_append, List.length_append]; simp only [List.length_cons, List.length_nil]; omega
theorem Po (l : List Str) (h : (AI l).length ≤ 1000000000) : B3 (fun (s : (List UInt8) × Int) => Da l s.1 s.2) ([], 0) = some (AI l) := by
 have hlen : l.length ≤ 1000000000 := by
  have := FC l; omega
 obtain ⟨r, h1, h2⟩ := E8 (step := fun (s : (List UInt8) × Int) => Da l s.1 s.2) (Post := fun y => y = AI l) l.length (fun i a => a = AI (l.take i)) (a := []) rfl
  (fun i a hi hI => by
    subst hI
    have ht := List.take_succ_eq_append_getElem hi
    have h3 : (AI (l.take (i + 1))).length ≤ (AI l).length := by
      conv => rhs; rw [← List.take_append_drop (i + 1) l, Ce]
      simp
    have e : AI (l.take (i + 1)) = AI (l.take i) ++ l[i] ++ [13, 10] := by
      rw [ht, Ce]; simp [AI]
    rw [e, List.length_append, List.length_append] at h3
    simp only [List.length_cons, List.length_nil] at h3
    refine .inl ⟨_, ?_, e.symm⟩
    simp only [Da]
    rw [if_pos (by omega), Ab (by omega), Int.toNat_natCast, getD_some hi, Ab (by omega), Ab (by simp; omega), Cb (by omega)])
  (fun a hI => by
    subst hI
    refine ⟨_, by simp only [Da]; rw [if_neg (by omega)], by rw [List.take_length]⟩)
 rw [h1, h2]
theorem Pp (l : List Str) (h : (AI l).length ≤ 1000000000) : Lc l = some (AI l) := by
 unfold Lc; rw [Po l h]; rfl
theorem JC (f : Str) (l : List Hd) (last : Str) (i : Nat) : (AI (f :: ((l.take i).map Bc))).length ≤ (Cw f l last).length := by
 unfold Cw
 conv => rhs; rw [← List.take_append_drop i l, List.map_append, List.append_assoc, ← List.cons_append, Ce]
 simp
theorem TR (f : Str) (l : List S55) (last : Str) (h : (Cw f (l.map toH) last).length ≤ 1000000000) : Ld f l last = some (Cw f (l.map toH) last) := by
 have hl : l.length ≤ 1000000000 := by
  have := FC (f :: ((l.map toH).map Bc ++ [last, []])); unfold Cw at h; simp only [List.length_cons, List.length_append, List.length_map, List.length_nil] at this; omega
 unfold Ld; obtain ⟨r, h1, h2⟩ := E8 (step := fun (s : (List (List UInt8)) × Int) => DN l s.1 s.2) (Post := fun y => y = f :: (l.map toH).map Bc) l.length (fun i a => a = f :: ((l.map toH).take i).map Bc) (a := [f]) rfl
  (fun i a hi hI => by
    subst hI
    have hm : i < (l.map toH).length := by simpa using hi
    have ht := List.take_succ_eq_append_getElem hm
    have hx : (l.map toH)[i] = toH l[i] := by simp
    have h3 := JC f (l.map toH) last (i + 1)
    rw [ht, hx] at h3
    have h4 : (Bc (toH l[i])).length ≤ 1000000000 := by
      have e : AI (f :: (((l.map toH).take i ++ [toH l[i]]).map Bc)) = AI (f :: ((l.map toH).take i).map Bc) ++ (Bc (toH l[i]) ++ [13, 10]) := by
        rw [List.map_append, ← List.cons_append, Ce]; simp [AI]
      rw [e] at h3
      simp at h3
      simp
      omega
    have eh : (l[i].fName ++ [58, 32]) ++ l[i].A5 = Bc (toH l[i]) := by simp [Bc, toH]
    have h5 : l[i].fName.length + l[i].A5.length + 2 ≤ 1000000000 := by
      rw [← eh] at h4; simp at h4; omega
    refine .inl ⟨f :: ((l.map toH).take (i + 1)).map Bc, ?_, rfl⟩
    simp only [DN]
    rw [if_pos (by omega), Ab (by omega), Int.toNat_natCast, getD_some hi, Ab (by simp; omega), Ab (by simp; omega), Ab (by simp; omega), Cb (by omega), eh, ht, hx]
    simp)
  (fun a hI => by
    subst hI
    refine ⟨_, by simp only [DN]; rw [if_neg (by omega)], ?_⟩
    have : (l.map toH).take l.length = l.map toH := by rw [show l.length = (l.map toH).length by simp, List.take_length]
    rw [this])
 rw [h1, h2, Option.bind_some, Gb, Ab (by simp; omega)]; have e : (f :: (l.map toH).map Bc) ++ [last, []] = f :: ((l.map toH).map Bc ++ [last, []]) := rfl; rw [e, Pp _ h]; rfl
theorem Gf (n : Nat) (h : n ≤ 1000000000) : F29 (n : Int) = some (Lib.decDigits n) := by
 unfold F29; rw [Ab (by omega)]; unfold Lib.itoa; rw [if_neg (by omega)]; simp
theorem Pq : ∀ (n : Nat) (acc : Str), acc.length + n ≤ 1000000000000000000 → B3 (fun v : Int × (List UInt8) => GG v.1 v.2) ((n : Int), acc) = some (Lib.decDigits n ++ acc) := by
 intro n
 induction n using Nat.strongRecOn with
 | _ n ih =>
  intro acc h; have hm : ((n : Int)).tmod 10 = ((n % 10 : Nat) : Int) := by rw [Int.tmod_eq_emod_of_nonneg (by omega)]; omega
  have hd : ((n : Int)).tdiv 10 = ((n / 10 : Nat) : Int) := by rw [Int.tdiv_eq_ediv_of_nonneg (by omega)]; omega
  have hw : IntKind.i64.wrap (48 + ((n % 10 : Nat) : Int)) = ((48 + n % 10 : Nat) : Int) := by rw [wrap_i64 (by omega) (by omega)]; omega
  have hw8 : IntKind.u8.wrap ((48 + n % 10 : Nat) : Int) = ((48 + n % 10 : Nat) : Int) := wrap_u8 (by omega) (by omega); have hwd : IntKind.i64.wrap ((n / 10 : Nat) : Int) = ((n / 10 : Nat) : Int) := wrap_i64 (by omega) (by omega); have hs : GG (n : Int) acc = some (if n < 10 then .inr ([UInt8.ofNat (48 + n % 10)] ++ acc) else .inl (((n / 10 : Nat) : Int), [UInt8.ofNat (48 + n % 10)] ++ acc)) := by
   unfold GG; rw [hm, hd, hw, hw8, hwd, Int.toNat_natCast, Ab (by omega), Ab (by simp only [List.length_cons, List.length_nil]; omega)]; by_cases hn : n < 10
   ·rw [if_pos hn, if_pos (by omega)]
   ·rw [if_neg hn, if_neg (by omega)]
  rw [Lib.decDigits]; by_cases hn : n < 10
  ·rw [if_pos hn] at hs; rw [dif_pos hn, show n % 10 = n by omega] at *; exact B7 hs
  ·rw [if_neg hn] at hs; rw [dif_neg hn, E3 (s := ((n : Int), acc)) hs, ih (n / 10) (by omega) _ (by simp; omega)]; simp
theorem TS (n : Nat) (h : n ≤ 1000000000) : F39 (n : Int) = some (Lib.decDigits n) := by
 unfold F39; rw [Pq n [] (by simp; omega)]; simp
theorem Pt (q : S42) (h1 : q.Ag.length ≤ 1000000) (h2 : q.Ax.length ≤ 1000000) (hl : FB q.Aj) (hb : q.An.length ≤ 1000000) (ht : (BK q.Ag q.Ax (q.Aj.map toH) q.An).length ≤ 1000000000) :
    F18 q = some (if (BJ q.Ag && CN q.Ax && CP (q.Aj.map toH) q.An) = true then (BK q.Ag q.Ax (q.Aj.map toH) q.An, 0) else ([], 2)) := by
 unfold F18; rw [Pg _ (by omega), Option.bind_some, Ph _ (by omega), Option.bind_some, Mw _ _ hl, Option.bind_some]; by_cases m1 : BJ q.Ag = true
 case neg => rw [if_pos m1, Bool.eq_false_iff.2 m1]; rfl
 rw [if_neg (by simpa using m1), m1]; by_cases m2 : CN q.Ax = true
 case neg => rw [if_pos m2, Bool.eq_false_iff.2 m2]; rfl
 rw [if_neg (by simpa using m2), m2]; by_cases m3 : CP (q.Aj.map toH) q.An = true
 case neg => rw [if_pos m3, Bool.eq_false_iff.2 m3]; rfl
 rw [if_neg (by simpa using m3), m3]; have hd := EF (n := q.An.length) (by omega); rw [Ab (by simp; omega), Ab (by simp; omega), Ab (by simp; omega), Ab (by simp; omega), Gf _ (by omega), Option.bind_some, Ab (by simp; omega)]; have e1 : (((q.Ag ++ [32]) ++ q.Ax) ++ [32]) ++ [72, 84, 84, 80, 47, 49, 46, 49] = q.Ag ++ 32 :: (q.Ax ++ 32 :: Di) := by simp [Di]
 have e2 : ([99, 111, 110, 116, 101, 110, 116, 45, 108, 101, 110, 103, 116, 104, 58, 32] : Str) ++ Lib.decDigits q.An.length = F0 q.An.length := by simp [F0, Ct]
 rw [e1, e2]; unfold BK at ht ⊢; rw [List.length_append] at ht; rw [TR _ _ _ (by omega), Option.bind_some, Ab (by omega)]; rfl
theorem TT (f : Str) (l : List S55) (last : Str) (h : (Cw f (l.map toH) last).length ≤ 1000000000) : Lf f l last = some (Cw f (l.map toH) last) := by
 have hl : l.length ≤ 1000000000 := by
  have := FC (f :: ((l.map toH).map Bc ++ [last, []])); unfold Cw at h; simp only [List.length_cons, List.length_append, List.length_map, List.length_nil] at this; omega
 have hlast : AI (f :: (l.map toH).map Bc) ++ (last ++ [13, 10, 13, 10]) = Cw f (l.map toH) last := by
  unfold Cw; rw [← List.cons_append, Ce]; simp [AI]
 have hlast2 := congrArg List.length hlast; simp only [List.length_append, List.length_cons, List.length_nil] at hlast2; have hf : f.length + 2 ≤ 1000000000 := by
  have : AI (f :: (l.map toH).map Bc) = (f ++ [13, 10]) ++ AI ((l.map toH).map Bc) := by simp [AI]
  rw [this] at hlast2; simp at hlast2; omega
 unfold Lf; rw [Ab (by simp; omega), Ab (by simp; omega)]; obtain ⟨r, h1, h2⟩ := E8 (step := fun (s : (List UInt8) × Int) => DP l s.1 s.2) (Post := fun y => y = AI (f :: (l.map toH).map Bc)) l.length (fun i a => a = AI (f :: ((l.map toH).take i).map Bc)) (a := f ++ [13, 10]) (by simp [AI])
  (fun i a hi hI => by
    subst hI
    have hm : i < (l.map toH).length := by simpa using hi
    have ht := List.take_succ_eq_append_getElem hm
    have hx : (l.map toH)[i] = toH l[i] := by simp
    have h3 := JC f (l.map toH) last (i + 1)
    rw [ht, hx] at h3
    have e : AI (f :: (((l.map toH).take i ++ [toH l[i]]).map Bc)) = AI (f :: ((l.map toH).take i).map Bc) ++ (Bc (toH l[i]) ++ [13, 10]) := by
      rw [List.map_append, ← List.cons_append, Ce]; simp [AI]
    rw [e, List.length_append, List.length_append] at h3
    simp only [List.length_cons, List.length_nil] at h3
    have eh : (l[i].fName ++ [58, 32]) ++ l[i].A5 = Bc (toH l[i]) := by simp [Bc, toH]
    have h5 : l[i].fName.length + l[i].A5.length + 2 = (Bc (toH l[i])).length := by
      rw [← eh]; simp; omega
    refine .inl ⟨AI (f :: ((l.map toH).take (i + 1)).map Bc), ?_, rfl⟩
    simp only [DP]
    rw [if_pos (by omega), Ab (by omega), Int.toNat_natCast, getD_some hi, Ab (by simp; omega), Ab (by simp; omega), eh, Ab (by simp; omega), Ab (by rw [List.length_append]; simp only [List.length_cons, List.length_nil]; omega), Cb (by omega), ht, hx, e])
  (fun a hI => by
    subst hI
    refine ⟨_, by simp only [DP]; rw [if_neg (by omega)], ?_⟩
    have : (l.map toH).take l.length = l.map toH := by rw [show l.length = (l.map toH).length by simp, List.take_length]
    rw [this])
 rw [h1, h2, Option.bind_some, Ge, Ab (by simp; omega), Ab (by rw [List.length_append]; simp only [List.length_cons, List.length_nil]; omega), hlast]
theorem TU (q : S42) (h1 : q.Ag.length ≤ 1000000) (h2 : q.Ax.length ≤ 1000000) (hb : q.An.length ≤ 1000000) (ht : (BK q.Ag q.Ax (q.Aj.map toH) q.An).length ≤ 1000000000) :
    F21 q = some (BK q.Ag q.Ax (q.Aj.map toH) q.An) := by
 unfold F21; have hd := EF (n := q.An.length) (by omega); rw [Ab (by simp; omega), Ab (by simp; omega), Ab (by simp; omega), TS _ (by omega), Option.bind_some, Ab (by simp; omega)]; have e1 : ((q.Ag ++ [32]) ++ q.Ax) ++ [32, 72, 84, 84, 80, 47, 49, 46, 49] = q.Ag ++ 32 :: (q.Ax ++ 32 :: Di) := by simp [Di]
 have e2 : ([99, 111, 110, 116, 101, 110, 116, 45, 108, 101, 110, 103, 116, 104, 58, 32] : Str) ++ Lib.decDigits q.An.length = F0 q.An.length := by simp [F0, Ct]
 rw [e1, e2]; unfold BK at ht ⊢; rw [List.length_append] at ht; rw [TT _ _ _ (by omega), Option.bind_some, Ab (by omega)]
theorem TV (a b : List S55) (h : a.length ≤ 1000000) : F40 a b = some (decide (a = b)) := by
 unfold F40; by_cases hl : (a.length : Int) = b.length
 ·rw [if_neg (by simpa using hl)]; have hl' : a.length = b.length := by omega
  obtain ⟨r, h1, h2⟩ := ET (step := fun (s : Int) => GH a b s) (Post := fun y => y = if a = b then .inl () else .inr false) a.length (fun i => a.take i = b.take i) (by simp)
   (fun i hi hI => by
     have hib : i < b.length := by omega
     simp only [GH]
     rw [if_pos (by omega), Ab (by omega), Ab (by omega), Int.toNat_natCast, getD_some hi, getD_some hib]
     by_cases q : a[i].fName = b[i].fName ∧ a[i].A5 = b[i].A5
     · have e : a[i] = b[i] := by
         generalize a[i] = x at q ⊢
         generalize b[i] = y at q ⊢
         cases x; cases y; simp at q; rw [q.1, q.2]
       rw [if_neg (by simpa using q), Cb (by omega)]
       exact .inl ⟨rfl, by rw [List.take_succ_eq_append_getElem hi, List.take_succ_eq_append_getElem hib, hI, e]⟩
     · rw [if_pos q]
       refine .inr ⟨_, rfl, ?_⟩
       rw [if_neg]
       rintro rfl
       exact q ⟨rfl, rfl⟩)
   (fun hI => by
     refine ⟨_, by simp only [GH]; rw [if_neg (by omega)], ?_⟩
     rw [List.take_length, hl', List.take_length] at hI
     rw [if_pos hI])
  rw [h1, h2]; by_cases e : a = b
  ·simp [e, Kj]
  ·simp [e]
 ·rw [if_pos hl, decide_eq_false]
  rintro rfl
  exact hl rfl
theorem TW (a b : S42) (h : a.Aj.length ≤ 1000000) : F22 a b = some (decide (a = b)) := by
 obtain ⟨a1, a2, a3, a4⟩ := a; obtain ⟨b1, b2, b3, b4⟩ := b; unfold F22; simp only; rw [TV _ _ h, Option.bind_some]; by_cases h1 : a1 = b1 <;> by_cases h2 : a2 = b2 <;> by_cases h3 : a3 = b3 <;> by_cases h4 : a4 = b4 <;> simp [h1, h2, h3, h4]
def IL (l : List S55) (b : Str) : Bool := decide (l.length ≤ 20) && decide (b.length ≤ 3000) && l.all fun x => decide (x.fName.length ≤ 300) && decide (x.A5.length ≤ 300)
theorem TX (l : List S55) (b : Str) : F15 l b = some (IL l b) := by
 unfold F15 IL; by_cases h1 : (20 : Int) < l.length
 ·rw [if_pos h1, decide_eq_false (by omega)]; rfl
 ·rw [if_neg h1, decide_eq_true (by omega)]; by_cases h2 : (3000 : Int) < b.length
  ·rw [if_pos h2, decide_eq_false (by omega)]; rfl
  ·rw [if_neg h2, decide_eq_true (by omega)]
   rw [CH l (fun x => decide (x.fName.length ≤ 300) && decide (x.A5.length ≤ 300)) (by omega)
     (fun i hi => by
       simp only [IG]
       rw [if_pos (by omega), Ab (by omega), Int.toNat_natCast, getD_some hi]
       by_cases q1 : (300 : Int) < l[i].fName.length
       · rw [if_pos q1, decide_eq_false (by omega)]; rfl
       · rw [if_neg q1, decide_eq_true (by omega)]
         by_cases q2 : (300 : Int) < l[i].A5.length
         · rw [if_pos q2, decide_eq_false (by omega)]; rfl
         · rw [if_neg q2, decide_eq_true (by omega)]; rfl)
     (by simp only [IG]; rw [if_neg (by omega)])]
   cases l.all (fun x => decide (x.fName.length ≤ 300) && decide (x.A5.length ≤ 300)) <;> simp [Kf]
theorem Ks {l : List S55} {b : Str} (h : IL l b = true) : FB l ∧ l.length ≤ 20 ∧ b.length ≤ 3000 ∧ ∀ x ∈ l, x.fName.length ≤ 300 ∧ x.A5.length ≤ 300 := by
 simp only [IL, Bool.and_eq_true, decide_eq_true_eq, List.all_eq_true] at h; exact ⟨⟨by omega, fun x hx => by have := h.2 x hx; omega⟩, h.1.1, h.1.2, h.2⟩
end Go.Idl
namespace Go.Idl
open Go
theorem IM : ∀ s : Str, Lib.index s [13, 10] = match B5 s with | some p => (p.1.length : Int) | none => -1
  | [] => by simp [Lib.index, B5]
  | [x] => by
    unfold Lib.index
    simp [Lib.index, B5, List.isPrefixOf]
  | x :: y :: s => by
    have ih := IM (y :: s)
    unfold Lib.index
    rw [ih, B5]
    by_cases h : x = 13 ∧ y = 10
    · rw [if_pos h]
      simp [List.isPrefixOf, h.1, h.2]
    · rw [if_neg h]
      have : ¬ (List.isPrefixOf [13, 10] (x :: y :: s)) = true := by
        simp only [List.isPrefixOf, Bool.and_true, Bool.and_eq_true, beq_iff_eq]
        rintro ⟨h1, h2⟩
        exact h ⟨h1.symm, h2.symm⟩
      rw [if_neg this]
      cases hc : B5 (y :: s) with
      | none => simp
      | some p =>
        have : ¬ ((p.1.length : Int) == -1) = true := by simp
        simp only [Option.map_some, List.length_cons]
        rw [if_neg this]
        simp
theorem NJ (s : Str) : IA s [13, 10] = match B5 s with | some p => (p.1, p.2, true) | none => (s, [], false) := by
 unfold IA; rw [IM]; cases h : B5 s with
 | none => simp
 | some p =>
  have hc := Gx (a := p.1) (b := p.2) h; simp only; rw [if_pos (by omega), Int.toNat_natCast]
  conv => lhs; rw [hc]
  simp
abbrev rd (b : Str) : AA := ⟨⟨b⟩⟩
theorem FD (b : Str) (h : b.length ≤ 4294967280) : F64 (rd b) = some (match B5 b with | some p => .ok (p.1, rd p.2) | none => .error ()) := by
 unfold F64 F88; rw [Ab (by simp only; omega), Ab ⟨by simp, by simp⟩, Option.bind_some]; simp only; rw [NJ]; cases B5 b with
 | none => simp
 | some p => simp
theorem Mx (b : Str) (n : Nat) (h : b.length ≤ 1000000000) : F91 (rd b) (n : Int) = some (if n ≤ b.length then .ok (b.take n, rd (b.drop n)) else .error ()) := by
 unfold F91; by_cases hn : n ≤ b.length
 ·simp only; rw [if_pos (by omega), Ab (by omega), Ab (by omega), Int.toNat_natCast, if_pos hn]; unfold T7; rw [Ab (by rw [List.length_take]; omega)]; rfl
 ·simp only; rw [if_neg (by omega), if_neg hn]
theorem EU : ∀ (m : List Hd) (n : Str), BM m n = FY m n
  | [], n => rfl
  | x :: m, n => by
    have ih := EU m n
    unfold BM
    unfold FY at ih ⊢
    rw [List.find?_cons]
    by_cases h : x.1 = n
    · rw [if_pos h]; simp [h]
    · rw [if_neg h, ih]; simp [h]
theorem Ll (m : List Hd) (n : Str) : (m.any fun y => decide (y.1 = n)) = (BM m n).isSome := by
 rw [EU]; unfold FY; rw [Option.isSome_map, Bool.eq_iff_iff, List.find?_isSome]; simp
theorem Lm : ∀ {m : List Hd} {k v : Str}, BM m k = none → LS m k v = m ++ [(k, v)]
  | [], _, _, _ => rfl
  | p :: m, k, v, h => by
    unfold BM at h
    unfold LS
    split at h
    · cases h
    · rename_i e
      rw [if_neg e, Lm h]
      rfl
theorem Ln (s : Str) : (trimS s).length ≤ s.length := by
 obtain ⟨a, m, b, e, h1, h2, h3, h4⟩ := IK Bl s; rw [e, Ig a b m h1 h2 h3 h4]; simp; omega
theorem JD (m : List Hd) (s : Str) : Es m s = (C2 s 58).bind fun p => if BG p.1 = true ∧ Bq (trimS p.2) = true ∧ ¬ (BM m (CC p.1)).isSome = true then some (CC p.1, trimS p.2) else none := by
 unfold Es F8; cases C2 s 58 with
 | none => rfl
 | some p =>
  simp only [Option.bind_some]; by_cases h1 : BG p.1 = true <;> by_cases h2 : Bq (trimS p.2) = true <;> simp only [h1, h2, Bool.and_true, Bool.true_and, Bool.and_false, Bool.false_and, if_true, if_false, Option.bind_some, Option.bind_none, Ll, true_and, false_and, Bool.false_eq_true]; by_cases h3 : (BM m (CC p.1)).isSome = true
  ·simp [h3]
  ·rw [if_neg h3, if_pos h3]
def De (m : List Hd) (v r : Str) : Option (List Hd × Str) := if v = [] then some (m, r) else (Es m v).bind fun x => CD (m ++ [x]) r
theorem Lo (m : List Hd) (s : Str) : CD m s = (B5 s).bind fun p => De m p.1 p.2 := CE m s
theorem TY (s : Str) (h : s.length ≤ 1000000) : F89 s [58] = some (match C2 s 58 with | some p => (p.1, p.2, true) | none => (s, [], false)) := by
 unfold F89; rw [Ab (by omega), Qo]; cases C2 s 58 <;> rfl
abbrev E65 := (AA × List Hd) ⊕ (Except Unit (List Hd × AA))
def Pv (x : Option (List Hd × Str)) : E65 := match x with | some q => .inl (rd q.2, q.1) | none => .inr (.error ())
theorem MY (v r : Str) (m : List Hd) (hv : v.length ≤ 1000000) (hr : r.length ≤ 1000000) (h0 : ¬ v = []) :
    EB v (rd r) m = some (match Es m v with | none => .inr (.inr (.error ())) | some x => match B5 r with | none => .inr (.inr (.error ())) | some p => .inl (p.1, rd p.2, m ++ [x])) := by
 unfold EB; rw [if_pos h0, TY v hv, Option.bind_some, JD]; cases hc : C2 v 58 with
 | none =>
  simp only [Option.bind_none]; rw [RG _ (by simp), Option.bind_some, GJ _ hv, Option.bind_some]; simp
 | some p =>
  have hl := FX (a := p.1) (b := p.2) hc; have ht := Ln p.2; simp only [Option.bind_some]; rw [RG _ (by omega), Option.bind_some, GJ _ (by omega), Option.bind_some, if_pos trivial, Pc _ (by omega), Option.bind_some]; by_cases h1 : BG p.1 = true
  case neg => simp [h1]
  rw [if_pos h1, Pk _ (by omega), Option.bind_some]; by_cases h2 : Bq (trimS p.2) = true
  case neg => simp [h2]
  rw [if_pos h2]; by_cases h3 : (BM m (CC p.1)).isSome = true
  case pos =>
   rw [if_neg (fun q => q h3)]; simp [h3]
  rw [if_pos h3, Option.bind_some, if_pos ⟨h1, h2, h3⟩, FD _ (by omega), Option.bind_some]; have hm : BM m (CC p.1) = none := by simpa using h3
  cases B5 r with
  | none => rfl
  | some q =>
   simp only [orP]; rw [Lm hm]
theorem Pw : ∀ (k : Nat) (r v : Str) (m : List Hd), r.length ≤ k → v.length ≤ 1000000 → r.length ≤ 1000000 → B3 (fun (s : (List UInt8) × AA × (List (List UInt8 × (List UInt8)))) => EB s.1 s.2.1 s.2.2) (v, rd r, m) = some (Pv (De m v r)) := by
 have done : ∀ (r : Str) (m : List Hd), B3 (fun (s : (List UInt8) × AA × (List (List UInt8 × (List UInt8)))) => EB s.1 s.2.1 s.2.2) ([], rd r, m) = some (Pv (De m [] r)) := fun r m => by
  refine B7 ?_; simp only [EB]; rw [if_neg (by simp)]; simp [De, Pv]
 intro k
 induction k with
 | zero =>
  intro r v m hk hv hr; by_cases h0 : v = []
  ·subst h0; exact done r m
  ·have : r = [] := List.length_eq_zero_iff.1 (by omega); subst this; refine B7 ?_; simp only; rw [MY v [] m hv hr h0, De, if_neg h0]; cases Es m v with
   | none => rfl
   | some x =>
    simp only [Option.bind_some]; rw [CE]; rfl
 | succ k ih =>
  intro r v m hk hv hr; by_cases h0 : v = []
  ·subst h0; exact done r m
  ·cases hT : Es m v with
   | none =>
    refine B7 ?_; simp only; rw [MY v r m hv hr h0, De, if_neg h0, hT]; rfl
   | some x =>
    cases hL : B5 r with
    | none =>
     refine B7 ?_; simp only; rw [MY v r m hv hr h0, De, if_neg h0, hT, hL]; simp only [Option.bind_some]; rw [CE, hL]; rfl
    | some p =>
     have hl := Bn (a := p.1) (b := p.2) hL; rw [E3 (s' := (p.1, rd p.2, m ++ [x])) (by simp only; rw [MY v r m hv hr h0, hT, hL]), ih _ _ _ (by omega) (by omega) (by omega)]; rw [De, De, if_neg h0, hT, Option.bind_some, Lo, hL, Option.bind_some, De]
theorem Px (b : Str) (h : b.length ≤ 1000000) : F65 (rd b) = some (match CD [] b with | some q => .ok (q.1, rd q.2) | none => .error ()) := by
 unfold F65; rw [FD b (by omega), Option.bind_some, Lo]; cases hL : B5 b with
 | none => rfl
 | some p =>
  have hl := Bn (a := p.1) (b := p.2) hL; simp only [orP, Option.bind_some]; rw [Pw p.2.length p.2 p.1 [] (Nat.le_refl _) (by omega) (by omega)]; cases De [] p.1 p.2 with
  | none => rfl
  | some q => rfl
end Go.Idl
namespace Go.Idl
open Go
def EG : Str := [48, 49, 50, 51, 52, 53, 54, 55, 56, 57, 97, 98, 99, 100, 101, 102, 65, 66, 67, 68, 69, 70]
theorem Py : ∀ x : Fin 256, EG.contains (UInt8.ofNat x.1) = (E4 (UInt8.ofNat x.1)).isSome := by decide +kernel
theorem QZ (x : UInt8) : EG.contains x = (E4 x).isSome := by
 have := Py ⟨x.toNat, x.toNat_lt⟩; simpa only [UInt8.ofNat_toNat] using this
theorem JE : ∀ (s : Str) (n : Nat), (I_ n s).isSome = true ↔ ∀ x ∈ s, (E4 x).isSome = true
  | [], n => by simp [I_]
  | x :: s, n => by
    rw [I_]
    cases h : E4 x with
    | none => simp [h]
    | some d => simp [h, JE s]
theorem MZ {x : UInt8} {d : Nat} (h : E4 x = some d) : d < 16 := by
 unfold E4 at h; have := x.toNat_lt; split at h
 ·cases h; omega
 ·split at h
  ·cases h; omega
  ·split at h
   ·cases h; omega
   ·cases h
theorem M_ : ∀ (s : Str) (n : Nat), (n + 1) * 16 ^ s.length ≤ 4294967296 → puG n s = match I_ n s with | some m => (m, 0) | none => (0, 2)
  | [], n, _ => rfl
  | x :: s, n, h => by
    rw [puG, I_]
    cases hx : E4 x with
    | none => rfl
    | some d =>
      have hd := MZ hx
      simp only [Option.bind_some]
      rw [List.length_cons, Nat.pow_succ] at h
      have h1 : 1 ≤ 16 ^ s.length := Nat.pos_of_ne_zero (by simp)
      have h2 : (16 * n + d + 1) * 16 ^ s.length ≤ 4294967296 := by
        refine Nat.le_trans (Nat.mul_le_mul_right _ (show 16 * n + d + 1 ≤ (n + 1) * 16 by omega)) ?_
        rw [Nat.mul_assoc, Nat.mul_comm 16]; exact h
      have h3 : 16 * n + d + 1 ≤ 4294967296 := Nat.le_trans (Nat.le_mul_of_pos_right _ (by omega)) h2
      rw [if_neg (by omega)]
      exact M_ s _ h2
theorem Q_ (s : Str) (h1 : 1 ≤ s.length) (h2 : s.length ≤ 5) : puS s = match Ft s with | some m => (m, 0) | none => (0, 2) := by
 unfold puS Ft; rw [if_neg (by rintro rfl; simp at h1), if_pos ⟨h1, h2⟩]; refine M_ s 0 ?_; have : 16 ^ s.length ≤ 16 ^ 5 := Nat.pow_le_pow_right (by omega) h2; simp only [Nat.zero_add, Nat.one_mul]; omega
theorem R1 (s : Str) (h : s.length ≤ 1000000) : F80 s EG = some (Lib.trimS s EG) := by
 unfold F80; rw [Ab (by omega), Ab ⟨by simp [EG], by decide⟩]
theorem Pz {s : Str} (h : ∀ x ∈ s, (E4 x).isSome = true) : Lib.trimS s EG = [] := by
 have := HA EG s [] [] (fun x hx => by rw [QZ]; exact h x hx) (by simp) (by simp) (by simp); simpa using this
theorem N0 : ∀ (s : Str) (n m : Nat), I_ n s = some m → m < (n + 1) * 16 ^ s.length
  | [], n, m, h => by simp [I_] at h; subst h; simp
  | x :: s, n, m, h => by
    rw [I_] at h
    obtain ⟨d, h1, h2⟩ := Option.bind_eq_some_iff.1 h
    have hd := MZ h1
    have := N0 s _ _ h2
    rw [List.length_cons, Nat.pow_succ]
    refine Nat.lt_of_lt_of_le this ?_
    rw [show (n + 1) * (16 ^ s.length * 16) = ((n + 1) * 16) * 16 ^ s.length by rw [Nat.mul_assoc, Nat.mul_comm 16]]
    exact Nat.mul_le_mul_right _ (by omega)
theorem R2 {s : Str} {m : Nat} (h : Ft s = some m) : m < 1048576 ∧ 1 ≤ s.length ∧ s.length ≤ 5 := by
 unfold Ft at h; split at h
 ·rename_i hl; have := N0 s 0 m h; have h5 : 16 ^ s.length ≤ 16 ^ 5 := Nat.pow_le_pow_right (by omega) hl.2; omega
 ·cases h
theorem Wb (acc s : Str) (ha : acc.length + s.length ≤ 1000000) : EC acc (rd s) = some (match B5 s with
    | none => .inr (.error ())
    | some p => match Ft p.1 with
      | none => .inr (.error ())
      | some n => if n = 0 then (if p.1 = [48] then (match B5 p.2 with | none => .inr (.error ()) | some q => if q.1 = [] then .inr (.ok (acc, rd q.2)) else .inr (.error ())) else .inr (.error ()))
        else if n ≤ p.2.length then (match B5 (p.2.drop n) with | none => .inr (.error ()) | some q => if q.1 = [] then .inl (acc ++ p.2.take n, rd q.2) else .inr (.error ())) else .inr (.error ())) := by
  unfold EC
  rw [FD s (by omega), Option.bind_some]
  cases hL : B5 s with
  | none => rfl
  | some p =>
    have hl := Bn (a := p.1) (b := p.2) hL
    simp only [orP]
    unfold Ta
    rw [Ab ⟨rfl, rfl⟩, Ab (by omega), Option.bind_some]
    by_cases h1 : (1 : Int) ≤ p.1.length
    case neg =>
      have hn : Ft p.1 = none := by unfold Ft; rw [if_neg (by omega)]
      rw [hn]
      simp only
      by_cases q : decide (¬ (puS p.1).2 = 0) = true
      · rw [if_neg (by simpa using q)]
      · rw [if_pos q, if_neg h1]
    by_cases h2 : (p.1.length : Int) ≤ 5
    case neg =>
      have hn : Ft p.1 = none := by unfold Ft; rw [if_neg (by omega)]
      rw [hn]
      simp only
      by_cases q : decide (¬ (puS p.1).2 = 0) = true
      · rw [if_neg (by simpa using q)]
      · rw [if_pos q, if_pos h1, if_neg h2]
    rw [Q_ p.1 (by omega) (by omega)]
    cases hn : Ft p.1 with
    | none => simp
    | some n =>
      have hlt := R2 hn
      have hall : ∀ x ∈ p.1, (E4 x).isSome = true := by
        unfold Ft at hn
        rw [if_pos (by omega)] at hn
        exact (JE _ _).1 (by rw [hn]; rfl)
      simp only
      rw [if_pos (by simp), if_pos h1, if_pos h2, show ([48, 49, 50, 51, 52, 53, 54, 55, 56, 57, 97, 98, 99, 100, 101, 102, 65, 66, 67, 68, 69, 70] : Str) = EG from rfl, R1 _ (by omega), Pz hall, Option.bind_some, if_pos rfl]
      by_cases h0 : n = 0
      · rw [if_pos (by omega), if_pos h0]
        by_cases h48 : p.1 = [48]
        · rw [if_pos h48, if_pos h48, FD p.2 (by omega), Option.bind_some]
          cases B5 p.2 with
          | none => rfl
          | some q =>
            simp only
            split <;> rfl
        · rw [if_neg h48, if_neg h48]
      · rw [if_neg (by omega), if_neg h0, wrap_i64 (by omega) (by omega), Mx p.2 n (by omega), Option.bind_some]
        by_cases hle : n ≤ p.2.length
        · rw [if_pos hle, if_pos hle]
          simp only
          rw [Ab (by rw [List.length_take]; omega), FD _ (by rw [List.length_drop]; omega), Option.bind_some]
          cases B5 (p.2.drop n) with
          | none => rfl
          | some q =>
            simp only
            split <;> rfl
        · rw [if_neg hle, if_neg hle]
theorem PA : ∀ (k : Nat) (s acc : Str), s.length ≤ k → acc.length + s.length ≤ 1000000 → B3 (fun (s : (List UInt8) × AA) => EC s.1 s.2) (acc, rd s) = some (match Cq acc s with | some q => .ok (q.1, rd q.2) | none => .error ()) := by
 have one : ∀ (s acc : Str), acc.length + s.length ≤ 1000000 → (∀ (acc' s' : Str), s'.length + 2 ≤ s.length → acc'.length + s'.length ≤ 1000000 → B3 (fun (s : (List UInt8) × AA) => EC s.1 s.2) (acc', rd s') = some (match Cq acc' s' with | some q => .ok (q.1, rd q.2) | none => .error ())) →
  B3 (fun (s : (List UInt8) × AA) => EC s.1 s.2) (acc, rd s) = some (match Cq acc s with | some q => .ok (q.1, rd q.2) | none => .error ()) := by
  intro s acc ha ih; have hb := Wb acc s ha; rw [Fu]; cases hL : B5 s with
  | none =>
   rw [hL] at hb; exact B7 hb
  | some p =>
   have hl := Bn (a := p.1) (b := p.2) hL; rw [hL] at hb; simp only [Option.bind_some] at hb ⊢; cases hn : Ft p.1 with
   | none =>
    rw [hn] at hb; exact B7 hb
   | some n =>
    rw [hn] at hb; simp only [Option.bind_some] at hb ⊢; by_cases h0 : n = 0
    ·rw [if_pos h0] at hb ⊢; by_cases h48 : p.1 = [48]
     ·rw [if_pos h48] at hb ⊢; cases hL2 : B5 p.2 with
      | none => rw [hL2] at hb; exact B7 hb
      | some q =>
       rw [hL2] at hb; simp only [Option.bind_some] at hb ⊢; by_cases hq : q.1 = []
       ·rw [if_pos hq] at hb ⊢; exact B7 hb
       ·rw [if_neg hq] at hb ⊢; exact B7 hb
     ·rw [if_neg h48] at hb ⊢; exact B7 hb
    ·rw [if_neg h0] at hb ⊢; by_cases hle : n ≤ p.2.length
     ·rw [if_pos hle] at hb ⊢; cases hL2 : B5 (p.2.drop n) with
      | none => rw [hL2] at hb; exact B7 hb
      | some q =>
       have hl2 := Bn (a := q.1) (b := q.2) hL2; rw [List.length_drop] at hl2; rw [hL2] at hb; simp only [Option.bind_some] at hb ⊢; by_cases hq : q.1 = []
       ·rw [if_pos hq] at hb ⊢; have h5 : (acc ++ p.2.take n).length + q.2.length ≤ 1000000 := by rw [List.length_append, List.length_take]; omega
        have h6 := ih (acc ++ p.2.take n) q.2 (by omega) h5; rw [← h6]; exact E3 (s' := (acc ++ p.2.take n, rd q.2)) hb
       ·rw [if_neg hq] at hb ⊢; exact B7 hb
     ·rw [if_neg hle] at hb ⊢; exact B7 hb
 intro k
 induction k with
 | zero => intro s acc hk ha; exact one s acc ha fun acc' s' h _ => by omega
 | succ k ih => intro s acc hk ha; exact one s acc ha fun acc' s' h h2 => ih s' acc' (by omega) h2
theorem TZ (s : Str) (h : s.length ≤ 1000000) : F90 (rd s) = some (match Cq [] s with | some q => .ok (q.1, rd q.2) | none => .error ()) := by
 unfold F90; rw [PA s.length s [] (Nat.le_refl _) (by simpa using h)]; rfl
theorem Dt : ∀ {m : List Hd} {n : Str}, BU m → C4 m n = m.filter fun h => decide (h.1 ≠ n)
  | [], _, _ => rfl
  | x :: m, n, h => by
    rw [BU, List.pairwise_cons] at h
    unfold C4
    rw [List.filter_cons]
    by_cases e : x.1 = n
    · rw [if_pos e, if_neg (by simpa using e)]
      symm
      refine List.filter_eq_self.2 fun y hy => ?_
      have := h.1 y hy
      simp only [decide_eq_true_eq]
      rw [← e]; exact Ne.symm this
    · rw [if_neg e, if_pos (by simpa using e), Dt h.2]
theorem PB {m : List Hd} (h : BU m) : C4 (C4 m Ct) Ee = Dg m := by
 have h2 : BU (C4 m Ct) := by rw [Dt h]; exact List.Pairwise.filter _ h
 rw [Dt h2, Dt h, List.filter_filter]; unfold Dg; congr 1; funext x; rw [Bool.and_comm]
theorem PC (n : Str) (h : ¬ (C1 n).2 = true) : (C1 n).1 ≤ 9223372036854775807 := by
 unfold C1 at h ⊢; cases hA : Lib.atoiAll n with
 | ok v =>
  simp only; unfold Lib.atoiAll at hA; split at hA
  ·cases hA
  ·simp only at hA; split at hA
   ·cases hA
   ·cases hA
   ·split at hA
    ·cases hA
    ·split at hA
     ·cases hA
     ·simp only [Lib.NumEnd.ok.injEq] at hA; rw [← hA]; split <;> omega
 | range => rw [hA] at h; simp at h
 | _ => rw [hA] at h; simp at h
theorem NK (n : Str) (b : Str) (hn : n.length ≤ 1000000) (hb : b.length ≤ 1000000) {α : Type} (g : Str × AA → α) (e0 : α) :
    ((F33 n).bind fun (x21 : Int × Bool) => if ¬ x21.2 = true then (if 0 ≤ x21.1 then ((F29 x21.1).bind fun (x23 : (List UInt8)) => if x23 = n then ((F91 (rd b) x21.1).bind fun (x26 : Except Unit ((List UInt8) × AA)) => orP x26 (fun _ => some e0) (fun y => some (g y))) else (some e0)) else (some e0)) else (some e0)) =
    some (match (Ih n).bind fun k => if k ≤ b.length then some (b.take k, b.drop k) else none with | some q => g (q.1, rd q.2) | none => e0) := by
 unfold F33; rw [Ab (by omega), Option.bind_some]; cases hN : Ih n with
 | some k =>
  obtain ⟨hk, rfl⟩ := Jq.1 hN; rw [KV k (by omega)]; simp only [Option.bind_some]; rw [if_pos (by simp), if_pos (by omega), Gf k hk, Option.bind_some, if_pos rfl, Mx b k (by omega), Option.bind_some]; by_cases hle : k ≤ b.length
  ·rw [if_pos hle, if_pos hle]; rfl
  ·rw [if_neg hle, if_neg hle]; rfl
 | none =>
  simp only [Option.bind_none]; by_cases h1 : (C1 n).2 = true
  ·rw [if_neg (by simpa using h1)]
  ·rw [if_pos h1]; by_cases h2 : 0 ≤ (C1 n).1
   ·rw [if_pos h2]; obtain ⟨v, hv⟩ : ∃ v : Nat, (C1 n).1 = (v : Int) := ⟨(C1 n).1.toNat, by omega⟩; rw [hv]; by_cases hsm : v ≤ 1000000000
    ·rw [Gf v hsm, Option.bind_some, if_neg]; intro e; rw [← e, Eu hsm] at hN; cases hN
    ·unfold F29; by_cases hmax : (v : Int) ≤ 9223372036854775807
     ·rw [Ab ⟨by omega, hmax⟩, Option.bind_some]; by_cases e : Lib.itoa (v : Int) = n
      ·rw [if_pos e, Mx b v (by omega), Option.bind_some, if_neg (by omega)]; rfl
      ·rw [if_neg e]
     ·exfalso; exact hmax (by rw [← hv]; exact PC n h1)
   ·rw [if_neg h2]
end Go.Idl
namespace Go.Idl
open Go
set_option maxRecDepth 100000
abbrev E66 := Except Unit (Str × AA × List Hd)
def IN (m : List Hd) (x : Option (Str × Str)) : E66 := match x with | some q => .ok (q.1, rd q.2, Dg m) | none => .error ()
theorem PD (b : Str) (m : List Hd) (hb : b.length ≤ 1000000) (hm : BU m) (hv : ∀ x ∈ m, x.2.length ≤ 1000000) : F66 (rd b) m = some (IN m (DK m b)) := by
 have hget : ∀ n v, FY m n = some v → v.length ≤ 1000000 := fun n v h => by
  unfold FY at h; obtain ⟨x, h1, rfl⟩ := Option.map_eq_some_iff.1 h; exact hv x (List.mem_of_find?_eq_some h1)
 have hown : C4 (C4 m ([99, 111, 110, 116, 101, 110, 116, 45, 108, 101, 110, 103, 116, 104] : Str)) ([116, 114, 97, 110, 115, 102, 101, 114, 45, 101, 110, 99, 111, 100, 105, 110, 103] : Str) = Dg m := PB hm; have g1 : BM m ([99, 111, 110, 116, 101, 110, 116, 45, 108, 101, 110, 103, 116, 104] : Str) = FY m Ct := EU m Ct; have g2 : BM m ([116, 114, 97, 110, 115, 102, 101, 114, 45, 101, 110, 99, 111, 100, 105, 110, 103] : Str) = FY m Ee := EU m Ee; unfold F66 DK; rw [hown, g1, g2]; cases hl : FY m Ct with
 | none =>
  cases he : FY m Ee with
  | none =>
   simp [IN]
  | some c =>
   have hc := hget _ _ he; simp only [Option.isSome_none, Option.isSome_some, Option.getD_some, Bool.false_eq_true, not_false_eq_true, if_true]; rw [GJ _ hc, Option.bind_some]; by_cases h1 : CC c = OB
   ·rw [if_pos (show c.map Cd = [99, 104, 117, 110, 107, 101, 100] from h1), if_pos h1, TZ b hb, Option.bind_some]; cases Cq [] b with
    | none => rfl
    | some q => rfl
   ·rw [if_neg (show ¬ c.map Cd = [99, 104, 117, 110, 107, 101, 100] from h1), if_neg h1]; rfl
 | some n =>
  have hn := hget _ _ hl; cases he : FY m Ee with
  | some c => simp [IN]
  | none =>
   simp only [Option.isSome_none, Option.isSome_some, Option.getD_some, Bool.false_eq_true, not_true_eq_false, not_false_eq_true, if_true, if_false]; have := NK n b hn hb (fun y => (.ok (y.1, y.2, Dg m) : E66)) (.error ()); rw [this]; cases (Ih n).bind fun k => if k ≤ b.length then some (b.take k, b.drop k) else none with
   | none => rfl
   | some q => rfl
theorem IP {m : List Hd} (h : BU m) : BU (Dg m) := List.Pairwise.filter _ h
theorem JF (l : List Hd) : (BQ l).length = l.length := by
 have key : ∀ (l a : List Hd), (l.foldl EX a).length = a.length + l.length := by
  intro l
  induction l with
  | nil => intro a; rfl
  | cons h l ih =>
   intro a; have hins : ∀ a : List Hd, (EX a h).length = a.length + 1 := by
    intro a
    induction a with
    | nil => rfl
    | cons y a ih => simp only [EX]; split <;> simp [ih]
   rw [List.foldl_cons, ih, hins, List.length_cons]; omega
 rw [BQ, key]; simp
theorem PE (m : List Hd) (hl : m.length ≤ 1000000) (h : BU m) : F67 m = some ((BQ m).map toS) := by
 unfold F67; rw [Ab hl, Ab h]
theorem NL : ∀ (k : Nat) (s : Str) (acc : List Hd) (l : List Hd) (r : Str), s.length ≤ k → BU acc → CD acc s = some (l, r) →
    BU l ∧ l.length ≤ acc.length + s.length ∧ r.length ≤ s.length ∧ ∀ x ∈ l, x ∈ acc ∨ (BG x.1 = true ∧ CC x.1 = x.1 ∧ Bq x.2 = true ∧ x.1.length + x.2.length ≤ s.length) := by
 intro k
 induction k with
 | zero =>
  intro s acc l r hk ha h; rw [List.length_eq_zero_iff.1 (Nat.le_zero.1 hk), CE] at h; cases h
 | succ k ih =>
  intro s acc l r hk ha h; rw [CE] at h; obtain ⟨p, h1, h⟩ := Option.bind_eq_some_iff.1 h; have hl := Bn (a := p.1) (b := p.2) h1; split at h
  ·cases h; exact ⟨ha, by omega, by omega, fun x hx => .inl hx⟩
  ·obtain ⟨x, h2, h⟩ := Option.bind_eq_some_iff.1 h; rw [JD] at h2; obtain ⟨q, h3, h2⟩ := Option.bind_eq_some_iff.1 h2; split at h2
   ·rename_i hc; cases h2; have hq := FX (a := q.1) (b := q.2) h3; have ht := Ln q.2; have hnew : BU (acc ++ [(CC q.1, trimS q.2)]) := by
     rw [BU, List.pairwise_append]; refine ⟨ha, by simp, fun y hy z hz => ?_⟩; rw [List.mem_singleton.1 hz]; intro e; refine hc.2.2 ?_; rw [← Ll]; exact List.any_eq_true.2 ⟨y, hy, by simpa using e⟩
    obtain ⟨r1, r2, r3, r4⟩ := ih p.2 _ l r (by omega) hnew h; refine ⟨r1, by simp at r2; omega, by omega, fun y hy => ?_⟩; rcases r4 y hy with h5 | ⟨h5, h6, h7, h8⟩
    ·rcases List.mem_append.1 h5 with h5 | h5
     ·exact .inl h5
     ·rw [List.mem_singleton.1 h5]; refine .inr ⟨by rw [Jn]; exact hc.1, KX _, hc.2.1, ?_⟩; simp only [CC, List.length_map]; omega
    ·exact .inr ⟨h5, h6, h7, by omega⟩
   ·cases h2
theorem IQ {s : Str} {l : List Hd} {r : Str} (h : CD [] s = some (l, r)) : BU l ∧ l.length ≤ s.length ∧ r.length ≤ s.length ∧ ∀ x ∈ l, BG x.1 = true ∧ CC x.1 = x.1 ∧ Bq x.2 = true ∧ x.1.length + x.2.length ≤ s.length := by
 obtain ⟨h1, h2, h3, h4⟩ := NL s.length s [] l r (Nat.le_refl _) List.Pairwise.nil h; exact ⟨h1, by simpa using h2, h3, fun x hx => (h4 x hx).resolve_left (by simp)⟩
theorem IS {m : List Hd} {s b r : Str} (h : DK m s = some (b, r)) (k : Nat) (hk : s.length ≤ k) : b.length ≤ k ∧ r.length ≤ k := by
 have chunk : ∀ (k : Nat) (s acc b r : Str), s.length ≤ k → Cq acc s = some (b, r) → b.length ≤ acc.length + s.length ∧ r.length ≤ s.length := by
  intro k
  induction k with
  | zero =>
   intro s acc b r hk h; rw [List.length_eq_zero_iff.1 (Nat.le_zero.1 hk), Fu] at h; cases h
  | succ k ih =>
   intro s acc b r hk h; rw [Fu] at h; obtain ⟨p, h1, h⟩ := Option.bind_eq_some_iff.1 h; have hl := Bn (a := p.1) (b := p.2) h1; obtain ⟨n, h2, h⟩ := Option.bind_eq_some_iff.1 h; split at h
   ·split at h
    ·obtain ⟨q, h3, h⟩ := Option.bind_eq_some_iff.1 h; have hl2 := Bn (a := q.1) (b := q.2) h3; split at h
     ·cases h; omega
     ·cases h
    ·cases h
   ·split at h
    ·obtain ⟨q, h3, h⟩ := Option.bind_eq_some_iff.1 h; have hl2 := Bn (a := q.1) (b := q.2) h3; rw [List.length_drop] at hl2; split at h
     ·have := ih q.2 _ b r (by omega) h; rw [List.length_append, List.length_take] at this; omega
     ·cases h
    ·cases h
 unfold DK at h; split at h
 ·cases h
 ·split at h
  ·have := chunk s.length s [] b r (Nat.le_refl _) h; simp only [List.length_nil] at this; omega
  ·cases h
 ·cases h; simp; omega
 ·obtain ⟨j, h1, h⟩ := Option.bind_eq_some_iff.1 h; split at h
  ·cases h; rw [List.length_take, List.length_drop]; omega
  ·cases h
theorem PF (n : Int) : F26 n = some (decide (100 ≤ n ∧ n ≤ 599)) := by
 unfold F26; by_cases h : 100 ≤ n
 ·rw [if_pos h]; congr 1; rw [decide_eq_decide]; omega
 ·rw [if_neg h, decide_eq_false (by omega)]
theorem T_ (s p : Str) (h : s.length ≤ 1000000) (hp : p.length ≤ 1000) : F31 s p = some (if s.take p.length = p ∧ p.length ≤ s.length then (s.drop p.length, true) else (s, false)) := by
 unfold F31 F60 F82; by_cases h1 : p.length ≤ s.length
 ·rw [if_pos (by omega), Ab (by omega), Ab (by omega), Option.bind_some, Int.toNat_natCast]; by_cases h2 : s.take p.length = p
  ·rw [if_neg (by simpa using h2), Ab (by omega), Ab (by omega), if_pos ⟨h2, h1⟩]; rfl
  ·rw [if_pos (by simpa using h2), if_neg (fun q => h2 q.1)]; rfl
 ·rw [if_neg (by omega), Option.bind_some, if_pos (by simp), if_neg (fun q => h1 q.2)]; rfl
theorem U0 (s : Str) (h : s.length ≤ 1000000) : F30 s = some (match E7 s with | some n => .ok ⟨(n : Int), [], []⟩ | none => .error ()) := by
 unfold F30; rw [T_ s _ h (by simp), Option.bind_some]; have hp : ([72, 84, 84, 80, 47, 49, 46, 49, 32] : Str) = Di ++ [32] := rfl; rw [hp]; have hl9 : (Di ++ [32]).length = 9 := rfl; rw [hl9]; unfold E7; by_cases h1 : s.take 9 = Di ++ [32]
 case neg =>
  have hc : ¬ (s.take 9 = Di ++ [32] ∧ 9 ≤ s.length) := fun q => h1 q.1; have hd : ¬ (s.take 9 = Di ++ [32] ∧ 12 ≤ s.length) := fun q => h1 q.1; simp only [if_neg hc, if_neg hd, Bool.false_eq_true, if_false]
 have h9 : 9 ≤ s.length := by
  have := congrArg List.length h1; rw [List.length_take, hl9] at this; omega
 simp only [if_pos (show s.take 9 = Di ++ [32] ∧ 9 ≤ s.length from ⟨h1, h9⟩), if_true]; by_cases h2 : 12 ≤ s.length
 case neg => rw [if_neg (by rw [List.length_drop]; omega), if_neg (fun q => h2 q.2)]
 rw [if_pos (by rw [List.length_drop]; omega), if_pos ⟨h1, h2⟩, Ab (by omega), Ab (by rw [List.length_drop]; omega)]; rw [List.drop_drop]; generalize hT : (s.drop 9).take 3 = T; have hTl : T.length = 3 := by rw [← hT, List.length_take, List.length_drop]; omega
 generalize hR : s.drop (9 + 3) = R; have hRl : R.length ≤ 1000000 := by rw [← hR, List.length_drop]; omega
 unfold F33; rw [Ab (by omega), Option.bind_some]; have tail : ∀ n : Nat, (if R = [] then (some ((.ok (⟨(n : Int), [], []⟩ : S25) : Except Unit S25))) else (gd (0 < R.length) (if (((R.getD 0 0).toNat : Int)) = 32 then ((Jx R).bind fun (x16 : Bool) => if x16 = true then (some ((.ok (⟨(n : Int), [], []⟩ : S25)))) else (some (.error ()))) else (some (.error ()))))) = some (if MW R = true then .ok ⟨(n : Int), [], []⟩ else .error ()) := by
  intro n; unfold MW; by_cases h3 : R = []
  ·rw [if_pos h3]; simp [h3]
  ·have : 0 < R.length := List.length_pos_iff.2 h3; rw [if_neg h3, Ab this, Pf R (by omega)]; by_cases h4 : R.getD 0 0 = 32
   ·rw [if_pos (GK.2 h4), Option.bind_some, decide_eq_false h3, decide_eq_true h4]; cases Bo 32 126 R <;> rfl
   ·rw [if_neg (fun q => h4 (GK.1 q)), decide_eq_false h3, decide_eq_false h4]; rfl
 cases hN : Ih T with
 | some k =>
  obtain ⟨hk, rfl⟩ := Jq.1 hN; rw [KV k (by omega)]; simp only [Bool.false_eq_true, not_false_eq_true, if_true, Option.bind_some]; rw [PF, Option.bind_some]; by_cases hc : 100 ≤ k ∧ k ≤ 599
  ·rw [if_pos (by simp; omega), Gf k hk, Option.bind_some, if_pos rfl, tail k]; by_cases hr : MW R = true
   ·rw [if_pos hr, if_pos ⟨hc.1, hc.2, hr⟩]
   ·rw [if_neg hr, if_neg (fun q => hr q.2.2)]
  ·rw [if_neg (by simp; omega), if_neg (fun q => hc ⟨q.1, q.2.1⟩)]
 | none =>
  simp only [Option.bind_none]; by_cases h3 : (C1 T).2 = true
  ·rw [if_neg (by simpa using h3)]
  ·rw [if_pos h3, PF, Option.bind_some]; by_cases hc : 100 ≤ (C1 T).1 ∧ (C1 T).1 ≤ 599
   ·obtain ⟨v, hv⟩ : ∃ v : Nat, (C1 T).1 = (v : Int) := ⟨(C1 T).1.toNat, by omega⟩; rw [hv] at hc ⊢; rw [if_pos (by simp; omega), Gf v (by omega), Option.bind_some, if_neg]; intro e; rw [← e, Eu (by omega)] at hN; cases hN
   ·rw [if_neg (by simpa using hc)]
end Go.Idl
