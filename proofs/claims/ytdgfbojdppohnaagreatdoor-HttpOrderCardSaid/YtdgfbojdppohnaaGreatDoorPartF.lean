/- Heads in any order, their names in great letters, are the same heads: the saying of the case law 12 Part 6. Conditions: none. -/
import Derived.Test.YtdgfbojdppohnaaGreatDoorPartE
import Derived.Lib.IndexMore
import Derived.Ground.NamesProg
import Derived.Shelf.LaysM
import Derived.Shelf.Strings.Cut
import Derived.Test.YtdgfbojdppohnaaGreatDoorProg
import Derived.SizedLaws
import Derived.Handed
import Derived.ChangeSame
import Derived.Test.YtdgfbojdppohnaaGreatDoorRows
import Derived.Test.YtdgfbojdppohnaaGreatDoorTie
import Derived.Test.YtdgfbojdppohnaaGreatDoorCards
import Derived.LaidMore
import Derived.Carry
import Derived.Stop.Joined
import Derived.SevenTiedAt
import Derived.Stop.LaidErr
import Derived.Lib.LaidTab
import Derived.Lay
import Derived.MakeChecks
set_option linter.unusedSimpArgs false
set_option linter.unusedVariables false
namespace Go.Idl
open Go Go.Proofs.Tryz
noncomputable def F36 (a0 : List UInt8) : Option (S25 × Int) :=
 (F64 ((⟨(⟨a0⟩ : S98)⟩ : AE))).bind fun (x5 : Except Unit ((List UInt8) × AE)) => orP x5 (fun (ex5 : Unit) => some (((⟨0, [], []⟩ : S25), 220))) (fun (y6 : (List UInt8) × AE) => (F30 y6.1).bind fun (x7 : Except Unit (S25)) => orP x7 (fun (ex7 : Unit) => some (((⟨0, [], []⟩ : S25), 220))) (fun (y8 : S25) => (F65 y6.2).bind fun (x10 : Except Unit ((List (List UInt8 × (List UInt8))) × AE)) => orP x10 (fun (ex10 : Unit) => some (((⟨0, [], []⟩ : S25), 220))) (fun (y11 : (List (List UInt8 × (List UInt8))) × AE) => (F66 y11.2 y11.1).bind fun (x13 : Except Unit ((List UInt8) × AE × (List (List UInt8 × (List UInt8))))) => orP x13 (fun (ex13 : Unit) => some (((⟨0, [], []⟩ : S25), 220))) (fun (y14 : (List UInt8) × AE × (List (List UInt8 × (List UInt8)))) => if (y14.2.1.Bl.fb.length : Int) = 0 then ((F67 y14.2.2).bind fun (x16 : (List S55)) => (F27 x16 y14.1).bind fun (x17 : Bool) => if x17 = true then ((F67 y14.2.2).bind fun (x20 : (List S55)) => (F37 y8 x20 y14.1).bind fun (x21 : S25) => some (x21, 0)) else (some (((⟨0, [], []⟩ : S25), 220)))) else (some (((⟨0, [], []⟩ : S25), 220)))))))
set_option maxHeartbeats 8000000 in
set_option pp.deepTerms false in
set_option maxRecDepth 60000 in
theorem TX {H : A0} {K : An → A0 → Prop} (a0 : List UInt8) (hV : VOK prog H) {r : S25 × Int} (h : F36 a0 = some r) (hK : K (.ret (.tu [.ag ([.v (.int .i64 r.1.Em), .sl 2 (r.1.A9.map fun x => [.v (str x.fName), .v (str x.A6)]), .sl 1 (r.1.Al.map fun x => [.v (.int .u8 x.toNat)])]), .v (.int .i64 r.2)])) H) : A2 prog 36 [.sl 1 (a0.map fun x => [.v (.int .u8 x.toNat)]), .v (.func (.func 30) #[] #[]), .v (.func (.func 37) #[] #[])] H K := by
 refine IM (N := 45) func36 (by kernel_rfl) rfl (by kernel_rfl) (by kernel_rfl) fun cb hcb hw => ?_; subst hcb; unfold F36 at h; refine EY fun cb hc1 => ?_; refine FD.of ?_; refine vcK ?_
 try simp -implicitDefEqProofs (disch := omega) [go_sem, bdP]
 subst hc1; refine EY fun cb hc2 => ?_; refine Hy (by kernel_rfl) ?_; simp (decide := true) only [Gd, JH, IN]
 try simp -implicitDefEqProofs (disch := omega) [go_sem, bdP]
 subst hc2; refine FD.of ?_; refine A1 fun cb hc3 => ?_; refine vcK ?_
 try simp -implicitDefEqProofs (disch := omega) [go_sem, bdP]
 subst hc3; refine A1 fun cb hc4 => ?_; refine vcK ?_
 try simp -implicitDefEqProofs (disch := omega) [go_sem, bdP]
 obtain ⟨x5, hx5, h⟩ := A4 h; refine A2.eqA (args' := [.p (H.next + 2) 0]) (by first | with_reducible rfl | (simp -implicitDefEqProofs (disch := omega) [go_sem, bdP] <;> omega)) (FN ((⟨(⟨a0⟩ : S98)⟩ : AE)) (H.next + 2) (by first | with_reducible assumption | simp -implicitDefEqProofs (disch := omega) [go_sem, bdP]) (by first | exact hV.of rfl | exact hV.of ((Ext.refl hw)).sn | exact hV.of (Ext.sn (H := H) (by exact A7 (Ext.refl hw))) | exact (VOK.of hV rfl).tok | exact (VOK.of hV ((Ext.refl hw)).sn).tok | exact (VOK.of hV (Ext.sn (H := H) (by exact A7 (Ext.refl hw)))).tok) hx5 ?_ ?_)
 ·intro ex5 qx5; subst qx5; replace h := AO h; have er := Option.some.inj h; subst er
  try simp -implicitDefEqProofs (disch := omega) [go_sem, bdP]
  refine Cl ?_; refine AX.eqA (args' := [.p H.next 0, .p (H.next + 1) 0]) (by first | with_reducible rfl | (simp -implicitDefEqProofs (disch := omega) [go_sem, bdP]; done) | rfl) (F3 H.next (H.next + 1) (.v (.int .i64 0)) (.v (.slice none 0 0)) (.v (.slice none 0 0)) (.v (.int .i64 0)) (by first | with_reducible assumption | simp -implicitDefEqProofs (disch := omega) [go_sem, bdP]) (by first | with_reducible assumption | simp -implicitDefEqProofs (disch := omega) [go_sem, bdP]) (by first | omega | (simp [go_sem]; done) | (simp [go_sem]; omega)) ?_)
  try simp -implicitDefEqProofs (disch := omega) [go_sem, bdP]
  refine AN (J := H) (r' := _) (Ext.DN (by exact A7 (Ext.refl hw))) (by first | with_reducible rfl | (simp -implicitDefEqProofs (disch := omega) [go_sem, bdP] <;> omega)) (.wk _ (.tu [.ag ([.v (.int .i64 0), .sl 2 (([] : List S55).map fun x => [.v (str x.fName), .v (str x.A6)]), .sl 1 (([] : List UInt8).map fun x => [.v (.int .u8 x.toNat)])]), .v (.int .i64 220)]) (by repeat (first | exact WkL.nil | refine WkL.cons ?_ ?_ | exact Wk.refl _ | exact Wk.nil _ | refine Wk.agL ?_ | refine Wk.tuL ?_ | (refine Wk.eqv ?_; focus (simp -implicitDefEqProofs (disch := omega) [go_sem, str]; done)))) (by first | exact nbA | exact BY | exact BN)) hK
 intro y6 qx5; subst qx5; replace h := Bh h
 try simp -implicitDefEqProofs (disch := omega) [go_sem, bdP]
 obtain ⟨x7, hx7, h⟩ := A4 h; refine A2.eqA (args' := [.v (str y6.1)]) (by first | with_reducible rfl | (simp -implicitDefEqProofs (disch := omega) [go_sem, bdP] <;> omega)) (TV y6.1 (by first | exact hV.of rfl | exact hV.of ((Ext.refl hw)).sn | exact hV.of (Ext.sn (H := H) (by exact A7 (Ext.refl hw))) | exact (VOK.of hV rfl).tok | exact (VOK.of hV ((Ext.refl hw)).sn).tok | exact (VOK.of hV (Ext.sn (H := H) (by exact A7 (Ext.refl hw)))).tok) hx7 ?_ ?_)
 ·intro ex7 qx7; subst qx7; replace h := AO h; have er := Option.some.inj h; subst er
  try simp -implicitDefEqProofs (disch := omega) [go_sem, bdP]
  refine Cl ?_; refine AX.eqA (args' := [.p H.next 0, .p (H.next + 1) 0]) (by first | with_reducible rfl | (simp -implicitDefEqProofs (disch := omega) [go_sem, bdP]; done) | rfl) (F3 H.next (H.next + 1) (.v (.int .i64 0)) (.v (.slice none 0 0)) (.v (.slice none 0 0)) (.v (.int .i64 0)) (by first | with_reducible assumption | simp -implicitDefEqProofs (disch := omega) [go_sem, bdP]) (by first | with_reducible assumption | simp -implicitDefEqProofs (disch := omega) [go_sem, bdP]) (by first | omega | (simp [go_sem]; done) | (simp [go_sem]; omega)) ?_)
  try simp -implicitDefEqProofs (disch := omega) [go_sem, bdP]
  refine AN (J := H) (r' := _) (Ext.DN (by exact A7 (Ext.refl hw))) (by first | with_reducible rfl | (simp -implicitDefEqProofs (disch := omega) [go_sem, bdP] <;> omega)) (.wk _ (.tu [.ag ([.v (.int .i64 0), .sl 2 (([] : List S55).map fun x => [.v (str x.fName), .v (str x.A6)]), .sl 1 (([] : List UInt8).map fun x => [.v (.int .u8 x.toNat)])]), .v (.int .i64 220)]) (by repeat (first | exact WkL.nil | refine WkL.cons ?_ ?_ | exact Wk.refl _ | exact Wk.nil _ | refine Wk.agL ?_ | refine Wk.tuL ?_ | (refine Wk.eqv ?_; focus (simp -implicitDefEqProofs (disch := omega) [go_sem, str]; done)))) (by first | exact nbA | exact BY | exact BN)) hK
 intro y8 qx7; subst qx7; replace h := Bh h
 try simp -implicitDefEqProofs (disch := omega) [go_sem, bdP]
 subst hc4; refine A1 fun cb hc9 => ?_; refine vcK ?_
 try simp -implicitDefEqProofs (disch := omega) [go_sem, bdP]
 obtain ⟨x10, hx10, h⟩ := A4 h; refine A2.eqA (args' := [.p (H.next + 2) 0]) (by first | with_reducible rfl | (simp -implicitDefEqProofs (disch := omega) [go_sem, bdP] <;> omega)) (PB y6.2 (H.next + 2) (by first | with_reducible assumption | simp -implicitDefEqProofs (disch := omega) [go_sem, bdP]) (by first | exact hV.of rfl | exact hV.of ((Ext.refl hw)).sn | exact hV.of (Ext.sn (H := H) (by exact A7 (Ext.refl hw))) | exact (VOK.of hV rfl).tok | exact (VOK.of hV ((Ext.refl hw)).sn).tok | exact (VOK.of hV (Ext.sn (H := H) (by exact A7 (Ext.refl hw)))).tok) hx10 ?_ ?_)
 ·intro ex10 qx10; subst qx10; replace h := AO h; have er := Option.some.inj h; subst er
  try simp -implicitDefEqProofs (disch := omega) [go_sem, bdP]
  refine Cl ?_; refine AX.eqA (args' := [.p H.next 0, .p (H.next + 1) 0]) (by first | with_reducible rfl | (simp -implicitDefEqProofs (disch := omega) [go_sem, bdP]; done) | rfl) (F3 H.next (H.next + 1) (.v (.int .i64 y8.Em)) (.sl 2 (y8.A9.map fun x => [.v (str x.fName), .v (str x.A6)])) (.sl 1 (y8.Al.map fun x => [.v (.int .u8 x.toNat)])) (.v (.int .i64 0)) (by first | with_reducible assumption | simp -implicitDefEqProofs (disch := omega) [go_sem, bdP]) (by first | with_reducible assumption | simp -implicitDefEqProofs (disch := omega) [go_sem, bdP]) (by first | omega | (simp [go_sem]; done) | (simp [go_sem]; omega)) ?_)
  try simp -implicitDefEqProofs (disch := omega) [go_sem, bdP]
  refine AN (J := H) (r' := _) (Ext.DN (by exact A7 (Ext.refl hw))) (by first | with_reducible rfl | (simp -implicitDefEqProofs (disch := omega) [go_sem, bdP] <;> omega)) (.wk _ (.tu [.ag ([.v (.int .i64 0), .sl 2 (([] : List S55).map fun x => [.v (str x.fName), .v (str x.A6)]), .sl 1 (([] : List UInt8).map fun x => [.v (.int .u8 x.toNat)])]), .v (.int .i64 220)]) (by repeat (first | exact WkL.nil | refine WkL.cons ?_ ?_ | exact Wk.refl _ | exact Wk.nil _ | refine Wk.agL ?_ | refine Wk.tuL ?_ | (refine Wk.eqv ?_; focus (simp -implicitDefEqProofs (disch := omega) [go_sem, str]; done)))) (by first | exact nbA | exact BY | exact BN)) hK
 intro y11 qx10; subst qx10; replace h := Bh h
 try simp -implicitDefEqProofs (disch := omega) [go_sem, bdP]
 subst hc9; refine A1 fun cb hc12 => ?_; refine vcK ?_
 try simp -implicitDefEqProofs (disch := omega) [go_sem, bdP]
 obtain ⟨x13, hx13, h⟩ := A4 h; refine A2.eqA (args' := [.p (H.next + 2) 0, .mp (H.next + 3)]) (by first | with_reducible rfl | (simp -implicitDefEqProofs (disch := omega) [go_sem, bdP] <;> omega)) (PD y11.2 y11.1 (H.next + 2) (H.next + 3) (by first | with_reducible assumption | simp -implicitDefEqProofs (disch := omega) [go_sem, bdP]) (by first | with_reducible assumption | simp -implicitDefEqProofs (disch := omega) [go_sem, bdP]) (by first | exact hV.of rfl | exact hV.of ((Ext.refl hw)).sn | exact hV.of (Ext.sn (H := H) (by exact A7 (Ext.refl hw))) | exact (VOK.of hV rfl).tok | exact (VOK.of hV ((Ext.refl hw)).sn).tok | exact (VOK.of hV (Ext.sn (H := H) (by exact A7 (Ext.refl hw)))).tok) hx13 ?_ ?_)
 ·intro ex13 qx13; subst qx13; replace h := AO h; have er := Option.some.inj h; subst er
  try simp -implicitDefEqProofs (disch := omega) [go_sem, bdP]
  refine Cl ?_; refine AX.eqA (args' := [.p H.next 0, .p (H.next + 1) 0]) (by first | with_reducible rfl | (simp -implicitDefEqProofs (disch := omega) [go_sem, bdP]; done) | rfl) (F3 H.next (H.next + 1) (.v (.int .i64 y8.Em)) (.sl 2 (y8.A9.map fun x => [.v (str x.fName), .v (str x.A6)])) (.sl 1 (y8.Al.map fun x => [.v (.int .u8 x.toNat)])) (.v (.int .i64 0)) (by first | with_reducible assumption | simp -implicitDefEqProofs (disch := omega) [go_sem, bdP]) (by first | with_reducible assumption | simp -implicitDefEqProofs (disch := omega) [go_sem, bdP]) (by first | omega | (simp [go_sem]; done) | (simp [go_sem]; omega)) ?_)
  try simp -implicitDefEqProofs (disch := omega) [go_sem, bdP]
  refine AN (J := H) (r' := _) (Ext.DN (by exact A7 (Ext.refl hw))) (by first | with_reducible rfl | (simp -implicitDefEqProofs (disch := omega) [go_sem, bdP] <;> omega)) (.wk _ (.tu [.ag ([.v (.int .i64 0), .sl 2 (([] : List S55).map fun x => [.v (str x.fName), .v (str x.A6)]), .sl 1 (([] : List UInt8).map fun x => [.v (.int .u8 x.toNat)])]), .v (.int .i64 220)]) (by repeat (first | exact WkL.nil | refine WkL.cons ?_ ?_ | exact Wk.refl _ | exact Wk.nil _ | refine Wk.agL ?_ | refine Wk.tuL ?_ | (refine Wk.eqv ?_; focus (simp -implicitDefEqProofs (disch := omega) [go_sem, str]; done)))) (by first | exact nbA | exact BY | exact BN)) hK
 intro y14 qx13; subst qx13; replace h := Bh h
 try simp -implicitDefEqProofs (disch := omega) [go_sem, bdP]
 subst hc12; refine A1 fun cb hc15 => ?_; refine vcK ?_
 try simp -implicitDefEqProofs (disch := omega) [go_sem, bdP]
 refine A5 h (by first | with_reducible rfl | (simp -implicitDefEqProofs (disch := omega) [go_sem, bdP] <;> omega)) ?_ ?_
 ·intro c23 h
  try simp (disch := omega) at c23
  try simp -implicitDefEqProofs (disch := omega) [go_sem, bdP]
  obtain ⟨x16, hx16, h⟩ := A4 h; refine A2.eqA (args' := [.mp (H.next + 3)]) (by first | with_reducible rfl | (simp -implicitDefEqProofs (disch := omega) [go_sem, bdP] <;> omega)) (Kr y14.2.2 (H.next + 3) (by first | with_reducible assumption | simp -implicitDefEqProofs (disch := omega) [go_sem, bdP]) hx16 ?_)
  try simp -implicitDefEqProofs (disch := omega) [go_sem, bdP]
  obtain ⟨x17, hx17, h⟩ := A4 h; refine A2.eqA (args' := [.sl 2 (x16.map fun x => [.v (str x.fName), .v (str x.A6)]), .sl 1 (y14.1.map fun x => [.v (.int .u8 x.toNat)])]) (by first | with_reducible rfl | (simp -implicitDefEqProofs (disch := omega) [go_sem, bdP] <;> omega)) (ML x16 y14.1 hx17 ?_)
  try simp -implicitDefEqProofs (disch := omega) [go_sem, bdP]
  refine A2.eqA (args' := [.v (.bool x17)]) (by first | with_reducible rfl | (simp -implicitDefEqProofs (disch := omega) [go_sem, bdP] <;> omega)) ?_; by_cases m18 : ¬ (x17 = true)
  ·rw [if_neg m18] at h; refine Bn  (by first | simpa using m18 | exact Bool.eq_false_iff.2 (fun q => m18 (by simpa using q))) ?_
   try simp (disch := omega) at m18
   have er := Option.some.inj h; subst er
   try simp -implicitDefEqProofs (disch := omega) [go_sem, bdP]
   refine Cl ?_; refine AX.eqA (args' := [.p H.next 0, .p (H.next + 1) 0]) (by first | with_reducible rfl | (simp -implicitDefEqProofs (disch := omega) [go_sem, bdP]; done) | rfl) (F3 H.next (H.next + 1) (.v (.int .i64 y8.Em)) (.sl 2 (y8.A9.map fun x => [.v (str x.fName), .v (str x.A6)])) (.sl 1 (y8.Al.map fun x => [.v (.int .u8 x.toNat)])) (.v (.int .i64 0)) (by first | with_reducible assumption | simp -implicitDefEqProofs (disch := omega) [go_sem, bdP]) (by first | with_reducible assumption | simp -implicitDefEqProofs (disch := omega) [go_sem, bdP]) (by first | omega | (simp [go_sem]; done) | (simp [go_sem]; omega)) ?_)
   try simp -implicitDefEqProofs (disch := omega) [go_sem, bdP]
   refine AN (J := H) (r' := _) (Ext.DN (by exact A7 (Ext.refl hw))) (by first | with_reducible rfl | (simp -implicitDefEqProofs (disch := omega) [go_sem, bdP] <;> omega)) (.wk _ (.tu [.ag ([.v (.int .i64 0), .sl 2 (([] : List S55).map fun x => [.v (str x.fName), .v (str x.A6)]), .sl 1 (([] : List UInt8).map fun x => [.v (.int .u8 x.toNat)])]), .v (.int .i64 220)]) (by repeat (first | exact WkL.nil | refine WkL.cons ?_ ?_ | exact Wk.refl _ | exact Wk.nil _ | refine Wk.agL ?_ | refine Wk.tuL ?_ | (refine Wk.eqv ?_; focus (simp -implicitDefEqProofs (disch := omega) [go_sem, str]; done)))) (by first | exact nbA | exact BY | exact BN)) hK
  have m18 := Classical.not_not.1 m18; rw [if_pos m18] at h; refine CE  (by simpa using m18) ?_
  try simp (disch := omega) at m18
  try simp -implicitDefEqProofs (disch := omega) [go_sem, bdP]
  subst hc15; refine A1 fun cb hc19 => ?_; refine vcK ?_
  try simp -implicitDefEqProofs (disch := omega) [go_sem, bdP]
  obtain ⟨x20, hx20, h⟩ := A4 h; refine A2.eqA (args' := [.mp (H.next + 3)]) (by first | with_reducible rfl | (simp -implicitDefEqProofs (disch := omega) [go_sem, bdP] <;> omega)) (Kr y14.2.2 (H.next + 3) (by first | with_reducible assumption | simp -implicitDefEqProofs (disch := omega) [go_sem, bdP]) hx20 ?_)
  try simp -implicitDefEqProofs (disch := omega) [go_sem, bdP]
  obtain ⟨x21, hx21, h⟩ := A4 h; refine A2.eqA (args' := [.p H.next 0, .sl 2 (x20.map fun x => [.v (str x.fName), .v (str x.A6)]), .sl 1 (y14.1.map fun x => [.v (.int .u8 x.toNat)])]) (by first | with_reducible rfl | (simp -implicitDefEqProofs (disch := omega) [go_sem, bdP] <;> omega)) (TW y8 x20 y14.1 H.next (by first | with_reducible assumption | simp -implicitDefEqProofs (disch := omega) [go_sem, bdP]) hx21 ?_)
  try simp -implicitDefEqProofs (disch := omega) [go_sem, bdP]
  subst hc19; refine A1 fun cb hc22 => ?_; refine vcK ?_
  try simp -implicitDefEqProofs (disch := omega) [go_sem, bdP]
  subst hc22; refine vcK ?_; simp -implicitDefEqProofs only [go_sem]; have er := Option.some.inj h; subst er
  try simp -implicitDefEqProofs (disch := omega) [go_sem, bdP]
  refine Ng ?_; refine AX.eqA (args' := [.p H.next 0, .p (H.next + 1) 0]) (by first | with_reducible rfl | (simp -implicitDefEqProofs (disch := omega) [go_sem, bdP]; done) | rfl) (R8 ?_)
  try simp -implicitDefEqProofs (disch := omega) [go_sem, bdP]
  refine A3 (by exact A7 (Ext.refl hw)) (by first | with_reducible rfl | (simp -implicitDefEqProofs (disch := omega) [go_sem, bdP] <;> omega)) nbA hK
 ·intro c23 h
  try simp (disch := omega) at c23
  try simp -implicitDefEqProofs (disch := omega) [go_sem, bdP]
  refine A2.eqA (args' := [.v (.bool false)]) (by first | with_reducible rfl | (simp -implicitDefEqProofs (disch := omega) [go_sem, bdP] <;> omega)) (Bn  rfl ?_); have er := Option.some.inj h; subst er
  try simp -implicitDefEqProofs (disch := omega) [go_sem, bdP]
  refine Cl ?_; refine AX.eqA (args' := [.p H.next 0, .p (H.next + 1) 0]) (by first | with_reducible rfl | (simp -implicitDefEqProofs (disch := omega) [go_sem, bdP]; done) | rfl) (F3 H.next (H.next + 1) (.v (.int .i64 y8.Em)) (.sl 2 (y8.A9.map fun x => [.v (str x.fName), .v (str x.A6)])) (.sl 1 (y8.Al.map fun x => [.v (.int .u8 x.toNat)])) (.v (.int .i64 0)) (by first | with_reducible assumption | simp -implicitDefEqProofs (disch := omega) [go_sem, bdP]) (by first | with_reducible assumption | simp -implicitDefEqProofs (disch := omega) [go_sem, bdP]) (by first | omega | (simp [go_sem]; done) | (simp [go_sem]; omega)) ?_)
  try simp -implicitDefEqProofs (disch := omega) [go_sem, bdP]
  refine AN (J := H) (r' := _) (Ext.DN (by exact A7 (Ext.refl hw))) (by first | with_reducible rfl | (simp -implicitDefEqProofs (disch := omega) [go_sem, bdP] <;> omega)) (.wk _ (.tu [.ag ([.v (.int .i64 0), .sl 2 (([] : List S55).map fun x => [.v (str x.fName), .v (str x.A6)]), .sl 1 (([] : List UInt8).map fun x => [.v (.int .u8 x.toNat)])]), .v (.int .i64 220)]) (by repeat (first | exact WkL.nil | refine WkL.cons ?_ ?_ | exact Wk.refl _ | exact Wk.nil _ | refine Wk.agL ?_ | refine Wk.tuL ?_ | (refine Wk.eqv ?_; focus (simp -implicitDefEqProofs (disch := omega) [go_sem, str]; done)))) (by first | exact nbA | exact BY | exact BN)) hK
noncomputable def F11 (a0 : List UInt8) : Option (Except Unit (S25 × Int)) :=
 (F36 a0).bind fun (x4 : S25 × Int) => some ((.ok (x4.1, x4.2)))
set_option maxHeartbeats 8000000 in
set_option pp.deepTerms false in
set_option maxRecDepth 60000 in
theorem TY {H : A0} {K : An → A0 → Prop} (a0 : List UInt8) (hV : VOK prog H) {r : Except Unit (S25 × Int)} (h : F11 a0 = some r) (hP : ∀ e, r = .error e → K (.pan (Ci e)) H) (hK : ∀ v : S25 × Int, r = .ok v → K (.ret (.tu [.ag ([.v (.int .i64 v.1.Em), .sl 2 (v.1.A9.map fun x => [.v (str x.fName), .v (str x.A6)]), .sl 1 (v.1.Al.map fun x => [.v (.int .u8 x.toNat)])]), .v (.int .i64 v.2)])) H) : A2 prog 11 [.sl 1 (a0.map fun x => [.v (.int .u8 x.toNat)])] H K := by
 refine Aa (N := 10) func11 (by kernel_rfl) rfl (by kernel_rfl) (by kernel_rfl) fun cb hcb hw hbd hnb => ?_; clear hbd hnb; subst hcb; unfold F11 at h; refine A1 fun cb hc1 => ?_; refine vcK ?_
 try simp -implicitDefEqProofs (disch := omega) [go_sem]
 subst hc1; refine A1 fun cb hc2 => ?_; refine vcK ?_
 try simp -implicitDefEqProofs (disch := omega) [go_sem]
 subst hc2; refine A1 fun cb hc3 => ?_; refine vcK ?_
 try simp -implicitDefEqProofs (disch := omega) [go_sem]
 obtain ⟨x4, hx4, h⟩ := A4 h; refine A2.eqA (args' := [.sl 1 (a0.map fun x => [.v (.int .u8 x.toNat)]), .v (.func (.func 30) #[] #[]), .v (.func (.func 37) #[] #[])]) (by first | with_reducible rfl | (simp -implicitDefEqProofs (disch := omega) [go_sem] <;> omega)) (TX a0 (by first | exact hV.of rfl | exact hV.of ((Ext.refl hw)).sn | exact hV.of (Ext.sn (H := H) (by exact A7 (Ext.refl hw))) | exact (VOK.of hV rfl).tok | exact (VOK.of hV ((Ext.refl hw)).sn).tok | exact (VOK.of hV (Ext.sn (H := H) (by exact A7 (Ext.refl hw)))).tok) hx4 ?_)
 try simp -implicitDefEqProofs (disch := omega) [go_sem]
 subst hc3; refine vcK ?_; simp -implicitDefEqProofs only [go_sem]; have er := Option.some.inj h; subst er
 try simp -implicitDefEqProofs (disch := omega) [go_sem]
 refine A3 (by exact A7 (Ext.refl hw)) (by first | with_reducible rfl | (simp -implicitDefEqProofs (disch := omega) [go_sem] <;> omega)) nbA (hK _ rfl)
noncomputable def F9  : Option (Except Unit (Bool)) :=
 (F18 ((⟨[80, 85, 84], [47, 97], [], ([120] : List UInt8)⟩ : S42))).bind fun (x4 : (List UInt8) × Int) => (F11 ([72, 84, 84, 80, 47, 49, 46, 49, 32, 50, 48, 52, 32, 78, 111, 13, 10, 13, 10] : List UInt8)).bind fun (x7 : Except Unit (S25 × Int)) => orP x7 (fun (ex7 : Unit) => some (.error ex7)) (fun (y8 : S25 × Int) => if x4.2 = 0 then (if x4.1 = ([80, 85, 84, 32, 47, 97, 32, 72, 84, 84, 80, 47, 49, 46, 49, 13, 10, 99, 111, 110, 116, 101, 110, 116, 45, 108, 101, 110, 103, 116, 104, 58, 32, 49, 13, 10, 13, 10, 120]) then (if y8.2 = 0 then (some ((.ok (decide (y8.1.Em = 204))))) else (some (.ok false))) else (some (.ok false))) else (some (.ok false)))
set_option maxHeartbeats 8000000 in
set_option pp.deepTerms false in
set_option maxRecDepth 60000 in
theorem JO {H : A0} {K : An → A0 → Prop}  (hV : VOK prog H) {r : Except Unit (Bool)} (h : F9  = some r) (hP : ∀ e, r = .error e → K (.pan (Ci e)) H) (hK : ∀ v : Bool, r = .ok v → K (.ret (.v (.bool v))) H) : A2 prog 9 [] H K := by
 refine Aa (N := 34) func9 (by kernel_rfl) rfl (by kernel_rfl) (by kernel_rfl) fun cb hcb hw hbd hnb => ?_; clear hbd hnb; subst hcb; unfold F9 at h; refine A1 fun cb hc1 => ?_; refine vcK ?_
 try simp -implicitDefEqProofs (disch := omega) [go_sem, bdP]
 subst hc1; refine A1 fun cb hc2 => ?_; refine CY [true, true] (by kernel_rfl) ?_
 try simp -implicitDefEqProofs (disch := omega) [go_sem, bdP]
 refine Fq (sz := 1) (rs := (([120] : List UInt8).map fun x => [.v (.int .u8 x.toNat)]).flatten) (es := ([120] : List UInt8).map fun x => [.v (.int .u8 x.toNat)]) rfl (by kernel_rfl) (by simp -implicitDefEqProofs (disch := omega) [go_sem, bdP]) (by first | rfl | simp [chunks]) (by simp) (by decide) fun ty3 => ?_
 try simp -implicitDefEqProofs (disch := omega) [go_sem, bdP]
 refine HA (ty := ty3) (k := H.next) (n := 1) (es := ([120] : List UInt8).map fun x => [.v (.int .u8 x.toNat)]) rfl (by kernel_rfl) underlying23 underlying5 (by simp [go_sem]) (by simp [go_sem]) (by simp) (by omega) ?_
 try simp -implicitDefEqProofs (disch := omega) [go_sem, bdP]
 obtain ⟨x4, hx4, h⟩ := A4 h; refine A2.eqA (args' := [.ag ([.v (str ([80, 85, 84])), .v (str ([47, 97])), .v (.slice none 0 0), .sl 1 (([120] : List UInt8).map fun x => [.v (.int .u8 x.toNat)])])]) (by first | with_reducible rfl | (simp -implicitDefEqProofs (disch := omega) [go_sem, bdP] <;> omega)) (A2.wkL (args' := [.ag ([.v (str (((⟨[80, 85, 84], [47, 97], [], ([120] : List UInt8)⟩ : S42)).Ah)), .v (str (((⟨[80, 85, 84], [47, 97], [], ([120] : List UInt8)⟩ : S42)).Ax)), .sl 2 ((((⟨[80, 85, 84], [47, 97], [], ([120] : List UInt8)⟩ : S42)).A9).map fun x => [.v (str x.fName), .v (str x.A6)]), .sl 1 ((((⟨[80, 85, 84], [47, 97], [], ([120] : List UInt8)⟩ : S42)).Al).map fun x => [.v (.int .u8 x.toNat)])])]) (by repeat (first | exact WkL.nil | refine WkL.cons ?_ ?_ | exact Wk.refl _ | exact Wk.nil _ | refine Wk.agL ?_)) (TP ((⟨[80, 85, 84], [47, 97], [], ([120] : List UInt8)⟩ : S42)) (by first | exact hV.of rfl | exact hV.of ((Ext.refl hw)).sn | exact hV.of (Ext.sn (H := H) (by exact A7 (Ext.refl hw))) | exact (VOK.of hV rfl).tok | exact (VOK.of hV ((Ext.refl hw)).sn).tok | exact (VOK.of hV (Ext.sn (H := H) (by exact A7 (Ext.refl hw)))).tok) hx4 ?_))
 try simp -implicitDefEqProofs (disch := omega) [go_sem, bdP]
 subst hc2; refine A1 fun cb hc5 => ?_; refine CY [true, true] (by kernel_rfl) ?_
 try simp -implicitDefEqProofs (disch := omega) [go_sem, bdP]
 refine Fq (sz := 1) (rs := (([72, 84, 84, 80, 47, 49, 46, 49, 32, 50, 48, 52, 32, 78, 111, 13, 10, 13, 10] : List UInt8).map fun x => [.v (.int .u8 x.toNat)]).flatten) (es := ([72, 84, 84, 80, 47, 49, 46, 49, 32, 50, 48, 52, 32, 78, 111, 13, 10, 13, 10] : List UInt8).map fun x => [.v (.int .u8 x.toNat)]) rfl (by kernel_rfl) (by simp -implicitDefEqProofs (disch := omega) [go_sem, bdP]) (by first | rfl | simp [chunks]) (by simp) (by decide) fun ty6 => ?_
 try simp -implicitDefEqProofs (disch := omega) [go_sem, bdP]
 refine HA (ty := ty6) (k := H.next + 1) (n := 19) (es := ([72, 84, 84, 80, 47, 49, 46, 49, 32, 50, 48, 52, 32, 78, 111, 13, 10, 13, 10] : List UInt8).map fun x => [.v (.int .u8 x.toNat)]) rfl (by kernel_rfl) underlying23 underlying5 (by simp [go_sem]) (by simp [go_sem]) (by simp) (by omega) ?_
 try simp -implicitDefEqProofs (disch := omega) [go_sem, bdP]
 obtain ⟨x7, hx7, h⟩ := A4 h; refine A2.eqA (args' := [.sl 1 (([72, 84, 84, 80, 47, 49, 46, 49, 32, 50, 48, 52, 32, 78, 111, 13, 10, 13, 10] : List UInt8).map fun x => [.v (.int .u8 x.toNat)])]) (by first | with_reducible rfl | (simp -implicitDefEqProofs (disch := omega) [go_sem, bdP] <;> omega)) (TY ([72, 84, 84, 80, 47, 49, 46, 49, 32, 50, 48, 52, 32, 78, 111, 13, 10, 13, 10] : List UInt8) (by first | exact hV.of rfl | exact hV.of ((Ext.refl hw)).sn | exact hV.of (Ext.sn (H := H) (by exact A7 (Ext.refl hw))) | exact (VOK.of hV rfl).tok | exact (VOK.of hV ((Ext.refl hw)).sn).tok | exact (VOK.of hV (Ext.sn (H := H) (by exact A7 (Ext.refl hw)))).tok) hx7 ?_ ?_)
 ·intro ex7 qx7; subst qx7; replace h := AO h; have er := Option.some.inj h; subst er
  try simp -implicitDefEqProofs (disch := omega) [go_sem, bdP]
  exact BA (by exact Bt (Ext.refl hw)) (Dl.refl _) (hP _ rfl)
 intro y8 qx7; subst qx7; replace h := Bh h
 try simp -implicitDefEqProofs (disch := omega) [go_sem, bdP]
 subst hc5; refine A1 fun cb hc9 => ?_; refine vcK ?_
 try simp -implicitDefEqProofs (disch := omega) [go_sem, bdP]
 refine A5 h (by first | with_reducible rfl | (simp -implicitDefEqProofs (disch := omega) [go_sem, bdP] <;> omega)) ?_ ?_
 ·intro c12 h
  try simp (disch := omega) at c12
  try simp -implicitDefEqProofs (disch := omega) [go_sem, bdP]
  refine A5 h (by first | with_reducible rfl | (simp -implicitDefEqProofs (disch := omega) [go_sem, bdP] <;> omega)) ?_ ?_
  ·intro c11 h
   try simp (disch := omega) at c11
   try simp -implicitDefEqProofs (disch := omega) [go_sem, bdP]
   refine A5 h (by first | with_reducible rfl | (simp -implicitDefEqProofs (disch := omega) [go_sem, bdP] <;> omega)) ?_ ?_
   ·intro c10 h
    try simp (disch := omega) at c10
    try simp -implicitDefEqProofs (disch := omega) [go_sem, bdP]
    subst hc9; refine vcK ?_; simp -implicitDefEqProofs only [go_sem]; have er := Option.some.inj h; subst er
    try simp -implicitDefEqProofs (disch := omega) [go_sem, bdP]
    refine A3 (by exact A7 (Ext.refl hw)) (by first | with_reducible rfl | (simp -implicitDefEqProofs (disch := omega) [go_sem, bdP] <;> omega)) nbA (hK _ rfl)
   ·intro c10 h
    try simp (disch := omega) at c10
    try simp -implicitDefEqProofs (disch := omega) [go_sem, bdP]
    subst hc9; refine vcK ?_; simp -implicitDefEqProofs only [go_sem]; have er := Option.some.inj h; subst er
    try simp -implicitDefEqProofs (disch := omega) [go_sem, bdP]
    refine A3 (by exact A7 (Ext.refl hw)) (by first | with_reducible rfl | (simp -implicitDefEqProofs (disch := omega) [go_sem, bdP] <;> omega)) nbA (hK _ rfl)
  ·intro c11 h
   try simp (disch := omega) at c11
   try simp -implicitDefEqProofs (disch := omega) [go_sem, bdP]
   subst hc9; refine vcK ?_; simp -implicitDefEqProofs only [go_sem]; have er := Option.some.inj h; subst er
   try simp -implicitDefEqProofs (disch := omega) [go_sem, bdP]
   refine A3 (by exact A7 (Ext.refl hw)) (by first | with_reducible rfl | (simp -implicitDefEqProofs (disch := omega) [go_sem, bdP] <;> omega)) nbA (hK _ rfl)
 ·intro c12 h
  try simp (disch := omega) at c12
  try simp -implicitDefEqProofs (disch := omega) [go_sem, bdP]
  subst hc9; refine vcK ?_; simp -implicitDefEqProofs only [go_sem]; have er := Option.some.inj h; subst er
  try simp -implicitDefEqProofs (disch := omega) [go_sem, bdP]
  refine A3 (by exact A7 (Ext.refl hw)) (by first | with_reducible rfl | (simp -implicitDefEqProofs (disch := omega) [go_sem, bdP] <;> omega)) nbA (hK _ rfl)
noncomputable def Kx  : Option Bool :=
 some true
noncomputable def IX (a0 : List S55) (v10 : Int) : Option (Int ⊕ (Unit ⊕ Bool)) :=
 if v10 < (a0.length : Int) then (gd (0 ≤ v10 ∧ v10 < a0.length) (if 300 < ((((a0.getD v10.toNat S55.zero).fName).length : Int)) then (some (.inr (.inr false))) else (if 300 < ((((a0.getD v10.toNat S55.zero).A6).length : Int)) then (some (.inr (.inr false))) else (some (.inl (IntKind.i64.wrap (v10 + 1))))))) else (some (.inr (.inl ())))
noncomputable def F15 (a0 : List S55) (a1 : List UInt8) : Option Bool :=
 if 20 < (a0.length : Int) then (some false) else (if 3000 < (a1.length : Int) then (some false) else ((AY (fun (s : Int) => IX a0 s) 0).bind fun y => Sum.elim (fun (e : Unit) => Kx) (fun (q : Bool) => some q) y))
set_option maxHeartbeats 8000000 in
set_option pp.deepTerms false in
set_option maxRecDepth 60000 in
theorem TZ {H : A0} {K : An → A0 → Prop} (a0 : List S55) (a1 : List UInt8) {r : Bool} (h : F15 a0 a1 = some r) (hK : K (.ret (.v (.bool r))) H) : A2 prog 15 [.sl 2 (a0.map fun x => [.v (str x.fName), .v (str x.A6)]), .sl 1 (a1.map fun x => [.v (.int .u8 x.toNat)])] H K := by
 refine Aa (N := 36) func15 (by kernel_rfl) rfl (by kernel_rfl) (by kernel_rfl) fun cb hcb hw hbd hnb => ?_; clear hbd hnb; subst hcb; unfold F15 at h; refine A1 fun cb hc1 => ?_; refine vcK ?_
 try simp -implicitDefEqProofs (disch := omega) [go_sem]
 subst hc1; refine A1 fun cb hc2 => ?_; refine A1 fun cb hc3 => ?_; refine vcK ?_
 try simp -implicitDefEqProofs (disch := omega) [go_sem]
 refine A5 h (by first | with_reducible rfl | (simp -implicitDefEqProofs (disch := omega) [go_sem] <;> omega)) ?_ ?_
 ·intro c22 h
  try simp (disch := omega) at c22
  try simp -implicitDefEqProofs (disch := omega) [go_sem]
  subst hc3; refine Aq (by first | with_reducible rfl | (simp -implicitDefEqProofs (disch := omega) [go_sem] <;> omega)) rfl ?_; refine A1 fun cb hc4 => ?_; refine vcK ?_
  try simp -implicitDefEqProofs (disch := omega) [go_sem]
  subst hc4; refine vcK ?_; simp -implicitDefEqProofs only [go_sem]; have er := Option.some.inj h; subst er
  try simp -implicitDefEqProofs (disch := omega) [go_sem]
  refine A3 (by exact A7 (Ext.refl hw)) (by first | with_reducible rfl | (simp -implicitDefEqProofs (disch := omega) [go_sem] <;> omega)) nbA hK
 ·intro c22 h
  try simp (disch := omega) at c22
  try simp -implicitDefEqProofs (disch := omega) [go_sem]
  subst hc3; refine Ac h (by first | with_reducible rfl | (simp -implicitDefEqProofs (disch := omega) [go_sem] <;> omega)) rfl ?_ ?_
  ·intro c5 h
   try simp (disch := omega) at c5
   refine A1 fun cb hc6 => ?_; refine vcK ?_
   try simp -implicitDefEqProofs (disch := omega) [go_sem]
   subst hc6; refine vcK ?_; simp -implicitDefEqProofs only [go_sem]; have er := Option.some.inj h; subst er
   try simp -implicitDefEqProofs (disch := omega) [go_sem]
   refine A3 (by exact A7 (Ext.refl hw)) (by first | with_reducible rfl | (simp -implicitDefEqProofs (disch := omega) [go_sem] <;> omega)) nbA hK
  ·intro c5 h
   try simp (disch := omega) at c5
   refine vcK ?_; simp -implicitDefEqProofs only [go_sem]; subst hc2; refine A1 fun cb hc7 => ?_; refine A1 fun cb hc8 => ?_; refine vcK ?_
   try simp -implicitDefEqProofs (disch := omega) [go_sem]
   subst hc8; obtain ⟨y9, hl9q, hk9⟩ := A4 h; refine AZ (fun tm' H' => .inl () = y9 ∧ H = H') ?_ fun cb hc9 => ?_
   ·rintro tm9e H9e ⟨rfl, rfl⟩
    have h : Kx = some r := hk9; unfold Kx at h; simp -implicitDefEqProofs only [go_sem]; subst hc7; refine A1 fun cb hc11 => ?_; refine vcK ?_
    try simp -implicitDefEqProofs (disch := omega) [go_sem]
    subst hc11; refine vcK ?_; simp -implicitDefEqProofs only [go_sem]; have er := Option.some.inj h; subst er
    try simp -implicitDefEqProofs (disch := omega) [go_sem]
    refine A3 (by exact A7 (Ext.refl hw)) (by first | with_reducible rfl | (simp -implicitDefEqProofs (disch := omega) [go_sem] <;> omega)) nbA hK
   ·refine Ag ?_; refine AQ (fun (s : Int) tm' H' => H = H' ∧ tm' 0 = .sl 2 (a0.map fun x => [.v (str x.fName), .v (str x.A6)]) ∧ tm' 5 = .v (.int .i64 s)) hl9q ?_ ?_
    ·refine .same ⟨rfl, ?_, ?_⟩ <;> first | with_reducible rfl | with_reducible assumption | (simp -implicitDefEqProofs (disch := omega) [go_sem] <;> omega)
    ·rintro I9 hI9 v10 x9 tm9 H9 ⟨rfl, Fg, Fh⟩ h hret9
     replace h : IX a0 v10 = some x9 := h; unfold IX at h; refine A1 fun cb hc12 => ?_; refine A1 fun cb hc13 => ?_; refine vcK ?_
     try simp -implicitDefEqProofs (disch := omega) [go_sem, Fg, Fh]
     subst hc13; refine Ac h (by first | with_reducible rfl | (simp -implicitDefEqProofs (disch := omega) [go_sem, Fg, Fh] <;> omega)) rfl ?_ ?_
     ·intro c14 h
      try simp (disch := omega) at c14
      refine vcK ?_; simp -implicitDefEqProofs only [go_sem]; subst hc12; refine A1 fun cb hc15 => ?_; refine Ag ?_; refine A1 fun cb hc16 => ?_; refine vcK ?_; obtain ⟨g17, h⟩ := A8.1 h
      try simp (disch := omega) at g17
      try simp -implicitDefEqProofs (disch := omega) [go_sem, Fg, Fh]
      refine A5 h (by first | with_reducible rfl | (simp -implicitDefEqProofs (disch := omega) [go_sem, Fg, Fh] <;> omega)) ?_ ?_
      ·intro c21 h
       try simp (disch := omega) at c21
       try simp -implicitDefEqProofs (disch := omega) [go_sem, Fg, Fh]
       subst hc16; refine Aq (by first | with_reducible rfl | (simp -implicitDefEqProofs (disch := omega) [go_sem, Fg, Fh] <;> omega)) rfl ?_; refine A1 fun cb hc18 => ?_; refine vcK ?_
       try simp -implicitDefEqProofs (disch := omega) [go_sem, Fg, Fh]
       subst hc18; refine vcK ?_; simp -implicitDefEqProofs only [go_sem]; have e9 := Option.some.inj h; subst e9; have e9 := hret9 _ rfl; subst e9; replace h : some false = some r := hk9; have er := Option.some.inj h; subst er
       try simp -implicitDefEqProofs (disch := omega) [go_sem, Fg, Fh]
       refine A3 (by exact A7 (Ext.refl hw)) (by first | with_reducible rfl | (simp -implicitDefEqProofs (disch := omega) [go_sem, Fg, Fh] <;> omega)) nbA hK
      ·intro c21 h
       try simp (disch := omega) at c21
       try simp -implicitDefEqProofs (disch := omega) [go_sem, Fg, Fh]
       subst hc16; refine Ac h (by first | with_reducible rfl | (simp -implicitDefEqProofs (disch := omega) [go_sem, Fg, Fh] <;> omega)) rfl ?_ ?_
       ·intro c19 h
        try simp (disch := omega) at c19
        refine A1 fun cb hc20 => ?_; refine vcK ?_
        try simp -implicitDefEqProofs (disch := omega) [go_sem, Fg, Fh]
        subst hc20; refine vcK ?_; simp -implicitDefEqProofs only [go_sem]; have e9 := Option.some.inj h; subst e9; have e9 := hret9 _ rfl; subst e9; replace h : some false = some r := hk9; have er := Option.some.inj h; subst er
        try simp -implicitDefEqProofs (disch := omega) [go_sem, Fg, Fh]
        refine A3 (by exact A7 (Ext.refl hw)) (by first | with_reducible rfl | (simp -implicitDefEqProofs (disch := omega) [go_sem, Fg, Fh] <;> omega)) nbA hK
       ·intro c19 h
        try simp (disch := omega) at c19
        refine vcK ?_; simp -implicitDefEqProofs only [go_sem]; subst hc15; refine vcK ?_
        try simp -implicitDefEqProofs (disch := omega) [go_sem, Fg, Fh]
        have e9 := Option.some.inj h; subst e9; refine Ap hI9 (IntKind.i64.wrap (v10 + 1)) ?_; refine .same ⟨rfl, ?_, ?_⟩ <;> first | with_reducible rfl | with_reducible assumption | (simp -implicitDefEqProofs (disch := omega) [go_sem, Fg, Fh] <;> omega)
     ·intro c14 h
      try simp (disch := omega) at c14
      refine vcK ?_; simp -implicitDefEqProofs only [go_sem]; have e9 := Option.some.inj h; subst e9; have hy9 := hret9 _ rfl; refine hc9 _ _ ?_; refine .same ⟨hy9, rfl⟩
noncomputable def Ky  : Option Bool :=
 some true
noncomputable def IY (a0 : List UInt8) (a1 : Int) (a2 : Int) (v5 : Int) : Option (Int ⊕ (Unit ⊕ Bool)) :=
 if v5 < (a0.length : Int) then (gd (0 ≤ v5 ∧ v5 < a0.length) (if (((a0.getD v5.toNat 0).toNat : Int)) < a1 then (some (.inr (.inr false))) else (if a2 < (((a0.getD v5.toNat 0).toNat : Int)) then (some (.inr (.inr false))) else (some (.inl (IntKind.i64.wrap (v5 + 1))))))) else (some (.inr (.inl ())))
noncomputable def F55 (a0 : List UInt8) (a1 : Int) (a2 : Int) : Option Bool :=
 (AY (fun (s : Int) => IY a0 a1 a2 s) 0).bind fun y => Sum.elim (fun (e : Unit) => Ky) (fun (q : Bool) => some q) y
set_option maxHeartbeats 8000000 in
set_option pp.deepTerms false in
set_option maxRecDepth 60000 in
theorem MS {H : A0} {K : An → A0 → Prop} (a0 : List UInt8) (a1 : Int) (a2 : Int) {r : Bool} (h : F55 a0 a1 a2 = some r) (hK : K (.ret (.v (.bool r))) H) : A2 prog 55 [.v (str a0), .v (.int .u8 a1), .v (.int .u8 a2)] H K := by
 refine Aa (N := 26) func55 (by kernel_rfl) rfl (by kernel_rfl) (by kernel_rfl) fun cb hcb hw hbd hnb => ?_; clear hbd hnb; subst hcb; unfold F55 at h; refine A1 fun cb hc1 => ?_; refine vcK ?_
 try simp -implicitDefEqProofs (disch := omega) [go_sem]
 subst hc1; refine A1 fun cb hc2 => ?_; refine A1 fun cb hc3 => ?_; refine vcK ?_
 try simp -implicitDefEqProofs (disch := omega) [go_sem]
 subst hc3; obtain ⟨y4, hl4q, hk4⟩ := A4 h; refine AZ (fun tm' H' => .inl () = y4 ∧ H = H') ?_ fun cb hc4 => ?_
 ·rintro tm4e H4e ⟨rfl, rfl⟩
  have h : Ky = some r := hk4; unfold Ky at h; simp -implicitDefEqProofs only [go_sem]; subst hc2; refine A1 fun cb hc6 => ?_; refine vcK ?_
  try simp -implicitDefEqProofs (disch := omega) [go_sem]
  subst hc6; refine vcK ?_; simp -implicitDefEqProofs only [go_sem]; have er := Option.some.inj h; subst er
  try simp -implicitDefEqProofs (disch := omega) [go_sem]
  refine A3 (by exact A7 (Ext.refl hw)) (by first | with_reducible rfl | (simp -implicitDefEqProofs (disch := omega) [go_sem] <;> omega)) nbA hK
 ·refine Ag ?_; refine AQ (fun (s : Int) tm' H' => H = H' ∧ tm' 0 = .v (str a0) ∧ tm' 1 = .v (.int .u8 a1) ∧ tm' 2 = .v (.int .u8 a2) ∧ tm' 7 = .v (.int .i64 s)) hl4q ?_ ?_
  ·refine .same ⟨rfl, ?_, ?_, ?_, ?_⟩ <;> first | with_reducible rfl | with_reducible assumption | (simp -implicitDefEqProofs (disch := omega) [go_sem] <;> omega)
  ·rintro I4 hI4 v5 x4 tm4 H4 ⟨rfl, Ai, AG, Fi, AH⟩ h hret4
   replace h : IY a0 a1 a2 v5 = some x4 := h; unfold IY at h; refine A1 fun cb hc7 => ?_; refine A1 fun cb hc8 => ?_; refine vcK ?_
   try simp -implicitDefEqProofs (disch := omega) [go_sem, Ai, AG, Fi, AH]
   subst hc8; refine Ac h (by first | with_reducible rfl | (simp -implicitDefEqProofs (disch := omega) [go_sem, Ai, AG, Fi, AH] <;> omega)) rfl ?_ ?_
   ·intro c9 h
    try simp (disch := omega) at c9
    refine vcK ?_; simp -implicitDefEqProofs only [go_sem]; subst hc7; refine A1 fun cb hc10 => ?_; refine Ag ?_; refine A1 fun cb hc11 => ?_; refine vcK ?_; obtain ⟨g12, h⟩ := A8.1 h
    try simp (disch := omega) at g12
    try simp -implicitDefEqProofs (disch := omega) [go_sem, Ai, AG, Fi, AH]
    refine A5 h (by first | with_reducible rfl | (simp -implicitDefEqProofs (disch := omega) [go_sem, Ai, AG, Fi, AH] <;> omega)) ?_ ?_
    ·intro c16 h
     try simp (disch := omega) at c16
     try simp -implicitDefEqProofs (disch := omega) [go_sem, Ai, AG, Fi, AH]
     subst hc11; refine Aq (by first | with_reducible rfl | (simp -implicitDefEqProofs (disch := omega) [go_sem, Ai, AG, Fi, AH] <;> omega)) rfl ?_; refine A1 fun cb hc13 => ?_; refine vcK ?_
     try simp -implicitDefEqProofs (disch := omega) [go_sem, Ai, AG, Fi, AH]
     subst hc13; refine vcK ?_; simp -implicitDefEqProofs only [go_sem]; have e4 := Option.some.inj h; subst e4; have e4 := hret4 _ rfl; subst e4; replace h : some false = some r := hk4; have er := Option.some.inj h; subst er
     try simp -implicitDefEqProofs (disch := omega) [go_sem, Ai, AG, Fi, AH]
     refine A3 (by exact A7 (Ext.refl hw)) (by first | with_reducible rfl | (simp -implicitDefEqProofs (disch := omega) [go_sem, Ai, AG, Fi, AH] <;> omega)) nbA hK
    ·intro c16 h
     try simp (disch := omega) at c16
     try simp -implicitDefEqProofs (disch := omega) [go_sem, Ai, AG, Fi, AH]
     subst hc11; refine Ac h (by first | with_reducible rfl | (simp -implicitDefEqProofs (disch := omega) [go_sem, Ai, AG, Fi, AH] <;> omega)) rfl ?_ ?_
     ·intro c14 h
      try simp (disch := omega) at c14
      refine A1 fun cb hc15 => ?_; refine vcK ?_
      try simp -implicitDefEqProofs (disch := omega) [go_sem, Ai, AG, Fi, AH]
      subst hc15; refine vcK ?_; simp -implicitDefEqProofs only [go_sem]; have e4 := Option.some.inj h; subst e4; have e4 := hret4 _ rfl; subst e4; replace h : some false = some r := hk4; have er := Option.some.inj h; subst er
      try simp -implicitDefEqProofs (disch := omega) [go_sem, Ai, AG, Fi, AH]
      refine A3 (by exact A7 (Ext.refl hw)) (by first | with_reducible rfl | (simp -implicitDefEqProofs (disch := omega) [go_sem, Ai, AG, Fi, AH] <;> omega)) nbA hK
     ·intro c14 h
      try simp (disch := omega) at c14
      refine vcK ?_; simp -implicitDefEqProofs only [go_sem]; subst hc10; refine vcK ?_
      try simp -implicitDefEqProofs (disch := omega) [go_sem, Ai, AG, Fi, AH]
      have e4 := Option.some.inj h; subst e4; refine Ap hI4 (IntKind.i64.wrap (v5 + 1)) ?_; refine .same ⟨rfl, ?_, ?_, ?_, ?_⟩ <;> first | with_reducible rfl | with_reducible assumption | (simp -implicitDefEqProofs (disch := omega) [go_sem, Ai, AG, Fi, AH] <;> omega)
   ·intro c9 h
    try simp (disch := omega) at c9
    refine vcK ?_; simp -implicitDefEqProofs only [go_sem]; have e4 := Option.some.inj h; subst e4; have hy4 := hret4 _ rfl; refine hc4 _ _ ?_; refine .same ⟨hy4, rfl⟩
noncomputable def F47 (a0 : List UInt8) : Option Bool :=
 if 1 ≤ (a0.length : Int) then (if (a0.length : Int) ≤ 20 then ((F55 a0 65 90).bind fun (x3 : Bool) => some x3) else (some false)) else (some false)
set_option maxHeartbeats 8000000 in
set_option pp.deepTerms false in
set_option maxRecDepth 60000 in
theorem T_ {H : A0} {K : An → A0 → Prop} (a0 : List UInt8) {r : Bool} (h : F47 a0 = some r) (hK : K (.ret (.v (.bool r))) H) : A2 prog 47 [.v (str a0)] H K := by
 refine Aa (N := 15) func47 (by kernel_rfl) rfl (by kernel_rfl) (by kernel_rfl) fun cb hcb hw hbd hnb => ?_; clear hbd hnb; subst hcb; unfold F47 at h; refine A1 fun cb hc1 => ?_; refine vcK ?_
 try simp -implicitDefEqProofs (disch := omega) [go_sem]
 subst hc1; refine A1 fun cb hc2 => ?_; refine vcK ?_
 try simp -implicitDefEqProofs (disch := omega) [go_sem]
 refine A5 h (by first | with_reducible rfl | (simp -implicitDefEqProofs (disch := omega) [go_sem] <;> omega)) ?_ ?_
 ·intro c5 h
  try simp (disch := omega) at c5
  try simp -implicitDefEqProofs (disch := omega) [go_sem]
  refine A5 h (by first | with_reducible rfl | (simp -implicitDefEqProofs (disch := omega) [go_sem] <;> omega)) ?_ ?_
  ·intro c4 h
   try simp (disch := omega) at c4
   try simp -implicitDefEqProofs (disch := omega) [go_sem]
   obtain ⟨x3, hx3, h⟩ := A4 h; refine A2.eqA (args' := [.v (str a0), .v (.int .u8 65), .v (.int .u8 90)]) (by first | with_reducible rfl | (simp -implicitDefEqProofs (disch := omega) [go_sem] <;> omega)) (MS a0 65 90 hx3 ?_)
   try simp -implicitDefEqProofs (disch := omega) [go_sem]
   subst hc2; refine vcK ?_; simp -implicitDefEqProofs only [go_sem]; have er := Option.some.inj h; subst er
   try simp -implicitDefEqProofs (disch := omega) [go_sem]
   refine A3 (by exact A7 (Ext.refl hw)) (by first | with_reducible rfl | (simp -implicitDefEqProofs (disch := omega) [go_sem] <;> omega)) nbA hK
  ·intro c4 h
   try simp (disch := omega) at c4
   try simp -implicitDefEqProofs (disch := omega) [go_sem]
   subst hc2; refine vcK ?_; simp -implicitDefEqProofs only [go_sem]; have er := Option.some.inj h; subst er
   try simp -implicitDefEqProofs (disch := omega) [go_sem]
   refine A3 (by exact A7 (Ext.refl hw)) (by first | with_reducible rfl | (simp -implicitDefEqProofs (disch := omega) [go_sem] <;> omega)) nbA hK
 ·intro c5 h
  try simp (disch := omega) at c5
  try simp -implicitDefEqProofs (disch := omega) [go_sem]
  subst hc2; refine vcK ?_; simp -implicitDefEqProofs only [go_sem]; have er := Option.some.inj h; subst er
  try simp -implicitDefEqProofs (disch := omega) [go_sem]
  refine A3 (by exact A7 (Ext.refl hw)) (by first | with_reducible rfl | (simp -implicitDefEqProofs (disch := omega) [go_sem] <;> omega)) nbA hK
noncomputable def F48 (a0 : List UInt8) : Option Bool :=
 if 1 ≤ (a0.length : Int) then (if (a0.length : Int) ≤ 200 then (gd (0 < a0.length) (if (((a0.getD 0 0).toNat : Int)) = 47 then ((F55 a0 33 126).bind fun (x4 : Bool) => some x4) else (some false))) else (some false)) else (some false)
set_option maxHeartbeats 8000000 in
set_option pp.deepTerms false in
set_option maxRecDepth 60000 in
theorem U0 {H : A0} {K : An → A0 → Prop} (a0 : List UInt8) {r : Bool} (h : F48 a0 = some r) (hK : K (.ret (.v (.bool r))) H) : A2 prog 48 [.v (str a0)] H K := by
 refine Aa (N := 20) func48 (by kernel_rfl) rfl (by kernel_rfl) (by kernel_rfl) fun cb hcb hw hbd hnb => ?_; clear hbd hnb; subst hcb; unfold F48 at h; refine A1 fun cb hc1 => ?_; refine vcK ?_
 try simp -implicitDefEqProofs (disch := omega) [go_sem]
 subst hc1; refine A1 fun cb hc2 => ?_; refine vcK ?_
 try simp -implicitDefEqProofs (disch := omega) [go_sem]
 refine A5 h (by first | with_reducible rfl | (simp -implicitDefEqProofs (disch := omega) [go_sem] <;> omega)) ?_ ?_
 ·intro c7 h
  try simp (disch := omega) at c7
  try simp -implicitDefEqProofs (disch := omega) [go_sem]
  refine A5 h (by first | with_reducible rfl | (simp -implicitDefEqProofs (disch := omega) [go_sem] <;> omega)) ?_ ?_
  ·intro c6 h
   try simp (disch := omega) at c6
   obtain ⟨g3, h⟩ := A8.1 h
   try simp (disch := omega) at g3
   try simp -implicitDefEqProofs (disch := omega) [go_sem]
   refine A5 h (by first | with_reducible rfl | (simp -implicitDefEqProofs (disch := omega) [go_sem] <;> omega)) ?_ ?_
   ·intro c5 h
    try simp (disch := omega) at c5
    try simp -implicitDefEqProofs (disch := omega) [go_sem]
    obtain ⟨x4, hx4, h⟩ := A4 h; refine A2.eqA (args' := [.v (str a0), .v (.int .u8 33), .v (.int .u8 126)]) (by first | with_reducible rfl | (simp -implicitDefEqProofs (disch := omega) [go_sem] <;> omega)) (MS a0 33 126 hx4 ?_)
    try simp -implicitDefEqProofs (disch := omega) [go_sem]
    subst hc2; refine vcK ?_; simp -implicitDefEqProofs only [go_sem]; have er := Option.some.inj h; subst er
    try simp -implicitDefEqProofs (disch := omega) [go_sem]
    refine A3 (by exact A7 (Ext.refl hw)) (by first | with_reducible rfl | (simp -implicitDefEqProofs (disch := omega) [go_sem] <;> omega)) nbA hK
   ·intro c5 h
    try simp (disch := omega) at c5
    try simp -implicitDefEqProofs (disch := omega) [go_sem]
    subst hc2; refine vcK ?_; simp -implicitDefEqProofs only [go_sem]; have er := Option.some.inj h; subst er
    try simp -implicitDefEqProofs (disch := omega) [go_sem]
    refine A3 (by exact A7 (Ext.refl hw)) (by first | with_reducible rfl | (simp -implicitDefEqProofs (disch := omega) [go_sem] <;> omega)) nbA hK
  ·intro c6 h
   try simp (disch := omega) at c6
   try simp -implicitDefEqProofs (disch := omega) [go_sem]
   subst hc2; refine vcK ?_; simp -implicitDefEqProofs only [go_sem]; have er := Option.some.inj h; subst er
   try simp -implicitDefEqProofs (disch := omega) [go_sem]
   refine A3 (by exact A7 (Ext.refl hw)) (by first | with_reducible rfl | (simp -implicitDefEqProofs (disch := omega) [go_sem] <;> omega)) nbA hK
 ·intro c7 h
  try simp (disch := omega) at c7
  try simp -implicitDefEqProofs (disch := omega) [go_sem]
  subst hc2; refine vcK ?_; simp -implicitDefEqProofs only [go_sem]; have er := Option.some.inj h; subst er
  try simp -implicitDefEqProofs (disch := omega) [go_sem]
  refine A3 (by exact A7 (Ext.refl hw)) (by first | with_reducible rfl | (simp -implicitDefEqProofs (disch := omega) [go_sem] <;> omega)) nbA hK
noncomputable def F99 (a0 : Int) : Option Bool :=
 if 65 ≤ a0 then (if a0 ≤ 90 then (some true) else (if 97 ≤ a0 then (some (decide (a0 ≤ 122))) else (some false))) else (if 97 ≤ a0 then (some (decide (a0 ≤ 122))) else (some false))
set_option maxHeartbeats 8000000 in
set_option pp.deepTerms false in
set_option maxRecDepth 60000 in
theorem PE {H : A0} {K : An → A0 → Prop} (a0 : Int) {r : Bool} (h : F99 a0 = some r) (hK : K (.ret (.v (.bool r))) H) : A2 prog 99 [.v (.int .u8 a0)] H K := by
 refine Aa (N := 17) func99 (by kernel_rfl) rfl (by kernel_rfl) (by kernel_rfl) fun cb hcb hw hbd hnb => ?_; clear hbd hnb; subst hcb; unfold F99 at h; refine A1 fun cb hc1 => ?_; refine vcK ?_
 try simp -implicitDefEqProofs (disch := omega) [go_sem]
 subst hc1; refine A1 fun cb hc2 => ?_; refine vcK ?_
 try simp -implicitDefEqProofs (disch := omega) [go_sem]
 refine A5 h (by first | with_reducible rfl | (simp -implicitDefEqProofs (disch := omega) [go_sem] <;> omega)) ?_ ?_
 ·intro c6 h
  try simp (disch := omega) at c6
  try simp -implicitDefEqProofs (disch := omega) [go_sem]
  refine A5 h (by first | with_reducible rfl | (simp -implicitDefEqProofs (disch := omega) [go_sem] <;> omega)) ?_ ?_
  ·intro c4 h
   try simp (disch := omega) at c4
   try simp -implicitDefEqProofs (disch := omega) [go_sem]
   subst hc2; refine vcK ?_; simp -implicitDefEqProofs only [go_sem]; have er := Option.some.inj h; subst er
   try simp -implicitDefEqProofs (disch := omega) [go_sem]
   refine A3 (by exact A7 (Ext.refl hw)) (by first | with_reducible rfl | (simp -implicitDefEqProofs (disch := omega) [go_sem] <;> omega)) nbA hK
  ·intro c4 h
   try simp (disch := omega) at c4
   try simp -implicitDefEqProofs (disch := omega) [go_sem]
   refine A5 h (by first | with_reducible rfl | (simp -implicitDefEqProofs (disch := omega) [go_sem] <;> omega)) ?_ ?_
   ·intro c3 h
    try simp (disch := omega) at c3
    try simp -implicitDefEqProofs (disch := omega) [go_sem]
    subst hc2; refine vcK ?_; simp -implicitDefEqProofs only [go_sem]; have er := Option.some.inj h; subst er
    try simp -implicitDefEqProofs (disch := omega) [go_sem]
    refine A3 (by exact A7 (Ext.refl hw)) (by first | with_reducible rfl | (simp -implicitDefEqProofs (disch := omega) [go_sem] <;> omega)) nbA hK
   ·intro c3 h
    try simp (disch := omega) at c3
    try simp -implicitDefEqProofs (disch := omega) [go_sem]
    subst hc2; refine vcK ?_; simp -implicitDefEqProofs only [go_sem]; have er := Option.some.inj h; subst er
    try simp -implicitDefEqProofs (disch := omega) [go_sem]
    refine A3 (by exact A7 (Ext.refl hw)) (by first | with_reducible rfl | (simp -implicitDefEqProofs (disch := omega) [go_sem] <;> omega)) nbA hK
 ·intro c6 h
  try simp (disch := omega) at c6
  try simp -implicitDefEqProofs (disch := omega) [go_sem]
  refine A5 h (by first | with_reducible rfl | (simp -implicitDefEqProofs (disch := omega) [go_sem] <;> omega)) ?_ ?_
  ·intro c5 h
   try simp (disch := omega) at c5
   try simp -implicitDefEqProofs (disch := omega) [go_sem]
   subst hc2; refine vcK ?_; simp -implicitDefEqProofs only [go_sem]; have er := Option.some.inj h; subst er
   try simp -implicitDefEqProofs (disch := omega) [go_sem]
   refine A3 (by exact A7 (Ext.refl hw)) (by first | with_reducible rfl | (simp -implicitDefEqProofs (disch := omega) [go_sem] <;> omega)) nbA hK
  ·intro c5 h
   try simp (disch := omega) at c5
   try simp -implicitDefEqProofs (disch := omega) [go_sem]
   subst hc2; refine vcK ?_; simp -implicitDefEqProofs only [go_sem]; have er := Option.some.inj h; subst er
   try simp -implicitDefEqProofs (disch := omega) [go_sem]
   refine A3 (by exact A7 (Ext.refl hw)) (by first | with_reducible rfl | (simp -implicitDefEqProofs (disch := omega) [go_sem] <;> omega)) nbA hK
end Go.Idl
namespace Go.Idl
open Go Go.Proofs.Tryz
noncomputable def HT  : Option Bool :=
 some true
noncomputable def Gt (a0 : List UInt8) (v13 : Int) : Option (Int ⊕ (Unit ⊕ Bool)) :=
 if v13 < (a0.length : Int) then (gd (0 ≤ v13 ∧ v13 < a0.length) ((F99 (((a0.getD v13.toNat 0).toNat : Int))).bind fun (x21 : Bool) => if ¬ (x21 = true) then (if (((a0.getD v13.toNat 0).toNat : Int)) < 48 then (if ¬ (((a0.getD v13.toNat 0).toNat : Int)) = 45 then (some (.inr (.inr false))) else (some (.inl (IntKind.i64.wrap (v13 + 1))))) else (if 57 < (((a0.getD v13.toNat 0).toNat : Int)) then (if ¬ (((a0.getD v13.toNat 0).toNat : Int)) = 45 then (some (.inr (.inr false))) else (some (.inl (IntKind.i64.wrap (v13 + 1))))) else (some (.inl (IntKind.i64.wrap (v13 + 1)))))) else (some (.inl (IntKind.i64.wrap (v13 + 1)))))) else (some (.inr (.inl ())))
noncomputable def F70 (a0 : List UInt8) : Option Bool :=
 if (a0.length : Int) < 1 then (some false) else (if 64 < (a0.length : Int) then (some false) else (gd (0 < a0.length) ((F99 (((a0.getD 0 0).toNat : Int))).bind fun (x7 : Bool) => if ¬ (x7 = true) then (some false) else ((AY (fun (s : Int) => Gt a0 s) 0).bind fun y => Sum.elim (fun (e : Unit) => HT) (fun (q : Bool) => some q) y))))
set_option maxHeartbeats 8000000 in
set_option pp.deepTerms false in
set_option maxRecDepth 60000 in
theorem U1 {H : A0} {K : An → A0 → Prop} (a0 : List UInt8) {r : Bool} (h : F70 a0 = some r) (hK : K (.ret (.v (.bool r))) H) : A2 prog 70 [.v (str a0)] H K := by
 refine Aa (N := 47) func70 (by kernel_rfl) rfl (by kernel_rfl) (by kernel_rfl) fun cb hcb hw hbd hnb => ?_; clear hbd hnb; subst hcb; unfold F70 at h; refine A1 fun cb hc1 => ?_; refine vcK ?_
 try simp -implicitDefEqProofs (disch := omega) [go_sem]
 subst hc1; refine A1 fun cb hc2 => ?_; refine A1 fun cb hc3 => ?_; refine vcK ?_
 try simp -implicitDefEqProofs (disch := omega) [go_sem]
 refine A5 h (by first | with_reducible rfl | (simp -implicitDefEqProofs (disch := omega) [go_sem] <;> omega)) ?_ ?_
 ·intro c30 h
  try simp (disch := omega) at c30
  try simp -implicitDefEqProofs (disch := omega) [go_sem]
  subst hc3; refine Aq (by first | with_reducible rfl | (simp -implicitDefEqProofs (disch := omega) [go_sem] <;> omega)) rfl ?_; refine A1 fun cb hc4 => ?_; refine vcK ?_
  try simp -implicitDefEqProofs (disch := omega) [go_sem]
  subst hc4; refine vcK ?_; simp -implicitDefEqProofs only [go_sem]; have er := Option.some.inj h; subst er
  try simp -implicitDefEqProofs (disch := omega) [go_sem]
  refine A3 (by exact A7 (Ext.refl hw)) (by first | with_reducible rfl | (simp -implicitDefEqProofs (disch := omega) [go_sem] <;> omega)) nbA hK
 ·intro c30 h
  try simp (disch := omega) at c30
  try simp -implicitDefEqProofs (disch := omega) [go_sem]
  refine A5 h (by first | with_reducible rfl | (simp -implicitDefEqProofs (disch := omega) [go_sem] <;> omega)) ?_ ?_
  ·intro c29 h
   try simp (disch := omega) at c29
   try simp -implicitDefEqProofs (disch := omega) [go_sem]
   subst hc3; refine Aq (by first | with_reducible rfl | (simp -implicitDefEqProofs (disch := omega) [go_sem] <;> omega)) rfl ?_; refine A1 fun cb hc5 => ?_; refine vcK ?_
   try simp -implicitDefEqProofs (disch := omega) [go_sem]
   subst hc5; refine vcK ?_; simp -implicitDefEqProofs only [go_sem]; have er := Option.some.inj h; subst er
   try simp -implicitDefEqProofs (disch := omega) [go_sem]
   refine A3 (by exact A7 (Ext.refl hw)) (by first | with_reducible rfl | (simp -implicitDefEqProofs (disch := omega) [go_sem] <;> omega)) nbA hK
  ·intro c29 h
   try simp (disch := omega) at c29
   obtain ⟨g6, h⟩ := A8.1 h
   try simp (disch := omega) at g6
   try simp -implicitDefEqProofs (disch := omega) [go_sem]
   obtain ⟨x7, hx7, h⟩ := A4 h; refine A2.eqA (args' := [.v (.int .u8 (((a0.getD 0 0).toNat : Int)))]) (by first | with_reducible rfl | (simp -implicitDefEqProofs (disch := omega) [go_sem] <;> omega)) (PE (((a0.getD 0 0).toNat : Int)) hx7 ?_)
   try simp -implicitDefEqProofs (disch := omega) [go_sem]
   subst hc3; refine Ac h (by first | with_reducible rfl | (simp -implicitDefEqProofs (disch := omega) [go_sem] <;> omega)) rfl ?_ ?_
   ·intro c8 h
    try simp (disch := omega) at c8
    refine A1 fun cb hc9 => ?_; refine vcK ?_
    try simp -implicitDefEqProofs (disch := omega) [go_sem]
    subst hc9; refine vcK ?_; simp -implicitDefEqProofs only [go_sem]; have er := Option.some.inj h; subst er
    try simp -implicitDefEqProofs (disch := omega) [go_sem]
    refine A3 (by exact A7 (Ext.refl hw)) (by first | with_reducible rfl | (simp -implicitDefEqProofs (disch := omega) [go_sem] <;> omega)) nbA hK
   ·intro c8 h
    try simp (disch := omega) at c8
    refine vcK ?_; simp -implicitDefEqProofs only [go_sem]; subst hc2; refine A1 fun cb hc10 => ?_; refine A1 fun cb hc11 => ?_; refine vcK ?_
    try simp -implicitDefEqProofs (disch := omega) [go_sem]
    subst hc11; obtain ⟨y12, hl12q, hk12⟩ := A4 h; refine AZ (fun tm' H' => .inl () = y12 ∧ H = H') ?_ fun cb hc12 => ?_
    ·rintro tm12e H12e ⟨rfl, rfl⟩
     have h : HT = some r := hk12; unfold HT at h; simp -implicitDefEqProofs only [go_sem]; subst hc10; refine A1 fun cb hc14 => ?_; refine vcK ?_
     try simp -implicitDefEqProofs (disch := omega) [go_sem]
     subst hc14; refine vcK ?_; simp -implicitDefEqProofs only [go_sem]; have er := Option.some.inj h; subst er
     try simp -implicitDefEqProofs (disch := omega) [go_sem]
     refine A3 (by exact A7 (Ext.refl hw)) (by first | with_reducible rfl | (simp -implicitDefEqProofs (disch := omega) [go_sem] <;> omega)) nbA hK
    ·refine Ag ?_; refine AQ (fun (s : Int) tm' H' => H = H' ∧ tm' 0 = .v (str a0) ∧ tm' 3 = .v (.int .i64 s)) hl12q ?_ ?_
     ·refine .same ⟨rfl, ?_, ?_⟩ <;> first | with_reducible rfl | with_reducible assumption | (simp -implicitDefEqProofs (disch := omega) [go_sem] <;> omega)
     ·rintro I12 hI12 v13 x12 tm12 H12 ⟨rfl, BG, BH⟩ h hret12
      replace h : Gt a0 v13 = some x12 := h; unfold Gt at h; refine A1 fun cb hc15 => ?_; refine A1 fun cb hc16 => ?_; refine vcK ?_
      try simp -implicitDefEqProofs (disch := omega) [go_sem, BG, BH]
      subst hc16; refine Ac h (by first | with_reducible rfl | (simp -implicitDefEqProofs (disch := omega) [go_sem, BG, BH] <;> omega)) rfl ?_ ?_
      ·intro c17 h
       try simp (disch := omega) at c17
       refine vcK ?_; simp -implicitDefEqProofs only [go_sem]; subst hc15; refine A1 fun cb hc18 => ?_; refine Ag ?_; refine A1 fun cb hc19 => ?_; refine vcK ?_; obtain ⟨g20, h⟩ := A8.1 h
       try simp (disch := omega) at g20
       try simp -implicitDefEqProofs (disch := omega) [go_sem, BG, BH]
       obtain ⟨x21, hx21, h⟩ := A4 h; refine A2.eqA (args' := [.v (.int .u8 (((a0.getD v13.toNat 0).toNat : Int)))]) (by first | with_reducible rfl | (simp -implicitDefEqProofs (disch := omega) [go_sem, BG, BH] <;> omega)) (PE (((a0.getD v13.toNat 0).toNat : Int)) hx21 ?_)
       try simp -implicitDefEqProofs (disch := omega) [go_sem, BG, BH]
       refine A5 h (by first | with_reducible rfl | (simp -implicitDefEqProofs (disch := omega) [go_sem, BG, BH] <;> omega)) ?_ ?_
       ·intro c28 h
        try simp (disch := omega) at c28
        try simp -implicitDefEqProofs (disch := omega) [go_sem, BG, BH]
        refine A5 h (by first | with_reducible rfl | (simp -implicitDefEqProofs (disch := omega) [go_sem, BG, BH] <;> omega)) ?_ ?_
        ·intro c27 h
         try simp (disch := omega) at c27
         try simp -implicitDefEqProofs (disch := omega) [go_sem, BG, BH]
         subst hc19; refine Ac h (by first | with_reducible rfl | (simp -implicitDefEqProofs (disch := omega) [go_sem, BG, BH] <;> omega)) rfl ?_ ?_
         ·intro c22 h
          try simp (disch := omega) at c22
          refine A1 fun cb hc23 => ?_; refine vcK ?_
          try simp -implicitDefEqProofs (disch := omega) [go_sem, BG, BH]
          subst hc23; refine vcK ?_; simp -implicitDefEqProofs only [go_sem]; have e12 := Option.some.inj h; subst e12; have e12 := hret12 _ rfl; subst e12; replace h : some false = some r := hk12; have er := Option.some.inj h; subst er
          try simp -implicitDefEqProofs (disch := omega) [go_sem, BG, BH]
          refine A3 (by exact A7 (Ext.refl hw)) (by first | with_reducible rfl | (simp -implicitDefEqProofs (disch := omega) [go_sem, BG, BH] <;> omega)) nbA hK
         ·intro c22 h
          try simp (disch := omega) at c22
          refine vcK ?_; simp -implicitDefEqProofs only [go_sem]; subst hc18; refine vcK ?_
          try simp -implicitDefEqProofs (disch := omega) [go_sem, BG, BH]
          have e12 := Option.some.inj h; subst e12; refine Ap hI12 (IntKind.i64.wrap (v13 + 1)) ?_; refine .same ⟨rfl, ?_, ?_⟩ <;> first | with_reducible rfl | with_reducible assumption | (simp -implicitDefEqProofs (disch := omega) [go_sem, BG, BH] <;> omega)
        ·intro c27 h
         try simp (disch := omega) at c27
         try simp -implicitDefEqProofs (disch := omega) [go_sem, BG, BH]
         refine A5 h (by first | with_reducible rfl | (simp -implicitDefEqProofs (disch := omega) [go_sem, BG, BH] <;> omega)) ?_ ?_
         ·intro c26 h
          try simp (disch := omega) at c26
          try simp -implicitDefEqProofs (disch := omega) [go_sem, BG, BH]
          subst hc19; refine Ac h (by first | with_reducible rfl | (simp -implicitDefEqProofs (disch := omega) [go_sem, BG, BH] <;> omega)) rfl ?_ ?_
          ·intro c24 h
           try simp (disch := omega) at c24
           refine A1 fun cb hc25 => ?_; refine vcK ?_
           try simp -implicitDefEqProofs (disch := omega) [go_sem, BG, BH]
           subst hc25; refine vcK ?_; simp -implicitDefEqProofs only [go_sem]; have e12 := Option.some.inj h; subst e12; have e12 := hret12 _ rfl; subst e12; replace h : some false = some r := hk12; have er := Option.some.inj h; subst er
           try simp -implicitDefEqProofs (disch := omega) [go_sem, BG, BH]
           refine A3 (by exact A7 (Ext.refl hw)) (by first | with_reducible rfl | (simp -implicitDefEqProofs (disch := omega) [go_sem, BG, BH] <;> omega)) nbA hK
          ·intro c24 h
           try simp (disch := omega) at c24
           refine vcK ?_; simp -implicitDefEqProofs only [go_sem]; subst hc18; refine vcK ?_
           try simp -implicitDefEqProofs (disch := omega) [go_sem, BG, BH]
           have e12 := Option.some.inj h; subst e12; refine Ap hI12 (IntKind.i64.wrap (v13 + 1)) ?_; refine .same ⟨rfl, ?_, ?_⟩ <;> first | with_reducible rfl | with_reducible assumption | (simp -implicitDefEqProofs (disch := omega) [go_sem, BG, BH] <;> omega)
         ·intro c26 h
          try simp (disch := omega) at c26
          try simp -implicitDefEqProofs (disch := omega) [go_sem, BG, BH]
          subst hc19; refine By (by first | with_reducible rfl | (simp -implicitDefEqProofs (disch := omega) [go_sem, BG, BH] <;> omega)) rfl ?_; refine vcK ?_; simp -implicitDefEqProofs only [go_sem]; subst hc18; refine vcK ?_
          try simp -implicitDefEqProofs (disch := omega) [go_sem, BG, BH]
          have e12 := Option.some.inj h; subst e12; refine Ap hI12 (IntKind.i64.wrap (v13 + 1)) ?_; refine .same ⟨rfl, ?_, ?_⟩ <;> first | with_reducible rfl | with_reducible assumption | (simp -implicitDefEqProofs (disch := omega) [go_sem, BG, BH] <;> omega)
       ·intro c28 h
        try simp (disch := omega) at c28
        try simp -implicitDefEqProofs (disch := omega) [go_sem, BG, BH]
        subst hc19; refine By (by first | with_reducible rfl | (simp -implicitDefEqProofs (disch := omega) [go_sem, BG, BH] <;> omega)) rfl ?_; refine vcK ?_; simp -implicitDefEqProofs only [go_sem]; subst hc18; refine vcK ?_
        try simp -implicitDefEqProofs (disch := omega) [go_sem, BG, BH]
        have e12 := Option.some.inj h; subst e12; refine Ap hI12 (IntKind.i64.wrap (v13 + 1)) ?_; refine .same ⟨rfl, ?_, ?_⟩ <;> first | with_reducible rfl | with_reducible assumption | (simp -implicitDefEqProofs (disch := omega) [go_sem, BG, BH] <;> omega)
      ·intro c17 h
       try simp (disch := omega) at c17
       refine vcK ?_; simp -implicitDefEqProofs only [go_sem]; have e12 := Option.some.inj h; subst e12; have hy12 := hret12 _ rfl; refine hc12 _ _ ?_; refine .same ⟨hy12, rfl⟩
noncomputable def Kz (v8 : List UInt8) : Option (List UInt8) :=
 some v8
noncomputable def GV (a0 : List UInt8) (v6 : List UInt8) (v7 : Int) : Option (((List UInt8) × Int) ⊕ (List UInt8)) :=
 if v7 < (a0.length : Int) then (gd (0 ≤ v7 ∧ v7 < a0.length) (if 65 ≤ (((a0.getD v7.toNat 0).toNat : Int)) then (if (((a0.getD v7.toNat 0).toNat : Int)) ≤ 90 then (gd (0 ≤ (IntKind.u8.wrap ((((a0.getD v7.toNat 0).toNat : Int)) + 32)) ∧ (IntKind.u8.wrap ((((a0.getD v7.toNat 0).toNat : Int)) + 32)) ≤ 255) (gd ((v6.length : Int) + (([UInt8.ofNat (IntKind.u8.wrap ((((a0.getD v7.toNat 0).toNat : Int)) + 32)).toNat] : List UInt8)).length ≤ 9223372036854775807) (some (.inl ((v6 ++ (([UInt8.ofNat (IntKind.u8.wrap ((((a0.getD v7.toNat 0).toNat : Int)) + 32)).toNat] : List UInt8)), IntKind.i64.wrap (v7 + 1))))))) else (gd (0 ≤ (((a0.getD v7.toNat 0).toNat : Int)) ∧ (((a0.getD v7.toNat 0).toNat : Int)) ≤ 255) (gd ((v6.length : Int) + (([UInt8.ofNat (((a0.getD v7.toNat 0).toNat : Int)).toNat] : List UInt8)).length ≤ 9223372036854775807) (some (.inl ((v6 ++ (([UInt8.ofNat (((a0.getD v7.toNat 0).toNat : Int)).toNat] : List UInt8)), IntKind.i64.wrap (v7 + 1)))))))) else (gd (0 ≤ (((a0.getD v7.toNat 0).toNat : Int)) ∧ (((a0.getD v7.toNat 0).toNat : Int)) ≤ 255) (gd ((v6.length : Int) + (([UInt8.ofNat (((a0.getD v7.toNat 0).toNat : Int)).toNat] : List UInt8)).length ≤ 9223372036854775807) (some (.inl ((v6 ++ (([UInt8.ofNat (((a0.getD v7.toNat 0).toNat : Int)).toNat] : List UInt8)), IntKind.i64.wrap (v7 + 1))))))))) else (some (.inr v6))
noncomputable def F71 (a0 : List UInt8) : Option (List UInt8) :=
 (AY (fun (s : (List UInt8) × Int) => GV a0 s.1 s.2) ([], 0)).bind fun (e : (List UInt8)) => Kz e
set_option maxHeartbeats 8000000 in
set_option pp.deepTerms false in
set_option maxRecDepth 60000 in
theorem U2 {H : A0} {K : An → A0 → Prop} (a0 : List UInt8) {r : (List UInt8)} (h : F71 a0 = some r) (hK : K (.ret (.v (str r))) H) : A2 prog 71 [.v (str a0)] H K := by
 refine Aa (N := 29) func71 (by kernel_rfl) rfl (by kernel_rfl) (by kernel_rfl) fun cb hcb hw hbd hnb => ?_; clear hbd hnb; subst hcb; unfold F71 at h; refine A1 fun cb hc1 => ?_; refine vcK ?_
 try simp -implicitDefEqProofs (disch := omega) [go_sem]
 subst hc1; refine A1 fun cb hc2 => ?_; refine vcK ?_
 try simp -implicitDefEqProofs (disch := omega) [go_sem]
 subst hc2; refine A1 fun cb hc3 => ?_; refine A1 fun cb hc4 => ?_; refine vcK ?_
 try simp -implicitDefEqProofs (disch := omega) [go_sem]
 subst hc4; obtain ⟨y5, hl5q, hk5⟩ := A4 h; refine AZ (fun tm' H' => ∃ v8 : List UInt8, v8 = y5 ∧ H = H' ∧ tm' 3 = .v (str v8)) ?_ fun cb hc5 => ?_
 ·rintro tm5e H5e ⟨v8, rfl, rfl, t3_5e⟩
  have h : Kz v8 = some r := hk5; unfold Kz at h; simp -implicitDefEqProofs only [go_sem]; subst hc3; refine A1 fun cb hc9 => ?_; refine vcK ?_
  try simp -implicitDefEqProofs (disch := omega) [go_sem, t3_5e]
  subst hc9; refine vcK ?_; simp -implicitDefEqProofs only [go_sem]; have er := Option.some.inj h; subst er
  try simp -implicitDefEqProofs (disch := omega) [go_sem, t3_5e]
  refine A3 (by exact A7 (Ext.refl hw)) (by first | with_reducible rfl | (simp -implicitDefEqProofs (disch := omega) [go_sem, t3_5e] <;> omega)) nbA hK
 ·refine Ag ?_; refine AQ (fun (s : (List UInt8) × Int) tm' H' => H = H' ∧ tm' 0 = .v (str a0) ∧ tm' 3 = .v (str s.1) ∧ tm' 4 = .v (.int .i64 s.2)) hl5q ?_ ?_
  ·refine .same ⟨rfl, ?_, ?_, ?_⟩ <;> first | with_reducible rfl | with_reducible assumption | (simp -implicitDefEqProofs (disch := omega) [go_sem] <;> omega)
  ·rintro I5 hI5 ⟨v6, v7⟩ x5 tm5 H5 ⟨rfl, Bi, BI, E1⟩ h hret5
   replace h : GV a0 v6 v7 = some x5 := h; unfold GV at h; refine A1 fun cb hc10 => ?_; refine A1 fun cb hc11 => ?_; refine vcK ?_
   try simp -implicitDefEqProofs (disch := omega) [go_sem, Bi, BI, E1]
   subst hc11; refine Ac h (by first | with_reducible rfl | (simp -implicitDefEqProofs (disch := omega) [go_sem, Bi, BI, E1] <;> omega)) rfl ?_ ?_
   ·intro c12 h
    try simp (disch := omega) at c12
    refine vcK ?_; simp -implicitDefEqProofs only [go_sem]; subst hc10; refine A1 fun cb hc13 => ?_; refine Ag ?_; refine A1 fun cb hc14 => ?_; refine vcK ?_; obtain ⟨g15, h⟩ := A8.1 h
    try simp (disch := omega) at g15
    try simp -implicitDefEqProofs (disch := omega) [go_sem, Bi, BI, E1]
    subst hc14; refine A1 fun cb hc16 => ?_; refine A1 fun cb hc17 => ?_; refine vcK ?_
    try simp -implicitDefEqProofs (disch := omega) [go_sem, Bi, BI, E1]
    refine A5 h (by first | with_reducible rfl | (simp -implicitDefEqProofs (disch := omega) [go_sem, Bi, BI, E1] <;> omega)) ?_ ?_
    ·intro c25 h
     try simp (disch := omega) at c25
     try simp -implicitDefEqProofs (disch := omega) [go_sem, Bi, BI, E1]
     subst hc17; refine Ac h (by first | with_reducible rfl | (simp -implicitDefEqProofs (disch := omega) [go_sem, Bi, BI, E1] <;> omega)) rfl ?_ ?_
     ·intro c18 h
      try simp (disch := omega) at c18
      refine vcK ?_
      try simp -implicitDefEqProofs (disch := omega) [go_sem, Bi, BI, E1]
      subst hc16; refine vcK ?_; obtain ⟨g19, h⟩ := A8.1 h
      try simp (disch := omega) at g19
      obtain ⟨g20, h⟩ := A8.1 h
      try simp (disch := omega) at g20
      try simp -implicitDefEqProofs (disch := omega) [go_sem] at g19
      try simp -implicitDefEqProofs (disch := omega) [go_sem] at g20
      try simp -implicitDefEqProofs (disch := omega) [go_sem, Bi, BI, E1]
      subst hc13; refine vcK ?_
      try simp -implicitDefEqProofs (disch := omega) [go_sem, Bi, BI, E1]
      have e5 := Option.some.inj h; subst e5; refine Ap hI5 ((v6 ++ (([UInt8.ofNat (IntKind.u8.wrap ((((a0.getD v7.toNat 0).toNat : Int)) + 32)).toNat] : List UInt8)), IntKind.i64.wrap (v7 + 1))) ?_; refine .same ⟨rfl, ?_, ?_, ?_⟩ <;> first | with_reducible rfl | with_reducible assumption | (simp -implicitDefEqProofs (disch := omega) [go_sem, Bi, BI, E1] <;> omega)
     ·intro c18 h
      try simp (disch := omega) at c18
      refine vcK ?_; simp -implicitDefEqProofs only [go_sem]; subst hc16; refine vcK ?_; obtain ⟨g21, h⟩ := A8.1 h
      try simp (disch := omega) at g21
      obtain ⟨g22, h⟩ := A8.1 h
      try simp (disch := omega) at g22
      try simp -implicitDefEqProofs (disch := omega) [go_sem, Bi, BI, E1]
      subst hc13; refine vcK ?_
      try simp -implicitDefEqProofs (disch := omega) [go_sem, Bi, BI, E1]
      have e5 := Option.some.inj h; subst e5; refine Ap hI5 ((v6 ++ (([UInt8.ofNat (((a0.getD v7.toNat 0).toNat : Int)).toNat] : List UInt8)), IntKind.i64.wrap (v7 + 1))) ?_; refine .same ⟨rfl, ?_, ?_, ?_⟩ <;> first | with_reducible rfl | with_reducible assumption | (simp -implicitDefEqProofs (disch := omega) [go_sem, Bi, BI, E1] <;> omega)
    ·intro c25 h
     try simp (disch := omega) at c25
     try simp -implicitDefEqProofs (disch := omega) [go_sem, Bi, BI, E1]
     subst hc17; refine By (by first | with_reducible rfl | (simp -implicitDefEqProofs (disch := omega) [go_sem, Bi, BI, E1] <;> omega)) rfl ?_; refine vcK ?_; simp -implicitDefEqProofs only [go_sem]; subst hc16; refine vcK ?_; obtain ⟨g23, h⟩ := A8.1 h
     try simp (disch := omega) at g23
     obtain ⟨g24, h⟩ := A8.1 h
     try simp (disch := omega) at g24
     try simp -implicitDefEqProofs (disch := omega) [go_sem, Bi, BI, E1]
     subst hc13; refine vcK ?_
     try simp -implicitDefEqProofs (disch := omega) [go_sem, Bi, BI, E1]
     have e5 := Option.some.inj h; subst e5; refine Ap hI5 ((v6 ++ (([UInt8.ofNat (((a0.getD v7.toNat 0).toNat : Int)).toNat] : List UInt8)), IntKind.i64.wrap (v7 + 1))) ?_; refine .same ⟨rfl, ?_, ?_, ?_⟩ <;> first | with_reducible rfl | with_reducible assumption | (simp -implicitDefEqProofs (disch := omega) [go_sem, Bi, BI, E1] <;> omega)
   ·intro c12 h
    try simp (disch := omega) at c12
    refine vcK ?_; simp -implicitDefEqProofs only [go_sem]; have e5 := Option.some.inj h; subst e5; have hy5 := hret5 _ rfl; refine hc5 _ _ ?_; refine .same ⟨v6, hy5, rfl, by first | with_reducible rfl | with_reducible assumption | (simp -implicitDefEqProofs (disch := omega) [go_sem, Bi, BI, E1] <;> omega)⟩
noncomputable def F72 (a0 : List UInt8) : Option Bool :=
 if (a0.length : Int) ≤ 200 then ((F55 a0 32 126).bind fun (x3 : Bool) => if x3 = true then (if a0 = [] then (some true) else (gd (0 < a0.length) (if ¬ (((a0.getD 0 0).toNat : Int)) = 32 then (gd (0 ≤ (IntKind.i64.wrap ((a0.length : Int) - 1)) ∧ (IntKind.i64.wrap ((a0.length : Int) - 1)) < a0.length) (some (decide (¬ (((a0.getD (IntKind.i64.wrap ((a0.length : Int) - 1)).toNat 0).toNat : Int)) = 32)))) else (some false)))) else (some false)) else (some false)
set_option maxHeartbeats 8000000 in
set_option pp.deepTerms false in
set_option maxRecDepth 60000 in
theorem U3 {H : A0} {K : An → A0 → Prop} (a0 : List UInt8) {r : Bool} (h : F72 a0 = some r) (hK : K (.ret (.v (.bool r))) H) : A2 prog 72 [.v (str a0)] H K := by
 refine Aa (N := 27) func72 (by kernel_rfl) rfl (by kernel_rfl) (by kernel_rfl) fun cb hcb hw hbd hnb => ?_; clear hbd hnb; subst hcb; unfold F72 at h; refine A1 fun cb hc1 => ?_; refine vcK ?_
 try simp -implicitDefEqProofs (disch := omega) [go_sem]
 subst hc1; refine A1 fun cb hc2 => ?_; refine vcK ?_
 try simp -implicitDefEqProofs (disch := omega) [go_sem]
 refine A5 h (by first | with_reducible rfl | (simp -implicitDefEqProofs (disch := omega) [go_sem] <;> omega)) ?_ ?_
 ·intro c9 h
  try simp (disch := omega) at c9
  try simp -implicitDefEqProofs (disch := omega) [go_sem]
  obtain ⟨x3, hx3, h⟩ := A4 h; refine A2.eqA (args' := [.v (str a0), .v (.int .u8 32), .v (.int .u8 126)]) (by first | with_reducible rfl | (simp -implicitDefEqProofs (disch := omega) [go_sem] <;> omega)) (MS a0 32 126 hx3 ?_)
  try simp -implicitDefEqProofs (disch := omega) [go_sem]
  refine A5 h (by first | with_reducible rfl | (simp -implicitDefEqProofs (disch := omega) [go_sem] <;> omega)) ?_ ?_
  ·intro c8 h
   try simp (disch := omega) at c8
   try simp -implicitDefEqProofs (disch := omega) [go_sem]
   refine A5 h (by first | with_reducible rfl | (simp -implicitDefEqProofs (disch := omega) [go_sem] <;> omega)) ?_ ?_
   ·intro c7 h
    try simp (disch := omega) at c7
    try simp -implicitDefEqProofs (disch := omega) [go_sem]
    subst hc2; refine vcK ?_; simp -implicitDefEqProofs only [go_sem]; have er := Option.some.inj h; subst er
    try simp -implicitDefEqProofs (disch := omega) [go_sem]
    refine A3 (by exact A7 (Ext.refl hw)) (by first | with_reducible rfl | (simp -implicitDefEqProofs (disch := omega) [go_sem] <;> omega)) nbA hK
   ·intro c7 h
    try simp (disch := omega) at c7
    obtain ⟨g4, h⟩ := A8.1 h
    try simp (disch := omega) at g4
    try simp -implicitDefEqProofs (disch := omega) [go_sem]
    refine A5 h (by first | with_reducible rfl | (simp -implicitDefEqProofs (disch := omega) [go_sem] <;> omega)) ?_ ?_
    ·intro c6 h
     try simp (disch := omega) at c6
     obtain ⟨g5, h⟩ := A8.1 h
     try simp (disch := omega) at g5
     try simp -implicitDefEqProofs (disch := omega) [go_sem]
     subst hc2; refine vcK ?_; simp -implicitDefEqProofs only [go_sem]; have er := Option.some.inj h; subst er
     try simp -implicitDefEqProofs (disch := omega) [go_sem]
     refine A3 (by exact A7 (Ext.refl hw)) (by first | with_reducible rfl | (simp -implicitDefEqProofs (disch := omega) [go_sem] <;> omega)) nbA hK
    ·intro c6 h
     try simp (disch := omega) at c6
     try simp -implicitDefEqProofs (disch := omega) [go_sem]
     subst hc2; refine vcK ?_; simp -implicitDefEqProofs only [go_sem]; have er := Option.some.inj h; subst er
     try simp -implicitDefEqProofs (disch := omega) [go_sem]
     refine A3 (by exact A7 (Ext.refl hw)) (by first | with_reducible rfl | (simp -implicitDefEqProofs (disch := omega) [go_sem] <;> omega)) nbA hK
  ·intro c8 h
   try simp (disch := omega) at c8
   try simp -implicitDefEqProofs (disch := omega) [go_sem]
   subst hc2; refine vcK ?_; simp -implicitDefEqProofs only [go_sem]; have er := Option.some.inj h; subst er
   try simp -implicitDefEqProofs (disch := omega) [go_sem]
   refine A3 (by exact A7 (Ext.refl hw)) (by first | with_reducible rfl | (simp -implicitDefEqProofs (disch := omega) [go_sem] <;> omega)) nbA hK
 ·intro c9 h
  try simp (disch := omega) at c9
  try simp -implicitDefEqProofs (disch := omega) [go_sem]
  subst hc2; refine vcK ?_; simp -implicitDefEqProofs only [go_sem]; have er := Option.some.inj h; subst er
  try simp -implicitDefEqProofs (disch := omega) [go_sem]
  refine A3 (by exact A7 (Ext.refl hw)) (by first | with_reducible rfl | (simp -implicitDefEqProofs (disch := omega) [go_sem] <;> omega)) nbA hK
noncomputable def KA (a0 : List S55) : Option Bool :=
 some (decide ((a0.length : Int) ≤ 16))
noncomputable def EP (a0 : List S55) (v5 : Int) : Option (Int ⊕ (Unit ⊕ Bool)) :=
 if v5 < (a0.length : Int) then (gd (0 ≤ v5 ∧ v5 < a0.length) ((F70 ((a0.getD v5.toNat S55.zero).fName)).bind fun (x14 : Bool) => if ¬ (x14 = true) then (some (.inr (.inr false))) else ((F71 ((a0.getD v5.toNat S55.zero).fName)).bind fun (x16 : (List UInt8)) => if ¬ x16 = ((a0.getD v5.toNat S55.zero).fName) then (some (.inr (.inr false))) else ((F72 ((a0.getD v5.toNat S55.zero).A6)).bind fun (x18 : Bool) => if ¬ (x18 = true) then (some (.inr (.inr false))) else (if ((a0.getD v5.toNat S55.zero).fName) = ([99, 111, 110, 116, 101, 110, 116, 45, 108, 101, 110, 103, 116, 104]) then (some (.inr (.inr false))) else (if ((a0.getD v5.toNat S55.zero).fName) = ([116, 114, 97, 110, 115, 102, 101, 114, 45, 101, 110, 99, 111, 100, 105, 110, 103]) then (some (.inr (.inr false))) else (if 0 < v5 then (gd (0 ≤ (IntKind.i64.wrap (v5 - 1)) ∧ (IntKind.i64.wrap (v5 - 1)) < a0.length) (if ¬ Op.bytesLess ((a0.getD (IntKind.i64.wrap (v5 - 1)).toNat S55.zero).fName) ((a0.getD v5.toNat S55.zero).fName) = true then (some (.inr (.inr false))) else (some (.inl (IntKind.i64.wrap (v5 + 1)))))) else (some (.inl (IntKind.i64.wrap (v5 + 1))))))))))) else (some (.inr (.inl ())))
noncomputable def F44 (a0 : List S55) : Option Bool :=
 (AY (fun (s : Int) => EP a0 s) 0).bind fun y => Sum.elim (fun (e : Unit) => KA a0) (fun (q : Bool) => some q) y
set_option maxHeartbeats 8000000 in
set_option pp.deepTerms false in
set_option maxRecDepth 60000 in
theorem U4 {H : A0} {K : An → A0 → Prop} (a0 : List S55) {r : Bool} (h : F44 a0 = some r) (hK : K (.ret (.v (.bool r))) H) : A2 prog 44 [.sl 2 (a0.map fun x => [.v (str x.fName), .v (str x.A6)])] H K := by
 refine Aa (N := 59) func44 (by kernel_rfl) rfl (by kernel_rfl) (by kernel_rfl) fun cb hcb hw hbd hnb => ?_; clear hbd hnb; subst hcb; unfold F44 at h; refine A1 fun cb hc1 => ?_; refine vcK ?_
 try simp -implicitDefEqProofs (disch := omega) [go_sem]
 subst hc1; refine A1 fun cb hc2 => ?_; refine A1 fun cb hc3 => ?_; refine vcK ?_
 try simp -implicitDefEqProofs (disch := omega) [go_sem]
 subst hc3; obtain ⟨y4, hl4q, hk4⟩ := A4 h; refine AZ (fun tm' H' => .inl () = y4 ∧ H = H' ∧ tm' 0 = .sl 2 (a0.map fun x => [.v (str x.fName), .v (str x.A6)])) ?_ fun cb hc4 => ?_
 ·rintro tm4e H4e ⟨rfl, rfl, t0_4e⟩
  have h : KA a0 = some r := hk4; unfold KA at h; simp -implicitDefEqProofs only [go_sem]; subst hc2; refine A1 fun cb hc6 => ?_; refine vcK ?_
  try simp -implicitDefEqProofs (disch := omega) [go_sem, t0_4e]
  subst hc6; refine vcK ?_; simp -implicitDefEqProofs only [go_sem]; have er := Option.some.inj h; subst er
  try simp -implicitDefEqProofs (disch := omega) [go_sem, t0_4e]
  refine A3 (by exact A7 (Ext.refl hw)) (by first | with_reducible rfl | (simp -implicitDefEqProofs (disch := omega) [go_sem, t0_4e] <;> omega)) nbA hK
 ·refine Ag ?_; refine AQ (fun (s : Int) tm' H' => H = H' ∧ tm' 0 = .sl 2 (a0.map fun x => [.v (str x.fName), .v (str x.A6)]) ∧ tm' 3 = .v (.int .i64 s)) hl4q ?_ ?_
  ·refine .same ⟨rfl, ?_, ?_⟩ <;> first | with_reducible rfl | with_reducible assumption | (simp -implicitDefEqProofs (disch := omega) [go_sem] <;> omega)
  ·rintro I4 hI4 v5 x4 tm4 H4 ⟨rfl, Ai, Bm⟩ h hret4
   replace h : EP a0 v5 = some x4 := h; unfold EP at h; refine A1 fun cb hc7 => ?_; refine A1 fun cb hc8 => ?_; refine vcK ?_
   try simp -implicitDefEqProofs (disch := omega) [go_sem, Ai, Bm]
   subst hc8; refine Ac h (by first | with_reducible rfl | (simp -implicitDefEqProofs (disch := omega) [go_sem, Ai, Bm] <;> omega)) rfl ?_ ?_
   ·intro c9 h
    try simp (disch := omega) at c9
    refine vcK ?_; simp -implicitDefEqProofs only [go_sem]; subst hc7; refine A1 fun cb hc10 => ?_; refine Ag ?_; refine A1 fun cb hc11 => ?_; refine vcK ?_; obtain ⟨g12, h⟩ := A8.1 h
    try simp (disch := omega) at g12
    try simp -implicitDefEqProofs (disch := omega) [go_sem, Ai, Bm]
    subst hc11; refine A1 fun cb hc13 => ?_; refine vcK ?_
    try simp -implicitDefEqProofs (disch := omega) [go_sem, Ai, Bm]
    obtain ⟨x14, hx14, h⟩ := A4 h; refine A2.eqA (args' := [.v (str ((a0.getD v5.toNat S55.zero).fName))]) (by first | with_reducible rfl | (simp -implicitDefEqProofs (disch := omega) [go_sem, Ai, Bm] <;> omega)) (U1 ((a0.getD v5.toNat S55.zero).fName) hx14 ?_)
    try simp -implicitDefEqProofs (disch := omega) [go_sem, Ai, Bm]
    refine A5 h (by first | with_reducible rfl | (simp -implicitDefEqProofs (disch := omega) [go_sem, Ai, Bm] <;> omega)) ?_ ?_
    ·intro c30 h
     try simp (disch := omega) at c30
     try simp -implicitDefEqProofs (disch := omega) [go_sem, Ai, Bm]
     subst hc13; refine Aq (by first | with_reducible rfl | (simp -implicitDefEqProofs (disch := omega) [go_sem, Ai, Bm] <;> omega)) rfl ?_; refine A1 fun cb hc15 => ?_; refine vcK ?_
     try simp -implicitDefEqProofs (disch := omega) [go_sem, Ai, Bm]
     subst hc15; refine vcK ?_; simp -implicitDefEqProofs only [go_sem]; have e4 := Option.some.inj h; subst e4; have e4 := hret4 _ rfl; subst e4; replace h : some false = some r := hk4; have er := Option.some.inj h; subst er
     try simp -implicitDefEqProofs (disch := omega) [go_sem, Ai, Bm]
     refine A3 (by exact A7 (Ext.refl hw)) (by first | with_reducible rfl | (simp -implicitDefEqProofs (disch := omega) [go_sem, Ai, Bm] <;> omega)) nbA hK
    ·intro c30 h
     try simp (disch := omega) at c30
     try simp -implicitDefEqProofs (disch := omega) [go_sem, Ai, Bm]
     obtain ⟨x16, hx16, h⟩ := A4 h; refine A2.eqA (args' := [.v (str ((a0.getD v5.toNat S55.zero).fName))]) (by first | with_reducible rfl | (simp -implicitDefEqProofs (disch := omega) [go_sem, Ai, Bm] <;> omega)) (U2 ((a0.getD v5.toNat S55.zero).fName) hx16 ?_)
     try simp -implicitDefEqProofs (disch := omega) [go_sem, Ai, Bm]
     refine A5 h (by first | with_reducible rfl | (simp -implicitDefEqProofs (disch := omega) [go_sem, Ai, Bm] <;> omega)) ?_ ?_
     ·intro c29 h
      try simp (disch := omega) at c29
      try simp -implicitDefEqProofs (disch := omega) [go_sem, Ai, Bm]
      subst hc13; refine Aq (by first | with_reducible rfl | (simp -implicitDefEqProofs (disch := omega) [go_sem, Ai, Bm] <;> omega)) rfl ?_; refine A1 fun cb hc17 => ?_; refine vcK ?_
      try simp -implicitDefEqProofs (disch := omega) [go_sem, Ai, Bm]
      subst hc17; refine vcK ?_; simp -implicitDefEqProofs only [go_sem]; have e4 := Option.some.inj h; subst e4; have e4 := hret4 _ rfl; subst e4; replace h : some false = some r := hk4; have er := Option.some.inj h; subst er
      try simp -implicitDefEqProofs (disch := omega) [go_sem, Ai, Bm]
      refine A3 (by exact A7 (Ext.refl hw)) (by first | with_reducible rfl | (simp -implicitDefEqProofs (disch := omega) [go_sem, Ai, Bm] <;> omega)) nbA hK
     ·intro c29 h
      try simp (disch := omega) at c29
      try simp -implicitDefEqProofs (disch := omega) [go_sem, Ai, Bm]
      obtain ⟨x18, hx18, h⟩ := A4 h; refine A2.eqA (args' := [.v (str ((a0.getD v5.toNat S55.zero).A6))]) (by first | with_reducible rfl | (simp -implicitDefEqProofs (disch := omega) [go_sem, Ai, Bm] <;> omega)) (U3 ((a0.getD v5.toNat S55.zero).A6) hx18 ?_)
      try simp -implicitDefEqProofs (disch := omega) [go_sem, Ai, Bm]
      refine A5 h (by first | with_reducible rfl | (simp -implicitDefEqProofs (disch := omega) [go_sem, Ai, Bm] <;> omega)) ?_ ?_
      ·intro c28 h
       try simp (disch := omega) at c28
       try simp -implicitDefEqProofs (disch := omega) [go_sem, Ai, Bm]
       subst hc13; refine Aq (by first | with_reducible rfl | (simp -implicitDefEqProofs (disch := omega) [go_sem, Ai, Bm] <;> omega)) rfl ?_; refine A1 fun cb hc19 => ?_; refine vcK ?_
       try simp -implicitDefEqProofs (disch := omega) [go_sem, Ai, Bm]
       subst hc19; refine vcK ?_; simp -implicitDefEqProofs only [go_sem]; have e4 := Option.some.inj h; subst e4; have e4 := hret4 _ rfl; subst e4; replace h : some false = some r := hk4; have er := Option.some.inj h; subst er
       try simp -implicitDefEqProofs (disch := omega) [go_sem, Ai, Bm]
       refine A3 (by exact A7 (Ext.refl hw)) (by first | with_reducible rfl | (simp -implicitDefEqProofs (disch := omega) [go_sem, Ai, Bm] <;> omega)) nbA hK
      ·intro c28 h
       try simp (disch := omega) at c28
       try simp -implicitDefEqProofs (disch := omega) [go_sem, Ai, Bm]
       refine A5 h (by first | with_reducible rfl | (simp -implicitDefEqProofs (disch := omega) [go_sem, Ai, Bm] <;> omega)) ?_ ?_
       ·intro c27 h
        try simp (disch := omega) at c27
        try simp -implicitDefEqProofs (disch := omega) [go_sem, Ai, Bm]
        subst hc13; refine Aq (by first | with_reducible rfl | (simp -implicitDefEqProofs (disch := omega) [go_sem, Ai, Bm] <;> omega)) rfl ?_; refine A1 fun cb hc20 => ?_; refine vcK ?_
        try simp -implicitDefEqProofs (disch := omega) [go_sem, Ai, Bm]
        subst hc20; refine vcK ?_; simp -implicitDefEqProofs only [go_sem]; have e4 := Option.some.inj h; subst e4; have e4 := hret4 _ rfl; subst e4; replace h : some false = some r := hk4; have er := Option.some.inj h; subst er
        try simp -implicitDefEqProofs (disch := omega) [go_sem, Ai, Bm]
        refine A3 (by exact A7 (Ext.refl hw)) (by first | with_reducible rfl | (simp -implicitDefEqProofs (disch := omega) [go_sem, Ai, Bm] <;> omega)) nbA hK
       ·intro c27 h
        try simp (disch := omega) at c27
        try simp -implicitDefEqProofs (disch := omega) [go_sem, Ai, Bm]
        refine A5 h (by first | with_reducible rfl | (simp -implicitDefEqProofs (disch := omega) [go_sem, Ai, Bm] <;> omega)) ?_ ?_
        ·intro c26 h
         try simp (disch := omega) at c26
         try simp -implicitDefEqProofs (disch := omega) [go_sem, Ai, Bm]
         subst hc13; refine Aq (by first | with_reducible rfl | (simp -implicitDefEqProofs (disch := omega) [go_sem, Ai, Bm] <;> omega)) rfl ?_; refine A1 fun cb hc21 => ?_; refine vcK ?_
         try simp -implicitDefEqProofs (disch := omega) [go_sem, Ai, Bm]
         subst hc21; refine vcK ?_; simp -implicitDefEqProofs only [go_sem]; have e4 := Option.some.inj h; subst e4; have e4 := hret4 _ rfl; subst e4; replace h : some false = some r := hk4; have er := Option.some.inj h; subst er
         try simp -implicitDefEqProofs (disch := omega) [go_sem, Ai, Bm]
         refine A3 (by exact A7 (Ext.refl hw)) (by first | with_reducible rfl | (simp -implicitDefEqProofs (disch := omega) [go_sem, Ai, Bm] <;> omega)) nbA hK
        ·intro c26 h
         try simp (disch := omega) at c26
         try simp -implicitDefEqProofs (disch := omega) [go_sem, Ai, Bm]
         refine A5 h (by first | with_reducible rfl | (simp -implicitDefEqProofs (disch := omega) [go_sem, Ai, Bm] <;> omega)) ?_ ?_
         ·intro c25 h
          try simp (disch := omega) at c25
          obtain ⟨g22, h⟩ := A8.1 h
          try simp (disch := omega) at g22
          try simp -implicitDefEqProofs (disch := omega) [go_sem, Ai, Bm]
          subst hc13; refine Ac h (by first | with_reducible rfl | (simp -implicitDefEqProofs (disch := omega) [go_sem, Ai, Bm] <;> omega)) rfl ?_ ?_
          ·intro c23 h
           try simp (disch := omega) at c23
           refine A1 fun cb hc24 => ?_; refine vcK ?_
           try simp -implicitDefEqProofs (disch := omega) [go_sem, Ai, Bm]
           subst hc24; refine vcK ?_; simp -implicitDefEqProofs only [go_sem]; have e4 := Option.some.inj h; subst e4; have e4 := hret4 _ rfl; subst e4; replace h : some false = some r := hk4; have er := Option.some.inj h; subst er
           try simp -implicitDefEqProofs (disch := omega) [go_sem, Ai, Bm]
           refine A3 (by exact A7 (Ext.refl hw)) (by first | with_reducible rfl | (simp -implicitDefEqProofs (disch := omega) [go_sem, Ai, Bm] <;> omega)) nbA hK
          ·intro c23 h
           try simp (disch := omega) at c23
           refine vcK ?_; simp -implicitDefEqProofs only [go_sem]; subst hc10; refine vcK ?_
           try simp -implicitDefEqProofs (disch := omega) [go_sem, Ai, Bm]
           have e4 := Option.some.inj h; subst e4; refine Ap hI4 (IntKind.i64.wrap (v5 + 1)) ?_; refine .same ⟨rfl, ?_, ?_⟩ <;> first | with_reducible rfl | with_reducible assumption | (simp -implicitDefEqProofs (disch := omega) [go_sem, Ai, Bm] <;> omega)
         ·intro c25 h
          try simp (disch := omega) at c25
          try simp -implicitDefEqProofs (disch := omega) [go_sem, Ai, Bm]
          subst hc13; refine By (by first | with_reducible rfl | (simp -implicitDefEqProofs (disch := omega) [go_sem, Ai, Bm] <;> omega)) rfl ?_; refine vcK ?_; simp -implicitDefEqProofs only [go_sem]; subst hc10; refine vcK ?_
          try simp -implicitDefEqProofs (disch := omega) [go_sem, Ai, Bm]
          have e4 := Option.some.inj h; subst e4; refine Ap hI4 (IntKind.i64.wrap (v5 + 1)) ?_; refine .same ⟨rfl, ?_, ?_⟩ <;> first | with_reducible rfl | with_reducible assumption | (simp -implicitDefEqProofs (disch := omega) [go_sem, Ai, Bm] <;> omega)
   ·intro c9 h
    try simp (disch := omega) at c9
    refine vcK ?_; simp -implicitDefEqProofs only [go_sem]; have e4 := Option.some.inj h; subst e4; have hy4 := hret4 _ rfl; refine hc4 _ _ ?_; refine .same ⟨hy4, rfl, by first | with_reducible rfl | with_reducible assumption | (simp -implicitDefEqProofs (disch := omega) [go_sem, Ai, Bm] <;> omega)⟩
noncomputable def F19 (a0 : S42) : Option Bool :=
 (F47 a0.Ah).bind fun (x3 : Bool) => if x3 = true then ((F48 a0.Ax).bind fun (x4 : Bool) => if x4 = true then ((F44 a0.A9).bind fun (x5 : Bool) => if x5 = true then (some (decide ((a0.Al.length : Int) ≤ 60000))) else (some false)) else (some false)) else (some false)
set_option maxHeartbeats 8000000 in
set_option pp.deepTerms false in
set_option maxRecDepth 60000 in
theorem U5 {H : A0} {K : An → A0 → Prop} (a0 : S42) {r : Bool} (h : F19 a0 = some r) (hK : K (.ret (.v (.bool r))) H) : A2 prog 19 [.ag ([.v (str a0.Ah), .v (str a0.Ax), .sl 2 (a0.A9.map fun x => [.v (str x.fName), .v (str x.A6)]), .sl 1 (a0.Al.map fun x => [.v (.int .u8 x.toNat)])])] H K := by
 refine Aa (N := 22) func19 (by kernel_rfl) rfl (by kernel_rfl) (by kernel_rfl) fun cb hcb hw hbd hnb => ?_; clear hbd hnb; subst hcb; unfold F19 at h; refine A1 fun cb hc1 => ?_; refine vcK ?_
 try simp -implicitDefEqProofs (disch := omega) [go_sem]
 subst hc1; refine A1 fun cb hc2 => ?_; refine vcK ?_
 try simp -implicitDefEqProofs (disch := omega) [go_sem]
 obtain ⟨x3, hx3, h⟩ := A4 h; refine A2.eqA (args' := [.v (str a0.Ah)]) (by first | with_reducible rfl | (simp -implicitDefEqProofs (disch := omega) [go_sem] <;> omega)) (T_ a0.Ah hx3 ?_)
 try simp -implicitDefEqProofs (disch := omega) [go_sem]
 refine A5 h (by first | with_reducible rfl | (simp -implicitDefEqProofs (disch := omega) [go_sem] <;> omega)) ?_ ?_
 ·intro c8 h
  try simp (disch := omega) at c8
  try simp -implicitDefEqProofs (disch := omega) [go_sem]
  obtain ⟨x4, hx4, h⟩ := A4 h; refine A2.eqA (args' := [.v (str a0.Ax)]) (by first | with_reducible rfl | (simp -implicitDefEqProofs (disch := omega) [go_sem] <;> omega)) (U0 a0.Ax hx4 ?_)
  try simp -implicitDefEqProofs (disch := omega) [go_sem]
  refine A5 h (by first | with_reducible rfl | (simp -implicitDefEqProofs (disch := omega) [go_sem] <;> omega)) ?_ ?_
  ·intro c7 h
   try simp (disch := omega) at c7
   try simp -implicitDefEqProofs (disch := omega) [go_sem]
   obtain ⟨x5, hx5, h⟩ := A4 h; refine A2.eqA (args' := [.sl 2 (a0.A9.map fun x => [.v (str x.fName), .v (str x.A6)])]) (by first | with_reducible rfl | (simp -implicitDefEqProofs (disch := omega) [go_sem] <;> omega)) (U4 a0.A9 hx5 ?_)
   try simp -implicitDefEqProofs (disch := omega) [go_sem]
   refine A5 h (by first | with_reducible rfl | (simp -implicitDefEqProofs (disch := omega) [go_sem] <;> omega)) ?_ ?_
   ·intro c6 h
    try simp (disch := omega) at c6
    try simp -implicitDefEqProofs (disch := omega) [go_sem]
    subst hc2; refine vcK ?_; simp -implicitDefEqProofs only [go_sem]; have er := Option.some.inj h; subst er
    try simp -implicitDefEqProofs (disch := omega) [go_sem]
    refine A3 (by exact A7 (Ext.refl hw)) (by first | with_reducible rfl | (simp -implicitDefEqProofs (disch := omega) [go_sem] <;> omega)) nbA hK
   ·intro c6 h
    try simp (disch := omega) at c6
    try simp -implicitDefEqProofs (disch := omega) [go_sem]
    subst hc2; refine vcK ?_; simp -implicitDefEqProofs only [go_sem]; have er := Option.some.inj h; subst er
    try simp -implicitDefEqProofs (disch := omega) [go_sem]
    refine A3 (by exact A7 (Ext.refl hw)) (by first | with_reducible rfl | (simp -implicitDefEqProofs (disch := omega) [go_sem] <;> omega)) nbA hK
  ·intro c7 h
   try simp (disch := omega) at c7
   try simp -implicitDefEqProofs (disch := omega) [go_sem]
   subst hc2; refine vcK ?_; simp -implicitDefEqProofs only [go_sem]; have er := Option.some.inj h; subst er
   try simp -implicitDefEqProofs (disch := omega) [go_sem]
   refine A3 (by exact A7 (Ext.refl hw)) (by first | with_reducible rfl | (simp -implicitDefEqProofs (disch := omega) [go_sem] <;> omega)) nbA hK
 ·intro c8 h
  try simp (disch := omega) at c8
  try simp -implicitDefEqProofs (disch := omega) [go_sem]
  subst hc2; refine vcK ?_; simp -implicitDefEqProofs only [go_sem]; have er := Option.some.inj h; subst er
  try simp -implicitDefEqProofs (disch := omega) [go_sem]
  refine A3 (by exact A7 (Ext.refl hw)) (by first | with_reducible rfl | (simp -implicitDefEqProofs (disch := omega) [go_sem] <;> omega)) nbA hK
end Go.Idl
namespace Go.Idl
open Go Go.Proofs.Tryz
noncomputable def F49 (a0 : List UInt8) : Option (Except Unit (S42)) :=
 (F50 a0 ([32])).bind fun (x3 : (List (List UInt8))) => if (x3.length : Int) = 3 then (gd (0 < x3.length) ((F45 (x3.getD 0 [])).bind fun (x6 : Bool) => if x6 = true then (gd (1 < x3.length) ((F46 (x3.getD 1 [])).bind fun (x8 : Bool) => if x8 = true then (gd (2 < x3.length) (if (x3.getD 2 []) = ([72, 84, 84, 80, 47, 49, 46, 49]) then (some ((.ok (⟨x3.getD 0 [], x3.getD 1 [], [], []⟩ : S42)))) else (some (.error ())))) else (some (.error ())))) else (some (.error ())))) else (some (.error ()))
set_option maxHeartbeats 8000000 in
set_option pp.deepTerms false in
set_option maxRecDepth 60000 in
theorem U6 {H : A0} {K : An → A0 → Prop} (a0 : List UInt8) (hV : VOK prog H) {r : Except Unit (S42)} (h : F49 a0 = some r) (hP : ∀ e, r = .error e → K (.pan (Ci e)) H) (hK : ∀ v : S42, r = .ok v → K (.ret (.ag ([.v (str v.Ah), .v (str v.Ax), .sl 2 (v.A9.map fun x => [.v (str x.fName), .v (str x.A6)]), .sl 1 (v.Al.map fun x => [.v (.int .u8 x.toNat)])]))) H) : A2 prog 49 [.v (str a0)] H K := by
 refine Aa (N := 35) func49 (by kernel_rfl) rfl (by kernel_rfl) (by kernel_rfl) fun cb hcb hw hbd hnb => ?_; clear hbd hnb; subst hcb; unfold F49 at h; refine A1 fun cb hc1 => ?_; refine vcK ?_
 try simp -implicitDefEqProofs (disch := omega) [go_sem, bdP]
 subst hc1; refine A1 fun cb hc2 => ?_; refine vcK ?_
 try simp -implicitDefEqProofs (disch := omega) [go_sem, bdP]
 obtain ⟨x3, hx3, h⟩ := A4 h; refine A2.eqA (args' := [.v (str a0), .v (str ([32]))]) (by first | with_reducible rfl | (simp -implicitDefEqProofs (disch := omega) [go_sem, bdP] <;> omega)) (TC a0 ([32]) (by first | exact hV.of rfl | exact hV.of ((Ext.refl hw)).sn | exact hV.of (Ext.sn (H := H) (by exact A7 (Ext.refl hw))) | exact (VOK.of hV rfl).tok | exact (VOK.of hV ((Ext.refl hw)).sn).tok | exact (VOK.of hV (Ext.sn (H := H) (by exact A7 (Ext.refl hw)))).tok) hx3 ?_)
 try simp -implicitDefEqProofs (disch := omega) [go_sem, bdP]
 subst hc2; refine A1 fun cb hc4 => ?_; refine vcK ?_
 try simp -implicitDefEqProofs (disch := omega) [go_sem, bdP]
 refine A5 h (by first | with_reducible rfl | (simp -implicitDefEqProofs (disch := omega) [go_sem, bdP] <;> omega)) ?_ ?_
 ·intro c14 h
  try simp (disch := omega) at c14
  obtain ⟨g5, h⟩ := A8.1 h
  try simp (disch := omega) at g5
  try simp -implicitDefEqProofs (disch := omega) [go_sem, bdP]
  obtain ⟨x6, hx6, h⟩ := A4 h; refine A2.eqA (args' := [.v (str (x3.getD 0 []))]) (by first | with_reducible rfl | (simp -implicitDefEqProofs (disch := omega) [go_sem, bdP] <;> omega)) (Pj (x3.getD 0 []) hx6 ?_)
  try simp -implicitDefEqProofs (disch := omega) [go_sem, bdP]
  refine A5 h (by first | with_reducible rfl | (simp -implicitDefEqProofs (disch := omega) [go_sem, bdP] <;> omega)) ?_ ?_
  ·intro c13 h
   try simp (disch := omega) at c13
   obtain ⟨g7, h⟩ := A8.1 h
   try simp (disch := omega) at g7
   try simp -implicitDefEqProofs (disch := omega) [go_sem, bdP]
   obtain ⟨x8, hx8, h⟩ := A4 h; refine A2.eqA (args' := [.v (str (x3.getD 1 []))]) (by first | with_reducible rfl | (simp -implicitDefEqProofs (disch := omega) [go_sem, bdP] <;> omega)) (Pm (x3.getD 1 []) hx8 ?_)
   try simp -implicitDefEqProofs (disch := omega) [go_sem, bdP]
   refine A5 h (by first | with_reducible rfl | (simp -implicitDefEqProofs (disch := omega) [go_sem, bdP] <;> omega)) ?_ ?_
   ·intro c12 h
    try simp (disch := omega) at c12
    obtain ⟨g9, h⟩ := A8.1 h
    try simp (disch := omega) at g9
    try simp -implicitDefEqProofs (disch := omega) [go_sem, bdP]
    refine A2.eqA (args' := [.v (.bool (decide ((x3.getD 2 []) = ([72, 84, 84, 80, 47, 49, 46, 49]))))]) (by first | with_reducible rfl | (simp -implicitDefEqProofs (disch := omega) [go_sem, bdP] <;> omega)) ?_; by_cases m10 : ¬ ((x3.getD 2 []) = ([72, 84, 84, 80, 47, 49, 46, 49]))
    ·rw [if_neg m10] at h; refine Bn  (by first | simpa using m10 | exact Bool.eq_false_iff.2 (fun q => m10 (by simpa using q))) ?_
     try simp (disch := omega) at m10
     have er := Option.some.inj h; subst er
     try simp -implicitDefEqProofs (disch := omega) [go_sem, bdP]
     exact BA (by exact Bt (Ext.refl hw)) (Dl.refl _) (hP _ rfl)
    have m10 := Classical.not_not.1 m10; rw [if_pos m10] at h; refine CE  (by simpa using m10) ?_
    try simp (disch := omega) at m10
    try simp -implicitDefEqProofs (disch := omega) [go_sem, bdP]
    subst hc4; refine A1 fun cb hc11 => ?_; refine CJ [] [0, 1, 2, 3, 4, 5, 6, 7] (by kernel_rfl) (by kernel_rfl) (fun _ _ _ _ h => h) ?_
    try simp -implicitDefEqProofs (disch := omega) [go_sem, bdP]
    subst hc11; refine vcK ?_; simp -implicitDefEqProofs only [go_sem]; have er := Option.some.inj h; subst er
    try simp -implicitDefEqProofs (disch := omega) [go_sem, bdP]
    refine AN (J := H) (r' := _) (Ext.DN (by exact A7 (Ext.refl hw))) (by first | with_reducible rfl | (simp -implicitDefEqProofs (disch := omega) [go_sem, bdP] <;> omega)) (.wk _ (.ag ([.v (str (x3.getD 0 [])), .v (str (x3.getD 1 [])), .sl 2 (([] : List S55).map fun x => [.v (str x.fName), .v (str x.A6)]), .sl 1 (([] : List UInt8).map fun x => [.v (.int .u8 x.toNat)])])) (by repeat (first | exact WkL.nil | refine WkL.cons ?_ ?_ | exact Wk.refl _ | exact Wk.nil _ | refine Wk.agL ?_ | refine Wk.tuL ?_ | (refine Wk.eqv ?_; focus (simp -implicitDefEqProofs (disch := omega) [go_sem, str]; done)))) (by first | exact nbA | exact BY | exact BN)) (hK _ rfl)
   ·intro c12 h
    try simp (disch := omega) at c12
    try simp -implicitDefEqProofs (disch := omega) [go_sem, bdP]
    refine A2.eqA (args' := [.v (.bool false)]) (by first | with_reducible rfl | (simp -implicitDefEqProofs (disch := omega) [go_sem, bdP] <;> omega)) (Bn  rfl ?_); have er := Option.some.inj h; subst er
    try simp -implicitDefEqProofs (disch := omega) [go_sem, bdP]
    exact BA (by exact Bt (Ext.refl hw)) (Dl.refl _) (hP _ rfl)
  ·intro c13 h
   try simp (disch := omega) at c13
   try simp -implicitDefEqProofs (disch := omega) [go_sem, bdP]
   refine A2.eqA (args' := [.v (.bool false)]) (by first | with_reducible rfl | (simp -implicitDefEqProofs (disch := omega) [go_sem, bdP] <;> omega)) (Bn  rfl ?_); have er := Option.some.inj h; subst er
   try simp -implicitDefEqProofs (disch := omega) [go_sem, bdP]
   exact BA (by exact Bt (Ext.refl hw)) (Dl.refl _) (hP _ rfl)
 ·intro c14 h
  try simp (disch := omega) at c14
  try simp -implicitDefEqProofs (disch := omega) [go_sem, bdP]
  refine A2.eqA (args' := [.v (.bool false)]) (by first | with_reducible rfl | (simp -implicitDefEqProofs (disch := omega) [go_sem, bdP] <;> omega)) (Bn  rfl ?_); have er := Option.some.inj h; subst er
  try simp -implicitDefEqProofs (disch := omega) [go_sem, bdP]
  exact BA (by exact Bt (Ext.refl hw)) (Dl.refl _) (hP _ rfl)
noncomputable def F52 (a0 : S42) (a1 : List S55) (a2 : List UInt8) : Option S42 :=
 some (⟨a0.Ah, a0.Ax, a1, a2⟩ : S42)
set_option maxHeartbeats 8000000 in
set_option pp.deepTerms false in
set_option maxRecDepth 60000 in
theorem U7 {H : A0} {K : An → A0 → Prop} (a0 : S42) (a1 : List S55) (a2 : List UInt8) (ka0 : Nat) (Ad : H.obj ka0 = some (.cells ([.v (str a0.Ah), .v (str a0.Ax), .sl 2 (a0.A9.map fun x => [.v (str x.fName), .v (str x.A6)]), .sl 1 (a0.Al.map fun x => [.v (.int .u8 x.toNat)])]))) {r : S42} (h : F52 a0 a1 a2 = some r) (hK : K (.ret (.tu [])) (Dy H [(ka0, .cells ([.v (str r.Ah), .v (str r.Ax), .sl 2 (r.A9.map fun x => [.v (str x.fName), .v (str x.A6)]), .sl 1 (r.Al.map fun x => [.v (.int .u8 x.toNat)])]))])) : A2 prog 52 [.p ka0 0, .sl 2 (a1.map fun x => [.v (str x.fName), .v (str x.A6)]), .sl 1 (a2.map fun x => [.v (.int .u8 x.toNat)])] H K := by
 refine Aa (N := 14) func52 (by kernel_rfl) rfl (by kernel_rfl) (by kernel_rfl) fun cb hcb hw hbd hnb => ?_; clear hbd hnb; subst hcb; unfold F52 at h; have O3 : ka0 < H.next := Nat.lt_of_not_le fun q => by rw [hw _ q] at Ad; cases Ad
 refine vcK ?_
 try simp -implicitDefEqProofs (disch := omega) [go_sem, Ad]
 have er := Option.some.inj h; subst er
 try simp -implicitDefEqProofs (disch := omega) [go_sem, Ad]
 refine AN (r' := .tu []) (io1 ka0 (.cells ([.v (str a0.Ah), .v (str a0.Ax), .sl 2 (a1.map fun x => [.v (str x.fName), .v (str x.A6)]), .sl 1 (a2.map fun x => [.v (.int .u8 x.toNat)])])) (by exact A7 (Ext.Ao (Ext.refl hw) ka0)) (by omega) (by first | with_reducible assumption | rfl | simp -implicitDefEqProofs (disch := omega) [go_sem, Ad]) (by first | exact nbA | exact BY | exact BN)) (by first | with_reducible rfl | (simp -implicitDefEqProofs (disch := omega) [go_sem, Ad] <;> omega)) (.same (by first | exact nbA | exact BY | exact BN)) hK
noncomputable def F51 (a0 : List UInt8) : Option (S42 × Int) :=
 (F64 ((⟨(⟨a0⟩ : S98)⟩ : AE))).bind fun (x5 : Except Unit ((List UInt8) × AE)) => orP x5 (fun (ex5 : Unit) => some (((⟨[], [], [], []⟩ : S42), 220))) (fun (y6 : (List UInt8) × AE) => (F49 y6.1).bind fun (x7 : Except Unit (S42)) => orP x7 (fun (ex7 : Unit) => some (((⟨[], [], [], []⟩ : S42), 220))) (fun (y8 : S42) => (F65 y6.2).bind fun (x10 : Except Unit ((List (List UInt8 × (List UInt8))) × AE)) => orP x10 (fun (ex10 : Unit) => some (((⟨[], [], [], []⟩ : S42), 220))) (fun (y11 : (List (List UInt8 × (List UInt8))) × AE) => (F66 y11.2 y11.1).bind fun (x13 : Except Unit ((List UInt8) × AE × (List (List UInt8 × (List UInt8))))) => orP x13 (fun (ex13 : Unit) => some (((⟨[], [], [], []⟩ : S42), 220))) (fun (y14 : (List UInt8) × AE × (List (List UInt8 × (List UInt8)))) => if (y14.2.1.Bl.fb.length : Int) = 0 then ((F67 y14.2.2).bind fun (x16 : (List S55)) => (F27 x16 y14.1).bind fun (x17 : Bool) => if x17 = true then ((F67 y14.2.2).bind fun (x20 : (List S55)) => (F52 y8 x20 y14.1).bind fun (x21 : S42) => some (x21, 0)) else (some (((⟨[], [], [], []⟩ : S42), 220)))) else (some (((⟨[], [], [], []⟩ : S42), 220)))))))
set_option maxHeartbeats 8000000 in
set_option pp.deepTerms false in
set_option maxRecDepth 60000 in
theorem U8 {H : A0} {K : An → A0 → Prop} (a0 : List UInt8) (hV : VOK prog H) {r : S42 × Int} (h : F51 a0 = some r) (hK : K (.ret (.tu [.ag ([.v (str r.1.Ah), .v (str r.1.Ax), .sl 2 (r.1.A9.map fun x => [.v (str x.fName), .v (str x.A6)]), .sl 1 (r.1.Al.map fun x => [.v (.int .u8 x.toNat)])]), .v (.int .i64 r.2)])) H) : A2 prog 51 [.sl 1 (a0.map fun x => [.v (.int .u8 x.toNat)]), .v (.func (.func 49) #[] #[]), .v (.func (.func 52) #[] #[])] H K := by
 refine IM (N := 45) func51 (by kernel_rfl) rfl (by kernel_rfl) (by kernel_rfl) fun cb hcb hw => ?_; subst hcb; unfold F51 at h; refine EY fun cb hc1 => ?_; refine FD.of ?_; refine vcK ?_
 try simp -implicitDefEqProofs (disch := omega) [go_sem, bdP]
 subst hc1; refine EY fun cb hc2 => ?_; refine Hy (by kernel_rfl) ?_; simp (decide := true) only [Gd, JH, IN]
 try simp -implicitDefEqProofs (disch := omega) [go_sem, bdP]
 subst hc2; refine FD.of ?_; refine A1 fun cb hc3 => ?_; refine vcK ?_
 try simp -implicitDefEqProofs (disch := omega) [go_sem, bdP]
 subst hc3; refine A1 fun cb hc4 => ?_; refine vcK ?_
 try simp -implicitDefEqProofs (disch := omega) [go_sem, bdP]
 obtain ⟨x5, hx5, h⟩ := A4 h; refine A2.eqA (args' := [.p (H.next + 2) 0]) (by first | with_reducible rfl | (simp -implicitDefEqProofs (disch := omega) [go_sem, bdP] <;> omega)) (FN ((⟨(⟨a0⟩ : S98)⟩ : AE)) (H.next + 2) (by first | with_reducible assumption | simp -implicitDefEqProofs (disch := omega) [go_sem, bdP]) (by first | exact hV.of rfl | exact hV.of ((Ext.refl hw)).sn | exact hV.of (Ext.sn (H := H) (by exact A7 (Ext.refl hw))) | exact (VOK.of hV rfl).tok | exact (VOK.of hV ((Ext.refl hw)).sn).tok | exact (VOK.of hV (Ext.sn (H := H) (by exact A7 (Ext.refl hw)))).tok) hx5 ?_ ?_)
 ·intro ex5 qx5; subst qx5; replace h := AO h; have er := Option.some.inj h; subst er
  try simp -implicitDefEqProofs (disch := omega) [go_sem, bdP]
  refine Cl ?_; refine AX.eqA (args' := [.p H.next 0, .p (H.next + 1) 0]) (by first | with_reducible rfl | (simp -implicitDefEqProofs (disch := omega) [go_sem, bdP]; done) | rfl) (F4 H.next (H.next + 1) (.v (str [])) (.v (str [])) (.v (.slice none 0 0)) (.v (.slice none 0 0)) (.v (.int .i64 0)) (by first | with_reducible assumption | simp -implicitDefEqProofs (disch := omega) [go_sem, bdP]) (by first | with_reducible assumption | simp -implicitDefEqProofs (disch := omega) [go_sem, bdP]) (by first | omega | (simp [go_sem]; done) | (simp [go_sem]; omega)) ?_)
  try simp -implicitDefEqProofs (disch := omega) [go_sem, bdP]
  refine AN (J := H) (r' := _) (Ext.DN (by exact A7 (Ext.refl hw))) (by first | with_reducible rfl | (simp -implicitDefEqProofs (disch := omega) [go_sem, bdP] <;> omega)) (.wk _ (.tu [.ag ([.v (str []), .v (str []), .sl 2 (([] : List S55).map fun x => [.v (str x.fName), .v (str x.A6)]), .sl 1 (([] : List UInt8).map fun x => [.v (.int .u8 x.toNat)])]), .v (.int .i64 220)]) (by repeat (first | exact WkL.nil | refine WkL.cons ?_ ?_ | exact Wk.refl _ | exact Wk.nil _ | refine Wk.agL ?_ | refine Wk.tuL ?_ | (refine Wk.eqv ?_; focus (simp -implicitDefEqProofs (disch := omega) [go_sem, str]; done)))) (by first | exact nbA | exact BY | exact BN)) hK
 intro y6 qx5; subst qx5; replace h := Bh h
 try simp -implicitDefEqProofs (disch := omega) [go_sem, bdP]
 obtain ⟨x7, hx7, h⟩ := A4 h; refine A2.eqA (args' := [.v (str y6.1)]) (by first | with_reducible rfl | (simp -implicitDefEqProofs (disch := omega) [go_sem, bdP] <;> omega)) (U6 y6.1 (by first | exact hV.of rfl | exact hV.of ((Ext.refl hw)).sn | exact hV.of (Ext.sn (H := H) (by exact A7 (Ext.refl hw))) | exact (VOK.of hV rfl).tok | exact (VOK.of hV ((Ext.refl hw)).sn).tok | exact (VOK.of hV (Ext.sn (H := H) (by exact A7 (Ext.refl hw)))).tok) hx7 ?_ ?_)
 ·intro ex7 qx7; subst qx7; replace h := AO h; have er := Option.some.inj h; subst er
  try simp -implicitDefEqProofs (disch := omega) [go_sem, bdP]
  refine Cl ?_; refine AX.eqA (args' := [.p H.next 0, .p (H.next + 1) 0]) (by first | with_reducible rfl | (simp -implicitDefEqProofs (disch := omega) [go_sem, bdP]; done) | rfl) (F4 H.next (H.next + 1) (.v (str [])) (.v (str [])) (.v (.slice none 0 0)) (.v (.slice none 0 0)) (.v (.int .i64 0)) (by first | with_reducible assumption | simp -implicitDefEqProofs (disch := omega) [go_sem, bdP]) (by first | with_reducible assumption | simp -implicitDefEqProofs (disch := omega) [go_sem, bdP]) (by first | omega | (simp [go_sem]; done) | (simp [go_sem]; omega)) ?_)
  try simp -implicitDefEqProofs (disch := omega) [go_sem, bdP]
  refine AN (J := H) (r' := _) (Ext.DN (by exact A7 (Ext.refl hw))) (by first | with_reducible rfl | (simp -implicitDefEqProofs (disch := omega) [go_sem, bdP] <;> omega)) (.wk _ (.tu [.ag ([.v (str []), .v (str []), .sl 2 (([] : List S55).map fun x => [.v (str x.fName), .v (str x.A6)]), .sl 1 (([] : List UInt8).map fun x => [.v (.int .u8 x.toNat)])]), .v (.int .i64 220)]) (by repeat (first | exact WkL.nil | refine WkL.cons ?_ ?_ | exact Wk.refl _ | exact Wk.nil _ | refine Wk.agL ?_ | refine Wk.tuL ?_ | (refine Wk.eqv ?_; focus (simp -implicitDefEqProofs (disch := omega) [go_sem, str]; done)))) (by first | exact nbA | exact BY | exact BN)) hK
 intro y8 qx7; subst qx7; replace h := Bh h
 try simp -implicitDefEqProofs (disch := omega) [go_sem, bdP]
 subst hc4; refine A1 fun cb hc9 => ?_; refine vcK ?_
 try simp -implicitDefEqProofs (disch := omega) [go_sem, bdP]
 obtain ⟨x10, hx10, h⟩ := A4 h; refine A2.eqA (args' := [.p (H.next + 2) 0]) (by first | with_reducible rfl | (simp -implicitDefEqProofs (disch := omega) [go_sem, bdP] <;> omega)) (PB y6.2 (H.next + 2) (by first | with_reducible assumption | simp -implicitDefEqProofs (disch := omega) [go_sem, bdP]) (by first | exact hV.of rfl | exact hV.of ((Ext.refl hw)).sn | exact hV.of (Ext.sn (H := H) (by exact A7 (Ext.refl hw))) | exact (VOK.of hV rfl).tok | exact (VOK.of hV ((Ext.refl hw)).sn).tok | exact (VOK.of hV (Ext.sn (H := H) (by exact A7 (Ext.refl hw)))).tok) hx10 ?_ ?_)
 ·intro ex10 qx10; subst qx10; replace h := AO h; have er := Option.some.inj h; subst er
  try simp -implicitDefEqProofs (disch := omega) [go_sem, bdP]
  refine Cl ?_; refine AX.eqA (args' := [.p H.next 0, .p (H.next + 1) 0]) (by first | with_reducible rfl | (simp -implicitDefEqProofs (disch := omega) [go_sem, bdP]; done) | rfl) (F4 H.next (H.next + 1) (.v (str y8.Ah)) (.v (str y8.Ax)) (.sl 2 (y8.A9.map fun x => [.v (str x.fName), .v (str x.A6)])) (.sl 1 (y8.Al.map fun x => [.v (.int .u8 x.toNat)])) (.v (.int .i64 0)) (by first | with_reducible assumption | simp -implicitDefEqProofs (disch := omega) [go_sem, bdP]) (by first | with_reducible assumption | simp -implicitDefEqProofs (disch := omega) [go_sem, bdP]) (by first | omega | (simp [go_sem]; done) | (simp [go_sem]; omega)) ?_)
  try simp -implicitDefEqProofs (disch := omega) [go_sem, bdP]
  refine AN (J := H) (r' := _) (Ext.DN (by exact A7 (Ext.refl hw))) (by first | with_reducible rfl | (simp -implicitDefEqProofs (disch := omega) [go_sem, bdP] <;> omega)) (.wk _ (.tu [.ag ([.v (str []), .v (str []), .sl 2 (([] : List S55).map fun x => [.v (str x.fName), .v (str x.A6)]), .sl 1 (([] : List UInt8).map fun x => [.v (.int .u8 x.toNat)])]), .v (.int .i64 220)]) (by repeat (first | exact WkL.nil | refine WkL.cons ?_ ?_ | exact Wk.refl _ | exact Wk.nil _ | refine Wk.agL ?_ | refine Wk.tuL ?_ | (refine Wk.eqv ?_; focus (simp -implicitDefEqProofs (disch := omega) [go_sem, str]; done)))) (by first | exact nbA | exact BY | exact BN)) hK
 intro y11 qx10; subst qx10; replace h := Bh h
 try simp -implicitDefEqProofs (disch := omega) [go_sem, bdP]
 subst hc9; refine A1 fun cb hc12 => ?_; refine vcK ?_
 try simp -implicitDefEqProofs (disch := omega) [go_sem, bdP]
 obtain ⟨x13, hx13, h⟩ := A4 h; refine A2.eqA (args' := [.p (H.next + 2) 0, .mp (H.next + 3)]) (by first | with_reducible rfl | (simp -implicitDefEqProofs (disch := omega) [go_sem, bdP] <;> omega)) (PD y11.2 y11.1 (H.next + 2) (H.next + 3) (by first | with_reducible assumption | simp -implicitDefEqProofs (disch := omega) [go_sem, bdP]) (by first | with_reducible assumption | simp -implicitDefEqProofs (disch := omega) [go_sem, bdP]) (by first | exact hV.of rfl | exact hV.of ((Ext.refl hw)).sn | exact hV.of (Ext.sn (H := H) (by exact A7 (Ext.refl hw))) | exact (VOK.of hV rfl).tok | exact (VOK.of hV ((Ext.refl hw)).sn).tok | exact (VOK.of hV (Ext.sn (H := H) (by exact A7 (Ext.refl hw)))).tok) hx13 ?_ ?_)
 ·intro ex13 qx13; subst qx13; replace h := AO h; have er := Option.some.inj h; subst er
  try simp -implicitDefEqProofs (disch := omega) [go_sem, bdP]
  refine Cl ?_; refine AX.eqA (args' := [.p H.next 0, .p (H.next + 1) 0]) (by first | with_reducible rfl | (simp -implicitDefEqProofs (disch := omega) [go_sem, bdP]; done) | rfl) (F4 H.next (H.next + 1) (.v (str y8.Ah)) (.v (str y8.Ax)) (.sl 2 (y8.A9.map fun x => [.v (str x.fName), .v (str x.A6)])) (.sl 1 (y8.Al.map fun x => [.v (.int .u8 x.toNat)])) (.v (.int .i64 0)) (by first | with_reducible assumption | simp -implicitDefEqProofs (disch := omega) [go_sem, bdP]) (by first | with_reducible assumption | simp -implicitDefEqProofs (disch := omega) [go_sem, bdP]) (by first | omega | (simp [go_sem]; done) | (simp [go_sem]; omega)) ?_)
  try simp -implicitDefEqProofs (disch := omega) [go_sem, bdP]
  refine AN (J := H) (r' := _) (Ext.DN (by exact A7 (Ext.refl hw))) (by first | with_reducible rfl | (simp -implicitDefEqProofs (disch := omega) [go_sem, bdP] <;> omega)) (.wk _ (.tu [.ag ([.v (str []), .v (str []), .sl 2 (([] : List S55).map fun x => [.v (str x.fName), .v (str x.A6)]), .sl 1 (([] : List UInt8).map fun x => [.v (.int .u8 x.toNat)])]), .v (.int .i64 220)]) (by repeat (first | exact WkL.nil | refine WkL.cons ?_ ?_ | exact Wk.refl _ | exact Wk.nil _ | refine Wk.agL ?_ | refine Wk.tuL ?_ | (refine Wk.eqv ?_; focus (simp -implicitDefEqProofs (disch := omega) [go_sem, str]; done)))) (by first | exact nbA | exact BY | exact BN)) hK
 intro y14 qx13; subst qx13; replace h := Bh h
 try simp -implicitDefEqProofs (disch := omega) [go_sem, bdP]
 subst hc12; refine A1 fun cb hc15 => ?_; refine vcK ?_
 try simp -implicitDefEqProofs (disch := omega) [go_sem, bdP]
 refine A5 h (by first | with_reducible rfl | (simp -implicitDefEqProofs (disch := omega) [go_sem, bdP] <;> omega)) ?_ ?_
 ·intro c23 h
  try simp (disch := omega) at c23
  try simp -implicitDefEqProofs (disch := omega) [go_sem, bdP]
  obtain ⟨x16, hx16, h⟩ := A4 h; refine A2.eqA (args' := [.mp (H.next + 3)]) (by first | with_reducible rfl | (simp -implicitDefEqProofs (disch := omega) [go_sem, bdP] <;> omega)) (Kr y14.2.2 (H.next + 3) (by first | with_reducible assumption | simp -implicitDefEqProofs (disch := omega) [go_sem, bdP]) hx16 ?_)
  try simp -implicitDefEqProofs (disch := omega) [go_sem, bdP]
  obtain ⟨x17, hx17, h⟩ := A4 h; refine A2.eqA (args' := [.sl 2 (x16.map fun x => [.v (str x.fName), .v (str x.A6)]), .sl 1 (y14.1.map fun x => [.v (.int .u8 x.toNat)])]) (by first | with_reducible rfl | (simp -implicitDefEqProofs (disch := omega) [go_sem, bdP] <;> omega)) (ML x16 y14.1 hx17 ?_)
  try simp -implicitDefEqProofs (disch := omega) [go_sem, bdP]
  refine A2.eqA (args' := [.v (.bool x17)]) (by first | with_reducible rfl | (simp -implicitDefEqProofs (disch := omega) [go_sem, bdP] <;> omega)) ?_; by_cases m18 : ¬ (x17 = true)
  ·rw [if_neg m18] at h; refine Bn  (by first | simpa using m18 | exact Bool.eq_false_iff.2 (fun q => m18 (by simpa using q))) ?_
   try simp (disch := omega) at m18
   have er := Option.some.inj h; subst er
   try simp -implicitDefEqProofs (disch := omega) [go_sem, bdP]
   refine Cl ?_; refine AX.eqA (args' := [.p H.next 0, .p (H.next + 1) 0]) (by first | with_reducible rfl | (simp -implicitDefEqProofs (disch := omega) [go_sem, bdP]; done) | rfl) (F4 H.next (H.next + 1) (.v (str y8.Ah)) (.v (str y8.Ax)) (.sl 2 (y8.A9.map fun x => [.v (str x.fName), .v (str x.A6)])) (.sl 1 (y8.Al.map fun x => [.v (.int .u8 x.toNat)])) (.v (.int .i64 0)) (by first | with_reducible assumption | simp -implicitDefEqProofs (disch := omega) [go_sem, bdP]) (by first | with_reducible assumption | simp -implicitDefEqProofs (disch := omega) [go_sem, bdP]) (by first | omega | (simp [go_sem]; done) | (simp [go_sem]; omega)) ?_)
   try simp -implicitDefEqProofs (disch := omega) [go_sem, bdP]
   refine AN (J := H) (r' := _) (Ext.DN (by exact A7 (Ext.refl hw))) (by first | with_reducible rfl | (simp -implicitDefEqProofs (disch := omega) [go_sem, bdP] <;> omega)) (.wk _ (.tu [.ag ([.v (str []), .v (str []), .sl 2 (([] : List S55).map fun x => [.v (str x.fName), .v (str x.A6)]), .sl 1 (([] : List UInt8).map fun x => [.v (.int .u8 x.toNat)])]), .v (.int .i64 220)]) (by repeat (first | exact WkL.nil | refine WkL.cons ?_ ?_ | exact Wk.refl _ | exact Wk.nil _ | refine Wk.agL ?_ | refine Wk.tuL ?_ | (refine Wk.eqv ?_; focus (simp -implicitDefEqProofs (disch := omega) [go_sem, str]; done)))) (by first | exact nbA | exact BY | exact BN)) hK
  have m18 := Classical.not_not.1 m18; rw [if_pos m18] at h; refine CE  (by simpa using m18) ?_
  try simp (disch := omega) at m18
  try simp -implicitDefEqProofs (disch := omega) [go_sem, bdP]
  subst hc15; refine A1 fun cb hc19 => ?_; refine vcK ?_
  try simp -implicitDefEqProofs (disch := omega) [go_sem, bdP]
  obtain ⟨x20, hx20, h⟩ := A4 h; refine A2.eqA (args' := [.mp (H.next + 3)]) (by first | with_reducible rfl | (simp -implicitDefEqProofs (disch := omega) [go_sem, bdP] <;> omega)) (Kr y14.2.2 (H.next + 3) (by first | with_reducible assumption | simp -implicitDefEqProofs (disch := omega) [go_sem, bdP]) hx20 ?_)
  try simp -implicitDefEqProofs (disch := omega) [go_sem, bdP]
  obtain ⟨x21, hx21, h⟩ := A4 h; refine A2.eqA (args' := [.p H.next 0, .sl 2 (x20.map fun x => [.v (str x.fName), .v (str x.A6)]), .sl 1 (y14.1.map fun x => [.v (.int .u8 x.toNat)])]) (by first | with_reducible rfl | (simp -implicitDefEqProofs (disch := omega) [go_sem, bdP] <;> omega)) (U7 y8 x20 y14.1 H.next (by first | with_reducible assumption | simp -implicitDefEqProofs (disch := omega) [go_sem, bdP]) hx21 ?_)
  try simp -implicitDefEqProofs (disch := omega) [go_sem, bdP]
  subst hc19; refine A1 fun cb hc22 => ?_; refine vcK ?_
  try simp -implicitDefEqProofs (disch := omega) [go_sem, bdP]
  subst hc22; refine vcK ?_; simp -implicitDefEqProofs only [go_sem]; have er := Option.some.inj h; subst er
  try simp -implicitDefEqProofs (disch := omega) [go_sem, bdP]
  refine Ng ?_; refine AX.eqA (args' := [.p H.next 0, .p (H.next + 1) 0]) (by first | with_reducible rfl | (simp -implicitDefEqProofs (disch := omega) [go_sem, bdP]; done) | rfl) (R9 ?_)
  try simp -implicitDefEqProofs (disch := omega) [go_sem, bdP]
  refine A3 (by exact A7 (Ext.refl hw)) (by first | with_reducible rfl | (simp -implicitDefEqProofs (disch := omega) [go_sem, bdP] <;> omega)) nbA hK
 ·intro c23 h
  try simp (disch := omega) at c23
  try simp -implicitDefEqProofs (disch := omega) [go_sem, bdP]
  refine A2.eqA (args' := [.v (.bool false)]) (by first | with_reducible rfl | (simp -implicitDefEqProofs (disch := omega) [go_sem, bdP] <;> omega)) (Bn  rfl ?_); have er := Option.some.inj h; subst er
  try simp -implicitDefEqProofs (disch := omega) [go_sem, bdP]
  refine Cl ?_; refine AX.eqA (args' := [.p H.next 0, .p (H.next + 1) 0]) (by first | with_reducible rfl | (simp -implicitDefEqProofs (disch := omega) [go_sem, bdP]; done) | rfl) (F4 H.next (H.next + 1) (.v (str y8.Ah)) (.v (str y8.Ax)) (.sl 2 (y8.A9.map fun x => [.v (str x.fName), .v (str x.A6)])) (.sl 1 (y8.Al.map fun x => [.v (.int .u8 x.toNat)])) (.v (.int .i64 0)) (by first | with_reducible assumption | simp -implicitDefEqProofs (disch := omega) [go_sem, bdP]) (by first | with_reducible assumption | simp -implicitDefEqProofs (disch := omega) [go_sem, bdP]) (by first | omega | (simp [go_sem]; done) | (simp [go_sem]; omega)) ?_)
  try simp -implicitDefEqProofs (disch := omega) [go_sem, bdP]
  refine AN (J := H) (r' := _) (Ext.DN (by exact A7 (Ext.refl hw))) (by first | with_reducible rfl | (simp -implicitDefEqProofs (disch := omega) [go_sem, bdP] <;> omega)) (.wk _ (.tu [.ag ([.v (str []), .v (str []), .sl 2 (([] : List S55).map fun x => [.v (str x.fName), .v (str x.A6)]), .sl 1 (([] : List UInt8).map fun x => [.v (.int .u8 x.toNat)])]), .v (.int .i64 220)]) (by repeat (first | exact WkL.nil | refine WkL.cons ?_ ?_ | exact Wk.refl _ | exact Wk.nil _ | refine Wk.agL ?_ | refine Wk.tuL ?_ | (refine Wk.eqv ?_; focus (simp -implicitDefEqProofs (disch := omega) [go_sem, str]; done)))) (by first | exact nbA | exact BY | exact BN)) hK
noncomputable def F20 (a0 : List UInt8) : Option (Except Unit (S42 × Int)) :=
 (F51 a0).bind fun (x4 : S42 × Int) => some ((.ok (x4.1, x4.2)))
set_option maxHeartbeats 8000000 in
set_option pp.deepTerms false in
set_option maxRecDepth 60000 in
theorem U9 {H : A0} {K : An → A0 → Prop} (a0 : List UInt8) (hV : VOK prog H) {r : Except Unit (S42 × Int)} (h : F20 a0 = some r) (hP : ∀ e, r = .error e → K (.pan (Ci e)) H) (hK : ∀ v : S42 × Int, r = .ok v → K (.ret (.tu [.ag ([.v (str v.1.Ah), .v (str v.1.Ax), .sl 2 (v.1.A9.map fun x => [.v (str x.fName), .v (str x.A6)]), .sl 1 (v.1.Al.map fun x => [.v (.int .u8 x.toNat)])]), .v (.int .i64 v.2)])) H) : A2 prog 20 [.sl 1 (a0.map fun x => [.v (.int .u8 x.toNat)])] H K := by
 refine Aa (N := 10) func20 (by kernel_rfl) rfl (by kernel_rfl) (by kernel_rfl) fun cb hcb hw hbd hnb => ?_; clear hbd hnb; subst hcb; unfold F20 at h; refine A1 fun cb hc1 => ?_; refine vcK ?_
 try simp -implicitDefEqProofs (disch := omega) [go_sem]
 subst hc1; refine A1 fun cb hc2 => ?_; refine vcK ?_
 try simp -implicitDefEqProofs (disch := omega) [go_sem]
 subst hc2; refine A1 fun cb hc3 => ?_; refine vcK ?_
 try simp -implicitDefEqProofs (disch := omega) [go_sem]
 obtain ⟨x4, hx4, h⟩ := A4 h; refine A2.eqA (args' := [.sl 1 (a0.map fun x => [.v (.int .u8 x.toNat)]), .v (.func (.func 49) #[] #[]), .v (.func (.func 52) #[] #[])]) (by first | with_reducible rfl | (simp -implicitDefEqProofs (disch := omega) [go_sem] <;> omega)) (U8 a0 (by first | exact hV.of rfl | exact hV.of ((Ext.refl hw)).sn | exact hV.of (Ext.sn (H := H) (by exact A7 (Ext.refl hw))) | exact (VOK.of hV rfl).tok | exact (VOK.of hV ((Ext.refl hw)).sn).tok | exact (VOK.of hV (Ext.sn (H := H) (by exact A7 (Ext.refl hw)))).tok) hx4 ?_)
 try simp -implicitDefEqProofs (disch := omega) [go_sem]
 subst hc3; refine vcK ?_; simp -implicitDefEqProofs only [go_sem]; have er := Option.some.inj h; subst er
 try simp -implicitDefEqProofs (disch := omega) [go_sem]
 refine A3 (by exact A7 (Ext.refl hw)) (by first | with_reducible rfl | (simp -implicitDefEqProofs (disch := omega) [go_sem] <;> omega)) nbA (hK _ rfl)
end Go.Idl
namespace Go.Idl
open Go Go.Proofs.Tryz
noncomputable def KB  : Option Bool :=
 some true
noncomputable def GW (a0 : List S55) (a1 : List S55) (v9 : Int) : Option (Int ⊕ (Unit ⊕ Bool)) :=
 if v9 < (a0.length : Int) then (gd (0 ≤ v9 ∧ v9 < a0.length) (gd (0 ≤ v9 ∧ v9 < a1.length) (if ¬ (((a0.getD v9.toNat S55.zero).fName) = ((a1.getD v9.toNat S55.zero).fName) ∧ ((a0.getD v9.toNat S55.zero).A6) = ((a1.getD v9.toNat S55.zero).A6)) then (some (.inr (.inr false))) else (some (.inl (IntKind.i64.wrap (v9 + 1))))))) else (some (.inr (.inl ())))
noncomputable def F40 (a0 : List S55) (a1 : List S55) : Option Bool :=
 if ¬ (a0.length : Int) = (a1.length : Int) then (some false) else ((AY (fun (s : Int) => GW a0 a1 s) 0).bind fun y => Sum.elim (fun (e : Unit) => KB) (fun (q : Bool) => some q) y)
set_option maxHeartbeats 8000000 in
set_option pp.deepTerms false in
set_option maxRecDepth 60000 in
theorem Ua {H : A0} {K : An → A0 → Prop} (a0 : List S55) (a1 : List S55) {r : Bool} (h : F40 a0 a1 = some r) (hK : K (.ret (.v (.bool r))) H) : A2 prog 40 [.sl 2 (a0.map fun x => [.v (str x.fName), .v (str x.A6)]), .sl 2 (a1.map fun x => [.v (str x.fName), .v (str x.A6)])] H K := by
 refine Aa (N := 26) func40 (by kernel_rfl) rfl (by kernel_rfl) (by kernel_rfl) fun cb hcb hw hbd hnb => ?_; clear hbd hnb; subst hcb; unfold F40 at h; refine A1 fun cb hc1 => ?_; refine vcK ?_
 try simp -implicitDefEqProofs (disch := omega) [go_sem]
 subst hc1; refine A1 fun cb hc2 => ?_; refine A1 fun cb hc3 => ?_; refine vcK ?_
 try simp -implicitDefEqProofs (disch := omega) [go_sem]
 subst hc3; refine Ac h (by first | with_reducible rfl | (simp -implicitDefEqProofs (disch := omega) [go_sem] <;> omega)) rfl ?_ ?_
 ·intro c4 h
  try simp (disch := omega) at c4
  refine A1 fun cb hc5 => ?_; refine vcK ?_
  try simp -implicitDefEqProofs (disch := omega) [go_sem]
  subst hc5; refine vcK ?_; simp -implicitDefEqProofs only [go_sem]; have er := Option.some.inj h; subst er
  try simp -implicitDefEqProofs (disch := omega) [go_sem]
  refine A3 (by exact A7 (Ext.refl hw)) (by first | with_reducible rfl | (simp -implicitDefEqProofs (disch := omega) [go_sem] <;> omega)) nbA hK
 ·intro c4 h
  try simp (disch := omega) at c4
  refine vcK ?_; simp -implicitDefEqProofs only [go_sem]; subst hc2; refine A1 fun cb hc6 => ?_; refine A1 fun cb hc7 => ?_; refine vcK ?_
  try simp -implicitDefEqProofs (disch := omega) [go_sem]
  subst hc7; obtain ⟨y8, hl8q, hk8⟩ := A4 h; refine AZ (fun tm' H' => .inl () = y8 ∧ H = H') ?_ fun cb hc8 => ?_
  ·rintro tm8e H8e ⟨rfl, rfl⟩
   have h : KB = some r := hk8; unfold KB at h; simp -implicitDefEqProofs only [go_sem]; subst hc6; refine A1 fun cb hc10 => ?_; refine vcK ?_
   try simp -implicitDefEqProofs (disch := omega) [go_sem]
   subst hc10; refine vcK ?_; simp -implicitDefEqProofs only [go_sem]; have er := Option.some.inj h; subst er
   try simp -implicitDefEqProofs (disch := omega) [go_sem]
   refine A3 (by exact A7 (Ext.refl hw)) (by first | with_reducible rfl | (simp -implicitDefEqProofs (disch := omega) [go_sem] <;> omega)) nbA hK
  ·refine Ag ?_; refine AQ (fun (s : Int) tm' H' => H = H' ∧ tm' 0 = .sl 2 (a0.map fun x => [.v (str x.fName), .v (str x.A6)]) ∧ tm' 1 = .sl 2 (a1.map fun x => [.v (str x.fName), .v (str x.A6)]) ∧ tm' 5 = .v (.int .i64 s)) hl8q ?_ ?_
   ·refine .same ⟨rfl, ?_, ?_, ?_⟩ <;> first | with_reducible rfl | with_reducible assumption | (simp -implicitDefEqProofs (disch := omega) [go_sem] <;> omega)
   ·rintro I8 hI8 v9 x8 tm8 H8 ⟨rfl, KC, KD, KE⟩ h hret8
    replace h : GW a0 a1 v9 = some x8 := h; unfold GW at h; refine A1 fun cb hc11 => ?_; refine A1 fun cb hc12 => ?_; refine vcK ?_
    try simp -implicitDefEqProofs (disch := omega) [go_sem, KC, KD, KE]
    subst hc12; refine Ac h (by first | with_reducible rfl | (simp -implicitDefEqProofs (disch := omega) [go_sem, KC, KD, KE] <;> omega)) rfl ?_ ?_
    ·intro c13 h
     try simp (disch := omega) at c13
     refine vcK ?_; simp -implicitDefEqProofs only [go_sem]; subst hc11; refine A1 fun cb hc14 => ?_; refine Ag ?_; refine A1 fun cb hc15 => ?_; refine CJ [] [0, 1, 2, 3, 4, 5, 6, 7, 8] (by kernel_rfl) (by kernel_rfl) (fun _ _ _ _ h => h) ?_; obtain ⟨g16, h⟩ := A8.1 h
     try simp (disch := omega) at g16
     obtain ⟨g17, h⟩ := A8.1 h
     try simp (disch := omega) at g17
     try simp -implicitDefEqProofs (disch := omega) [go_sem, KC, KD, KE]
     subst hc15; refine Ac h (by first | with_reducible rfl | (simp -implicitDefEqProofs (disch := omega) [go_sem, KC, KD, KE] <;> omega)) rfl ?_ ?_
     ·intro c18 h
      try simp (disch := omega) at c18
      refine A1 fun cb hc19 => ?_; refine vcK ?_
      try simp -implicitDefEqProofs (disch := omega) [go_sem, KC, KD, KE]
      subst hc19; refine vcK ?_; simp -implicitDefEqProofs only [go_sem]; have e8 := Option.some.inj h; subst e8; have e8 := hret8 _ rfl; subst e8; replace h : some false = some r := hk8; have er := Option.some.inj h; subst er
      try simp -implicitDefEqProofs (disch := omega) [go_sem, KC, KD, KE]
      refine A3 (by exact A7 (Ext.refl hw)) (by first | with_reducible rfl | (simp -implicitDefEqProofs (disch := omega) [go_sem, KC, KD, KE] <;> omega)) nbA hK
     ·intro c18 h
      try simp (disch := omega) at c18
      refine vcK ?_; simp -implicitDefEqProofs only [go_sem]; subst hc14; refine vcK ?_
      try simp -implicitDefEqProofs (disch := omega) [go_sem, KC, KD, KE]
      have e8 := Option.some.inj h; subst e8; refine Ap hI8 (IntKind.i64.wrap (v9 + 1)) ?_; refine .same ⟨rfl, ?_, ?_, ?_⟩ <;> first | with_reducible rfl | with_reducible assumption | (simp -implicitDefEqProofs (disch := omega) [go_sem, KC, KD, KE] <;> omega)
    ·intro c13 h
     try simp (disch := omega) at c13
     refine vcK ?_; simp -implicitDefEqProofs only [go_sem]; have e8 := Option.some.inj h; subst e8; have hy8 := hret8 _ rfl; refine hc8 _ _ ?_; refine .same ⟨hy8, rfl⟩
noncomputable def F22 (a0 : S42) (a1 : S42) : Option Bool :=
 if a0.Ah = a1.Ah then (if a0.Ax = a1.Ax then ((F40 a0.A9 a1.A9).bind fun (x3 : Bool) => if x3 = true then (some (decide (a0.Al = a1.Al))) else (some false)) else (some false)) else (some false)
set_option maxHeartbeats 8000000 in
set_option pp.deepTerms false in
set_option maxRecDepth 60000 in
theorem Ub {H : A0} {K : An → A0 → Prop} (a0 : S42) (a1 : S42) {r : Bool} (h : F22 a0 a1 = some r) (hK : K (.ret (.v (.bool r))) H) : A2 prog 22 [.ag ([.v (str a0.Ah), .v (str a0.Ax), .sl 2 (a0.A9.map fun x => [.v (str x.fName), .v (str x.A6)]), .sl 1 (a0.Al.map fun x => [.v (.int .u8 x.toNat)])]), .ag ([.v (str a1.Ah), .v (str a1.Ax), .sl 2 (a1.A9.map fun x => [.v (str x.fName), .v (str x.A6)]), .sl 1 (a1.Al.map fun x => [.v (.int .u8 x.toNat)])])] H K := by
 refine Aa (N := 33) func22 (by kernel_rfl) rfl (by kernel_rfl) (by kernel_rfl) fun cb hcb hw hbd hnb => ?_; clear hbd hnb; subst hcb; unfold F22 at h; refine A1 fun cb hc1 => ?_; refine vcK ?_
 try simp -implicitDefEqProofs (disch := omega) [go_sem]
 subst hc1; refine A1 fun cb hc2 => ?_; refine vcK ?_
 try simp -implicitDefEqProofs (disch := omega) [go_sem]
 refine A5 h (by first | with_reducible rfl | (simp -implicitDefEqProofs (disch := omega) [go_sem] <;> omega)) ?_ ?_
 ·intro c6 h
  try simp (disch := omega) at c6
  try simp -implicitDefEqProofs (disch := omega) [go_sem]
  refine A5 h (by first | with_reducible rfl | (simp -implicitDefEqProofs (disch := omega) [go_sem] <;> omega)) ?_ ?_
  ·intro c5 h
   try simp (disch := omega) at c5
   try simp -implicitDefEqProofs (disch := omega) [go_sem]
   obtain ⟨x3, hx3, h⟩ := A4 h; refine A2.eqA (args' := [.sl 2 (a0.A9.map fun x => [.v (str x.fName), .v (str x.A6)]), .sl 2 (a1.A9.map fun x => [.v (str x.fName), .v (str x.A6)])]) (by first | with_reducible rfl | (simp -implicitDefEqProofs (disch := omega) [go_sem] <;> omega)) (Ua a0.A9 a1.A9 hx3 ?_)
   try simp -implicitDefEqProofs (disch := omega) [go_sem]
   refine A5 h (by first | with_reducible rfl | (simp -implicitDefEqProofs (disch := omega) [go_sem] <;> omega)) ?_ ?_
   ·intro c4 h
    try simp (disch := omega) at c4
    try simp -implicitDefEqProofs (disch := omega) [go_sem]
    subst hc2; refine vcK ?_; simp -implicitDefEqProofs only [go_sem]; have er := Option.some.inj h; subst er
    try simp -implicitDefEqProofs (disch := omega) [go_sem]
    refine A3 (by exact A7 (Ext.refl hw)) (by first | with_reducible rfl | (simp -implicitDefEqProofs (disch := omega) [go_sem] <;> omega)) nbA hK
   ·intro c4 h
    try simp (disch := omega) at c4
    try simp -implicitDefEqProofs (disch := omega) [go_sem]
    subst hc2; refine vcK ?_; simp -implicitDefEqProofs only [go_sem]; have er := Option.some.inj h; subst er
    try simp -implicitDefEqProofs (disch := omega) [go_sem]
    refine A3 (by exact A7 (Ext.refl hw)) (by first | with_reducible rfl | (simp -implicitDefEqProofs (disch := omega) [go_sem] <;> omega)) nbA hK
  ·intro c5 h
   try simp (disch := omega) at c5
   try simp -implicitDefEqProofs (disch := omega) [go_sem]
   subst hc2; refine vcK ?_; simp -implicitDefEqProofs only [go_sem]; have er := Option.some.inj h; subst er
   try simp -implicitDefEqProofs (disch := omega) [go_sem]
   refine A3 (by exact A7 (Ext.refl hw)) (by first | with_reducible rfl | (simp -implicitDefEqProofs (disch := omega) [go_sem] <;> omega)) nbA hK
 ·intro c6 h
  try simp (disch := omega) at c6
  try simp -implicitDefEqProofs (disch := omega) [go_sem]
  subst hc2; refine vcK ?_; simp -implicitDefEqProofs only [go_sem]; have er := Option.some.inj h; subst er
  try simp -implicitDefEqProofs (disch := omega) [go_sem]
  refine A3 (by exact A7 (Ext.refl hw)) (by first | with_reducible rfl | (simp -implicitDefEqProofs (disch := omega) [go_sem] <;> omega)) nbA hK
end Go.Idl
namespace Go.Idl
open Go Go.Proofs.Tryz
end Go.Idl
namespace Go.Idl
open Go Go.Proofs.Tryz
end Go.Idl
namespace Go.Idl
open Go Go.Proofs.Tryz
end Go.Idl
namespace Go.Idl
open Go Go.Proofs.Tryz
end Go.Idl
namespace Go.Idl
open Go Go.Proofs.Tryz
end Go.Idl
namespace Go.Idl
open Go Go.Lib
def Dz : Str := [72, 84, 84, 80, 47, 49, 46, 49]
def Bw (a b : Nat) (s : Str) : Bool := s.all fun x => decide (a ≤ x.toNat ∧ x.toNat ≤ b)
def BS (s : Str) : Bool := decide (1 ≤ s.length ∧ s.length ≤ 20) && Bw 65 90 s
def C_ (s : Str) : Bool := decide (1 ≤ s.length ∧ s.length ≤ 200) && decide (s.getD 0 0 = 47) && Bw 33 126 s
def BF (l : List Str) : Str := l.flatMap fun s => s ++ [13, 10]
def DI (h : Hd) : Str := h.1 ++ 58 :: 32 :: h.2
def PF (n : Nat) : Str := CD ++ 58 :: 32 :: decDigits n
def HE (first : Str) (l : List Hd) (last : Str) : Str := BF (first :: (l.map DI ++ [last, []]))
def Dm (m p : Str) (l : List Hd) (b : Str) : Str := HE (m ++ 32 :: (p ++ 32 :: Dz)) l (PF b.length) ++ b
def ER (s : Str) : Option (Str × Str) :=
  (Ca s 32).bind fun a => (Ca a.2 32).bind fun b => if b.2 = Dz ∧ BS a.1 = true ∧ C_ b.1 = true then some (a.1, b.1) else none
def Nn (r : Str) : Bool := decide (r = []) || decide (r.getD 0 0 = 32) && Bw 32 126 r
noncomputable def Eh (s : Str) : Option Nat :=
  if s.take 9 = Dz ++ [32] ∧ 12 ≤ s.length then (IB ((s.drop 9).take 3)).bind fun n => if 100 ≤ n ∧ n ≤ 599 ∧ Nn (s.drop 12) = true then some n else none else none
theorem HF {a b : Nat} {s : Str} : Bw a b s = true ↔ ∀ x ∈ s, a ≤ x.toNat ∧ x.toNat ≤ b := by simp [Bw]
theorem JP {m p : Str} (hm : BS m = true) (hp : C_ p = true) : ER (m ++ 32 :: (p ++ 32 :: Dz)) = some (m, p) := by
 have h1 := hm; have h2 := hp; simp only [BS, C_, Bool.and_eq_true, HF] at h1 h2; have n1 : (32 : UInt8) ∉ m := fun h => by have := h1.2 _ h; simp at this
 have n2 : (32 : UInt8) ∉ p := fun h => by have := h2.2 _ h; simp at this
 unfold ER; rw [Ce.2 ⟨rfl, n1⟩, Option.bind_some]; simp only; rw [Ce.2 ⟨rfl, n2⟩, Option.bind_some, if_pos ⟨rfl, hm, hp⟩]
theorem Yp {c : Nat} (h : 100 ≤ c ∧ c ≤ 599) : decDigits c = [UInt8.ofNat (48 + c / 100), UInt8.ofNat (48 + c / 10 % 10), UInt8.ofNat (48 + c % 10)] := by
 rw [decDigits, dif_neg (by omega), decDigits, dif_neg (by omega), decDigits, dif_pos (by omega)]; rw [Nat.div_div_eq_div_mul]; rfl
theorem HG {m p : Str} (hm : BS m = true) (hp : C_ p = true) : ∀ x ∈ m ++ 32 :: (p ++ 32 :: Dz), x ≠ 13 := by
 simp only [BS, C_, Bool.and_eq_true, HF] at hm hp; intro x hx; simp only [List.mem_append, List.mem_cons] at hx; rcases hx with hx | rfl | hx | rfl | hx
 ·have := hm.2 x hx
  rintro rfl; simp at this
 ·decide
 ·have := hp.2 x hx
  rintro rfl; simp at this
 ·decide
 ·revert hx; revert x; decide
theorem GX {α : Type} {first : Str → Option α} {f : Str} {x : α} (hf : ∀ y ∈ f, y ≠ 13) (hx : first f = some x) (L : List (Str × Hd)) (s : Str) (hL : ∀ y ∈ L, y.1 ≠ [] ∧ (∀ x ∈ y.1, x ≠ 13) ∧ Fo y.1 = some y.2) (hd : BX (L.map (·.2))) :
    Fp first (f ++ 13 :: 10 :: (L.flatMap (fun y => y.1 ++ [13, 10]) ++ 13 :: 10 :: s)) = (DH (L.map (·.2)) s).bind fun r => if r.2 = [] ∧ CP (BZ (D7 (L.map (·.2)))) r.1 = true then some (x, BZ (D7 (L.map (·.2))), r.1) else none := by
 unfold Fp; rw [GQ _ _ hf, Option.bind_some]; simp only [hx, Option.bind_some]; rw [Gc L [] s hL (by simpa using hd), Option.bind_some]; simp
theorem Jk {s : Str} (h1 : s.length ≤ 200) (h2 : ∀ x ∈ s, 33 ≤ x.toNat ∧ x.toNat ≤ 126) : Bz s = true := by
 simp only [Bz, Bool.and_eq_true, decide_eq_true_eq, List.all_eq_true]; refine ⟨⟨⟨h1, fun x hx => ?_⟩, fun h => ?_⟩, fun h => ?_⟩
 ·have := h2 x hx; omega
 ·have := h2 _ (List.mem_of_mem_head? h); simp at this
 ·have := h2 _ (List.mem_of_mem_getLast? h); simp at this
theorem Gu {n : Nat} (h : n ≤ 1000000000) : (decDigits n).length ≤ 200 := by
 have : ∀ (k n : Nat), n < 10 ^ (k + 1) → (decDigits n).length ≤ k + 1 := by
  intro k
  induction k with
  | zero => intro n h; rw [decDigits, dif_pos (by simpa using h)]; simp
  | succ k ih =>
   intro n h; rw [decDigits]; split
   ·simp
   ·have := ih (n / 10) (by rw [Nat.pow_succ] at h; omega); simp; omega
 have := this 9 n (by omega); omega
theorem IZ {n : Nat} (h : n ≤ 1000000000) : Bz (decDigits n) = true :=
  Jk (Gu h) fun x hx => by have := Jz n x hx; omega
theorem LI {l : List Hd} {n : Str} {x : Hd} (h : ∀ y ∈ l, y.1 ≠ n) : Fe (l ++ [x]) n = if x.1 = n then some x.2 else none := by
 unfold Fe; rw [List.find?_append, List.find?_eq_none.2 (by simpa using h)]; by_cases hx : x.1 = n <;> simp [hx]
theorem JQ {l : List Hd} {n : Str} (h : ∀ y ∈ l, y.1 ≠ n) : Fe l n = none := by
 unfold Fe; rw [List.find?_eq_none.2 (by simpa using h)]; rfl
theorem MT {l : List Hd} (h : l.all hdB = true) : (∀ y ∈ l, y.1 ≠ CD) ∧ ∀ y ∈ l, y.1 ≠ ED := by
 rw [List.all_eq_true] at h; constructor <;> intro y hy <;> have := h y hy <;> simp only [hdB, Bool.and_eq_true, decide_eq_true_eq] at this
 ·exact this.1.2
 ·exact this.2
theorem PG {l : List Hd} {x : Hd} (h : l.all hdB = true) (hx : x.1 = CD ∨ x.1 = ED) : D7 (l ++ [x]) = l := by
 obtain ⟨h1, h2⟩ := MT h; unfold D7; rw [List.filter_append, List.filter_eq_self.2 fun y hy => by simp [h1 y hy, h2 y hy]]; rcases hx with hx | hx <;> simp [hx]
theorem PI : CD ≠ ED := by decide
theorem O4 {l : List Hd} {s : Str} (hl : l.all hdB = true) (hs : s.length ≤ 1000000000) : DH (l ++ [(CD, decDigits s.length)]) s = some (s, []) := by
 obtain ⟨h1, h2⟩ := MT hl; unfold DH; rw [LI h1, LI h2, if_pos rfl, if_neg PI]; simp only; rw [EF hs, Option.bind_some, if_pos (Nat.le_refl _), List.take_length, List.drop_length]
end Go.Idl
namespace Go.Idl
open Go Go.Lib
def upB (x : UInt8) : UInt8 := if 97 ≤ x.toNat ∧ x.toNat ≤ 122 then UInt8.ofNat (x.toNat - 32) else x
def upN (n : Nat) : Nat → Str → Str
  | _, [] => []
  | k, x :: s => (if (k + n) % 2 = 0 then upB x else x) :: upN n (k + 1) s
theorem Rp (x : UInt8) : Cf (upB x) = Cf x := by
 unfold upB; split
 ·rename_i h; have e : (UInt8.ofNat (x.toNat - 32)).toNat = x.toNat - 32 := by simp [UInt8.toNat_ofNat']; omega
  unfold Cf; rw [e, if_pos (by omega), if_neg (by omega), show x.toNat - 32 + 32 = x.toNat by omega]; exact UInt8.ofNat_toNat
 ·rfl
theorem KF (n : Nat) : ∀ (s : Str) (k : Nat), Cn (upN n k s) = Cn s
  | [], _ => rfl
  | x :: s, k => by
    have ih := KF n s (k + 1)
    simp only [Cn] at ih
    simp only [Cn, upN, List.map_cons, ih]
    split
    · rw [Rp]
    · rfl
def Cj (l : List Hd) (n : Nat) : List Hd := l.drop (n % l.length) ++ l.take (n % l.length)
theorem LJ (l : List Hd) (n : Nat) : (Cj l n).length = l.length := by
 unfold Cj; rw [List.length_append, List.length_drop, List.length_take]; have : l.length = 0 ∨ n % l.length < l.length := by
  by_cases h : l.length = 0
  ·exact .inl h
  ·exact .inr (Nat.mod_lt _ (by omega))
 omega
theorem LK {l : List Hd} {n i : Nat} (h : i < l.length) : (Cj l n)[i]? = l[(i + n) % l.length]? := by
 unfold Cj; have hm : n % l.length < l.length := Nat.mod_lt _ (by omega); have hmod : (i + n) % l.length = if i + n % l.length < l.length then i + n % l.length else i + n % l.length - l.length := by
  rw [← Nat.add_mod_mod]; split
  ·rename_i h1; exact Nat.mod_eq_of_lt h1
  ·rename_i h1; rw [Nat.mod_eq_sub_mod (by omega), Nat.mod_eq_of_lt (by omega)]
 rw [hmod]; generalize n % l.length = k at *; split
 ·rename_i h1; rw [List.getElem?_append_left (by rw [List.length_drop]; omega), List.getElem?_drop, Nat.add_comm]
 ·rename_i h1; rw [List.getElem?_append_right (by rw [List.length_drop]; omega), List.length_drop, List.getElem?_take, if_pos (by omega)]; congr 1; omega
theorem Gv {l : List Hd} {n : Nat} {x : Hd} : x ∈ Cj l n ↔ x ∈ l := by
 unfold Cj
 conv => rhs; rw [← List.take_append_drop (n % l.length) l]
 rw [List.mem_append, List.mem_append, or_comm]
theorem MU {l : List Hd} {n : Nat} (h : BX l) : BX (Cj l n) := by
 unfold Cj; rw [← List.take_append_drop (n % l.length) l] at h; generalize l.take (n % l.length) = a at *; generalize l.drop (n % l.length) = b at *; obtain ⟨h1, h2, h3⟩ := List.pairwise_append.1 h; exact List.pairwise_append.2 ⟨h2, h1, fun x hx y hy e => h3 y hy x hx e.symm⟩
def PJ : Str := [67, 111, 110, 116, 101, 110, 116, 45, 76, 101, 110, 103, 116, 104]
def Ei (n : Nat) (h : Hd) : Str := upN n 0 h.1 ++ 58 :: (h.2 ++ [32, 32])
def Gw (n : Nat) : Str := PJ ++ 58 :: 9 :: decDigits n
def DS (m p : Str) (l : List Hd) (b : Str) (n : Nat) : Str :=
  (m ++ 32 :: (p ++ 32 :: Dz)) ++ 13 :: 10 :: ((Cj l n).flatMap (fun h => Ei n h ++ [13, 10]) ++ ((if b = [] then [] else Gw b.length ++ [13, 10]) ++ 13 :: 10 :: b))
theorem O5 {n : Nat} {h : Hd} (hh : hdB h = true) : Ei n h ≠ [] ∧ (∀ x ∈ Ei n h, x ≠ 13) ∧ Fo (Ei n h) = some h := by
 simp only [hdB, Bool.and_eq_true, decide_eq_true_eq] at hh; have e : Ei n h = upN n 0 h.1 ++ 58 :: ([] ++ h.2 ++ [32, 32]) := by simp [Ei]
 have b1 : ∀ x ∈ ([] : Str), Bu x = true := by simp
 have b2 : ∀ x ∈ ([32, 32] : Str), Bu x = true := by simp [Bu]
 have hn : BK (upN n 0 h.1) = true := by rw [← F1, KF, F1]; exact hh.1.1.1.1
 refine ⟨by simp [Ei], ?_, ?_⟩
 ·rw [e]; exact JE hn hh.1.1.2 b1 b2
 ·rw [e, II hn hh.1.1.2 b1 b2, KF, hh.1.1.1.2]
theorem O6 {n : Nat} (h : n ≤ 1000000000) : Gw n ≠ [] ∧ (∀ x ∈ Gw n, x ≠ 13) ∧ Fo (Gw n) = some (CD, decDigits n) := by
 have e : Gw n = PJ ++ 58 :: ([9] ++ decDigits n ++ []) := by simp [Gw]
 have b1 : ∀ x ∈ ([9] : Str), Bu x = true := by simp [Bu]
 have b2 : ∀ x ∈ ([] : Str), Bu x = true := by simp
 have hn : BK PJ = true := by decide
 refine ⟨by simp [Gw], ?_, ?_⟩
 ·rw [e]; exact JE hn (IZ h) b1 b2
 ·rw [e, II hn (IZ h) b1 b2]; rfl
theorem MV {m p : Str} {l : List Hd} {b : Str} {n : Nat} (hm : BS m = true) (hp : C_ p = true) (hl : CP l b = true) :
    Fp ER (DS m p l b n) = some ((m, p), l, b) := by
 have hl' := hl; simp only [CP, Li, Bool.and_eq_true, decide_eq_true_eq] at hl'; obtain ⟨⟨⟨hr, ha⟩, h16⟩, hb⟩ := hl'; have ha2 := List.all_eq_true.1 ha; have hrot : (Cj l n).all hdB = true := List.all_eq_true.2 fun x hx => ha2 x (Gv.1 hx); obtain ⟨h1, h2⟩ := MT hrot; have hnd := MU (n := n) (Ms hr); have hown : D7 (Cj l n) = Cj l n := by
  unfold D7; exact List.filter_eq_self.2 fun y hy => by simp [h1 y hy, h2 y hy]
 have hsort : BZ (Cj l n) = l := IG hr hnd fun _ => Gv; have hL0 : ∀ y ∈ (Cj l n).map (fun h => (Ei n h, h)), y.1 ≠ [] ∧ (∀ x ∈ y.1, x ≠ 13) ∧ Fo y.1 = some y.2 := by
  intro y hy; obtain ⟨z, hz, rfl⟩ := List.mem_map.1 hy; exact O5 (ha2 z (Gv.1 hz))
 by_cases h0 : b = []
 ·have e : DS m p l b n = (m ++ 32 :: (p ++ 32 :: Dz)) ++ 13 :: 10 :: (((Cj l n).map (fun h => (Ei n h, h))).flatMap (fun y => y.1 ++ [13, 10]) ++ 13 :: 10 :: b) := by
   simp [DS, h0, List.flatMap_map]
  have hm2 : ((Cj l n).map (fun h => (Ei n h, h))).map (·.2) = Cj l n := by simp [Function.comp_def]
  rw [e, GX (HG hm hp) (JP hm hp) _ _ hL0 (by rw [hm2]; exact hnd), hm2]; have hbody : DH (Cj l n) b = some ([], b) := by
   unfold DH; rw [JQ h1, JQ h2]
  rw [hbody, Option.bind_some, hown, hsort, h0]; rw [if_pos ⟨rfl, by rw [← h0]; exact hl⟩]
 ·have e : DS m p l b n = (m ++ 32 :: (p ++ 32 :: Dz)) ++ 13 :: 10 :: (((Cj l n).map (fun h => (Ei n h, h)) ++ [(Gw b.length, (CD, decDigits b.length))]).flatMap (fun y => y.1 ++ [13, 10]) ++ 13 :: 10 :: b) := by
   simp [DS, h0, List.flatMap_append, List.flatMap_map]
  have hm2 : ((Cj l n).map (fun h => (Ei n h, h)) ++ [(Gw b.length, (CD, decDigits b.length))]).map (·.2) = Cj l n ++ [(CD, decDigits b.length)] := by simp [Function.comp_def]
  have hL : ∀ y ∈ (Cj l n).map (fun h => (Ei n h, h)) ++ [(Gw b.length, (CD, decDigits b.length))], y.1 ≠ [] ∧ (∀ x ∈ y.1, x ≠ 13) ∧ Fo y.1 = some y.2 := by
   intro y hy; rcases List.mem_append.1 hy with hy | hy
   ·exact hL0 y hy
   ·rw [List.mem_singleton.1 hy]; exact O6 (by omega)
  have hd : BX (((Cj l n).map (fun h => (Ei n h, h)) ++ [(Gw b.length, (CD, decDigits b.length))]).map (·.2)) := by
   rw [hm2, BX, List.pairwise_append]; refine ⟨hnd, by simp, fun a ha' y hy => ?_⟩; rw [List.mem_singleton.1 hy]; exact h1 a ha'
  rw [e, GX (HG hm hp) (JP hm hp) _ _ hL hd, hm2, O4 hrot (by omega), Option.bind_some, PG hrot (.inl rfl), hsort]; rw [if_pos ⟨rfl, hl⟩]
end Go.Idl
namespace Go.Idl
open Go
theorem Cb {i : Nat} (h : i < 9223372036854775807) : IntKind.i64.wrap ((i : Int) + 1) = ((i + 1 : Nat) : Int) := by
 rw [wrap_i64 (by omega) (by omega)]; rfl
theorem F5 {ρ : Type} {step : Int → Option (Int ⊕ ρ)} {Post : ρ → Prop} (n : Nat) (Inv : Nat → Prop) (h0 : Inv 0)
    (hs : ∀ i : Nat, i < n → Inv i → (step i = some (.inl ((i + 1 : Nat) : Int)) ∧ Inv (i + 1)) ∨ ∃ r, step i = some (.inr r) ∧ Post r)
    (hf : Inv n → ∃ r, step n = some (.inr r) ∧ Post r) : ∃ r, AY step 0 = some r ∧ Post r := by
 refine Jy (fun s : Int => ∃ i : Nat, i ≤ n ∧ s = (i : Int) ∧ Inv i) (fun s : Int => n - s.toNat) ?_ ⟨0, Nat.zero_le _, rfl, h0⟩
 rintro s ⟨i, hi, rfl, hI⟩
 by_cases h : i < n
 ·rcases hs i h hI with ⟨h1, h2⟩ | h1
  ·exact .inl ⟨_, h1, ⟨i + 1, h, rfl, h2⟩, by simp; omega⟩
  ·exact .inr h1
 ·have e : i = n := by omega
  subst e; exact .inr (hf hI)
theorem FO {σ ρ : Type} {step : σ × Int → Option ((σ × Int) ⊕ ρ)} {Post : ρ → Prop} (n : Nat) (Inv : Nat → σ → Prop) {a : σ} (h0 : Inv 0 a)
    (hs : ∀ (i : Nat) (a : σ), i < n → Inv i a → (∃ a', step (a, (i : Int)) = some (.inl (a', ((i + 1 : Nat) : Int))) ∧ Inv (i + 1) a') ∨ ∃ r, step (a, (i : Int)) = some (.inr r) ∧ Post r)
    (hf : ∀ a, Inv n a → ∃ r, step (a, (n : Int)) = some (.inr r) ∧ Post r) : ∃ r, AY step (a, 0) = some r ∧ Post r := by
 refine Jy (fun s : σ × Int => ∃ i : Nat, i ≤ n ∧ s.2 = (i : Int) ∧ Inv i s.1) (fun s : σ × Int => n - s.2.toNat) ?_ ⟨0, Nat.zero_le _, rfl, h0⟩
 rintro ⟨a, s⟩ ⟨i, hi, hs2, hI⟩
 simp only at hs2 hI; subst hs2; by_cases h : i < n
 ·rcases hs i a h hI with ⟨a', h1, h2⟩ | h1
  ·exact .inl ⟨_, h1, ⟨i + 1, h, rfl, h2⟩, by simp; omega⟩
  ·exact .inr h1
 ·have e : i = n := by omega
  subst e; exact .inr (hf a hI)
theorem getD_some {α : Type} {l : List α} {i : Nat} (h : i < l.length) (d : α) : l.getD i d = l[i] := by simp [h]
end Go.Idl
namespace Go.Idl
open Go
def Dn {α ρ : Type} (f : Nat → α → Option ρ) (d : ρ) : Nat → List α → ρ
  | _, [] => d
  | i, x :: l => match f i x with
    | none => Dn f d (i + 1) l
    | some r => r
def KG {α σ ρ : Type} (f : Nat → σ → α → σ ⊕ ρ) (fin : σ → ρ) : Nat → σ → List α → ρ
  | _, a, [] => fin a
  | i, a, x :: l => match f i a x with
    | .inl a' => KG f fin (i + 1) a' l
    | .inr r => r
theorem Dp {α ρ : Type} {f : Nat → α → Option ρ} {d : ρ} {i : Nat} {x : α} {l : List α} : Dn f d i (x :: l) = match f i x with
    | none => Dn f d (i + 1) l
    | some r => r := rfl
theorem JR {α σ ρ : Type} {f : Nat → σ → α → σ ⊕ ρ} {fin : σ → ρ} {i : Nat} {a : σ} {x : α} {l : List α} : KG f fin i a (x :: l) = match f i a x with
    | .inl a' => KG f fin (i + 1) a' l
    | .inr r => r := rfl
theorem FP {α ρ : Type} (l : List α) {step : Int → Option (Int ⊕ ρ)} (f : Nat → α → Option ρ) (d : ρ) (hl : l.length ≤ 1000000000)
    (hs : ∀ (i : Nat) (h : i < l.length), step (i : Int) = some (match f i l[i] with | none => .inl (IntKind.i64.wrap ((i : Int) + 1)) | some r => .inr r))
    (hf : step (l.length : Int) = some (.inr d)) : AY step 0 = some (Dn f d 0 l) := by
 obtain ⟨r, h1, h2⟩ := F5 (step := step) (Post := fun r => r = Dn f d 0 l) l.length (fun i => Dn f d i (l.drop i) = Dn f d 0 l) (by simp)
  (fun i hi hI => by
    rw [hs i hi]
    rw [List.drop_eq_getElem_cons hi] at hI
    rw [Dp] at hI
    cases hfi : f i l[i] with
    | none =>
      rw [hfi] at hI
      rw [Cb (by omega)]
      exact .inl ⟨rfl, hI⟩
    | some r =>
      rw [hfi] at hI
      exact .inr ⟨r, rfl, hI⟩)
  (fun hI => ⟨d, hf, by rw [List.drop_length] at hI; exact hI⟩)
 rw [h1, h2]
theorem O7 {α σ ρ : Type} (l : List α) {step : σ × Int → Option ((σ × Int) ⊕ ρ)} (f : Nat → σ → α → σ ⊕ ρ) (fin : σ → ρ) (Inv : Nat → σ → Prop) {a : σ} (hl : l.length ≤ 1000000000) (h0 : Inv 0 a)
    (hs : ∀ (i : Nat) (h : i < l.length) (a : σ), Inv i a → step (a, (i : Int)) = some (match f i a l[i] with | .inl a' => .inl (a', IntKind.i64.wrap ((i : Int) + 1)) | .inr r => .inr r))
    (hn : ∀ (i : Nat) (h : i < l.length) (a a' : σ), Inv i a → f i a l[i] = .inl a' → Inv (i + 1) a')
    (hf : ∀ a, Inv l.length a → step (a, (l.length : Int)) = some (.inr (fin a))) : AY step (a, 0) = some (KG f fin 0 a l) := by
 obtain ⟨r, h1, h2⟩ := FO (step := step) (Post := fun r => r = KG f fin 0 a l) l.length (fun i a' => Inv i a' ∧ KG f fin i a' (l.drop i) = KG f fin 0 a l) (a := a) ⟨h0, by simp⟩
  (fun i a' hi hI => by
    obtain ⟨hI, hR⟩ := hI
    rw [hs i hi a' hI]
    rw [List.drop_eq_getElem_cons hi] at hR
    rw [JR] at hR
    cases hfi : f i a' l[i] with
    | inl a2 =>
      rw [hfi] at hR
      rw [Cb (by omega)]
      exact .inl ⟨a2, rfl, hn i hi a' a2 hI hfi, hR⟩
    | inr r =>
      rw [hfi] at hR
      exact .inr ⟨r, rfl, hR⟩)
  (fun a' hI => ⟨_, hf a' hI.1, by have := hI.2; rw [List.drop_length] at this; exact this⟩)
 rw [h1, h2]
theorem GY {α ρ : Type} (p : α → Bool) (bad good : ρ) : ∀ (l : List α) (i : Nat), Dn (fun _ x => if p x = true then none else some bad) good i l = if l.all p = true then good else bad
  | [], _ => by simp [Dn]
  | x :: l, i => by
    unfold Dn
    by_cases h : p x = true
    · rw [if_pos h]
      simp only [GY p bad good l (i + 1), List.all_cons, h, Bool.true_and]
    · rw [if_neg h]
      have : (List.all (x :: l) p) = false := by simp [List.all_cons, Bool.eq_false_iff.2 h]
      simp [this]
end Go.Idl
namespace Go.Idl
open Go
theorem CS {α : Type} (l : List α) (p : α → Bool) {step : Int → Option (Int ⊕ (Unit ⊕ Bool))} (hl : l.length ≤ 1000000000)
    (hs : ∀ (i : Nat) (h : i < l.length), step (i : Int) = some (if p l[i] = true then .inl (IntKind.i64.wrap ((i : Int) + 1)) else .inr (.inr false)))
    (hf : step (l.length : Int) = some (.inr (.inl ()))) : AY step 0 = some (if l.all p = true then .inl () else .inr false) := by
 rw [FP l (fun _ x => if p x = true then none else some (.inr false)) (.inl ()) hl (fun i h => by
   rw [hs i h]
   by_cases hp : p l[i] = true
   · simp [hp]
   · simp [hp]) hf, GY]
theorem HH {α ρ : Type} {f g : Nat → α → Option ρ} {d : ρ} : ∀ {l : List α} {k : Nat}, (∀ i x, k ≤ i → f i x = g i x) → Dn f d k l = Dn g d k l
  | [], _, _ => rfl
  | x :: l, k, h => by
    rw [Dp, Dp, h k x (Nat.le_refl _)]
    cases g k x with
    | none => exact HH fun i x hi => h i x (by omega)
    | some r => rfl
theorem JS {α : Type} (p : α → Bool) : ∀ (l : List α) (k : Nat), ∃ j : Int, 0 ≤ j ∧ Dn (fun i x => if p x = true then none else some (.inr (i : Int))) (.inl ()) k l = (if l.all p = true then (.inl () : Unit ⊕ Int) else .inr j)
  | [], k => ⟨0, by omega, by simp [Dn]⟩
  | x :: l, k => by
    rw [Dp]
    by_cases h : p x = true
    · obtain ⟨j, h1, h2⟩ := JS p l (k + 1)
      exact ⟨j, h1, by simp only [h, if_true]; rw [h2]; simp [h]⟩
    · exact ⟨k, by omega, by simp [h]⟩
theorem KH (x : UInt8) (a b : Nat) : Jj (x.toNat : Int) (a : Int) (b : Int) = some (decide (a ≤ x.toNat ∧ x.toNat ≤ b)) := by
 unfold Jj; by_cases h : (a : Int) ≤ x.toNat
 ·rw [if_pos h]; congr 1; rw [decide_eq_decide]; omega
 ·rw [if_neg h, decide_eq_false (by omega)]
theorem Rq (s : Str) (h : s.length ≤ 1000000) : Pn s = some (BK s) := by
 unfold Pn
 rw [Ab (by omega), FP s (fun i x => if (Dh x || (decide (¬ i = 0) && Cz x)) = true then none else some (.inr false)) (.inl ()) (by omega)
   (fun i hi => by
     simp only [Gm]
     rw [if_pos (by omega), Ab (by omega), Int.toNat_natCast, getD_some hi]
     generalize s[i] = x
     have e1 : Jj (x.toNat : Int) 97 122 = _ := KH x 97 122
     have e2 : Jj (x.toNat : Int) 65 90 = _ := KH x 65 90
     have e3 : Jj (x.toNat : Int) 48 57 = _ := KH x 48 57
     rw [e1, e2, e3]
     simp only [Option.bind_some, decide_eq_true_eq]
     by_cases h1 : 97 ≤ x.toNat ∧ x.toNat ≤ 122
     · have : Dh x = true := by simp only [Dh, decide_eq_true_eq]; exact .inl h1
       simp [h1, this]
     · by_cases h2 : 65 ≤ x.toNat ∧ x.toNat ≤ 90
       · have : Dh x = true := by simp only [Dh, decide_eq_true_eq]; exact .inr h2
         simp [h1, h2, this]
       · have hl : Dh x = false := by simp only [Dh, decide_eq_false_iff_not]; omega
         rw [if_pos h1, if_pos h2]
         by_cases h0 : i = 0
         · subst h0
           simp [hl]
         · have h0' : ¬ ((i : Int) = 0) := by omega
           rw [if_neg h0']
           by_cases h3 : 48 ≤ x.toNat ∧ x.toNat ≤ 57
           · have : Cz x = true := by simp only [Cz, Bool.or_eq_true, decide_eq_true_eq]; exact .inr (.inl h3)
             simp [h3, this, h0]
           · rw [if_pos h3]
             by_cases h4 : (x.toNat : Int) = 45
             · have : Cz x = true := by simp only [Cz, Bool.or_eq_true, decide_eq_true_eq]; exact .inr (.inr (by omega))
               simp [h4, this, h0]
             · have : Cz x = false := by simp only [Cz, Bool.or_eq_false_iff, hl, decide_eq_false_iff_not, true_and]; omega
               rw [if_pos h4]
               simp [this, hl])
   (by simp only [Gm]; rw [if_neg (by omega)])]
 unfold BK; cases s with
 | nil => simp [Dn, Gl]
 | cons c t =>
  rw [Dp]; by_cases hc : Dh c = true
  ·have hw : Cz c = true := by simp [Cz, hc]
   simp only [hc, Bool.true_or, if_true]
   rw [HH (g := fun _ x => if Cz x = true then none else some (.inr false)) (fun i x hi => by
     have : ¬ i = 0 := by omega
     by_cases hx : Dh x = true
     · have : Cz x = true := by simp [Cz, hx]
       simp [hx, this]
     · simp [this, hx]), GY]
   by_cases ha : t.all Cz = true
   ·simp only [ha, if_true, Option.bind_some, Sum.elim_inl, Gl, List.all_cons, hw, Bool.and_true]; by_cases h2 : (1 : Int) ≤ (c :: t).length
    ·rw [if_pos h2]; simp; omega
    ·simp at h2; omega
   ·rw [if_neg ha]; simp [List.all_cons, Bool.eq_false_iff.2 ha]
  ·have hc' : Dh c = false := Bool.eq_false_iff.2 hc; simp [hc']
set_option maxHeartbeats 4000000 in
theorem Uc (s : Str) (h : s.length ≤ 1000000) : F70 s = some (BK s) := by
 have eL : ∀ x : UInt8, F99 (x.toNat : Int) = some (Dh x) := fun x => by
  unfold F99 Dh; by_cases h : (97 ≤ x.toNat ∧ x.toNat ≤ 122) ∨ (65 ≤ x.toNat ∧ x.toNat ≤ 90)
  ·rw [decide_eq_true h]
   repeat' split
   all_goals first | rfl | (exfalso; omega) | (congr 1; rw [decide_eq_true_eq]; omega)
  ·rw [decide_eq_false h]
   repeat' split
   all_goals first | rfl | (exfalso; omega) | (congr 1; rw [decide_eq_false_iff_not]; omega)
 unfold F70 BK; by_cases h1 : (s.length : Int) < 1
 ·rw [if_pos h1, decide_eq_false (by omega)]; simp
 ·rw [if_neg h1]; by_cases h2 : (64 : Int) < s.length
  ·rw [if_pos h2, decide_eq_false (by omega)]; simp
  ·rw [if_neg h2, decide_eq_true (by omega), Ab (by omega), eL]; cases s with
   | nil => simp at h1
   | cons c t =>
    simp only [Option.bind_some, List.getD_cons_zero, Bool.true_and]; by_cases hc : Dh c = true
    ·rw [hc, if_neg (by simp), CS (c :: t) Cz (by omega)
       (fun i hi => by
         simp only [Gt]
         rw [if_pos (by omega), Ab (by omega), Int.toNat_natCast, getD_some hi, eL]
         generalize (c :: t)[i] = x
         simp only [Option.bind_some]
         by_cases hx : Dh x = true
         · have : Cz x = true := by simp [Cz, hx]
           rw [if_neg (by simpa using hx), if_pos this]
         · have hx' : Dh x = false := Bool.eq_false_iff.2 hx
           rw [if_pos hx]
           by_cases hw : (48 ≤ x.toNat ∧ x.toNat ≤ 57) ∨ x.toNat = 45
           · have : Cz x = true := by simp only [Cz, Bool.or_eq_true, decide_eq_true_eq]; exact .inr hw
             rw [if_pos this]
             repeat' split
             all_goals first | rfl | (exfalso; omega)
           · have : Cz x = false := by simp only [Cz, Bool.or_eq_false_iff, hx', decide_eq_false_iff_not, true_and]; exact hw
             rw [this]
             simp only [Bool.false_eq_true, if_false]
             repeat' split
             all_goals first | rfl | (exfalso; omega))
       (by simp only [Gt]; rw [if_neg (by omega)])]
     by_cases ha : (c :: t).all Cz = true
     ·simp only [ha, if_true, Option.bind_some, Sum.elim_inl, HT, Bool.and_true]
     ·rw [if_neg ha, Bool.eq_false_iff.2 ha]; simp
    ·have hc' : Dh c = false := Bool.eq_false_iff.2 hc; simp [hc']
def Jl (x : CC) : Bool := BK x.fType && decide (x.fType.map Cf = x.fType) && decide (1 ≤ x.A6.length ∧ x.A6.length ≤ 200)
def KI (d : List CC) : Bool := decide (d.length ≤ 16) && d.all Jl
def WE (d : List CC) : Prop := d.length ≤ 1000000 ∧ ∀ x, x ∈ d → x.fType.length ≤ 1000000 ∧ x.A6.length ≤ 1000000
theorem GZ (s : Str) (h : s.length ≤ 1000000) : F57 s = some (s.map Cf) := Ab (by omega)
theorem Rr (x : CC) (h : x.fType.length ≤ 1000000 ∧ x.A6.length ≤ 1000000) : Po x = some (Jl x) := by
 unfold Po Jl; rw [Rq _ h.1, GZ _ h.1]; simp only [Option.bind_some]; by_cases h1 : BK x.fType = true
 ·rw [if_pos h1, h1]; by_cases h2 : x.fType.map Cf = x.fType
  ·rw [if_pos h2, decide_eq_true h2]; by_cases h3 : (1 : Int) ≤ x.A6.length
   ·rw [if_pos h3]; congr 1; simp only [Bool.true_and]; rw [decide_eq_decide]; omega
   ·rw [if_neg h3, decide_eq_false (p := 1 ≤ x.A6.length ∧ _) (by omega)]; rfl
  ·rw [if_neg h2, decide_eq_false h2]; simp
 ·rw [if_neg h1, Bool.eq_false_iff.2 h1]; simp
theorem Rs (d : List CC) (h : WE d) : Pp d = some (!d.all Jl) := by
 unfold Pp Rj; obtain ⟨j, hj, hf⟩ := JS Jl d 0
 rw [FP d (fun i x => if Jl x = true then none else some (.inr (i : Int))) (.inl ()) (by have := h.1; omega)
   (fun i hi => by
     simp only [Gn, Rh]
     rw [if_pos (by omega), Ab (by omega), Int.toNat_natCast, getD_some hi, Rr _ (h.2 _ (List.getElem_mem _))]
     simp only [Option.bind_some]
     cases Jl d[i] <;> simp)
   (by simp only [Gn]; rw [if_neg (by omega)]), hf]
 by_cases h1 : d.all Jl = true
 ·rw [if_pos h1, h1]; simp [HS]
 ·rw [if_neg h1, Bool.eq_false_iff.2 h1]; simp [hj]
theorem Ud (d : List CC) (h : WE d) : F79 d = some (if KI d = true then 0 else 2) := by
 unfold F79 KI; by_cases h1 : (16 : Int) < d.length
 ·rw [if_pos h1, decide_eq_false (by omega)]; simp
 ·rw [if_neg h1, decide_eq_true (by omega)]; unfold Rm; rw [Rs d h]; simp only [Option.bind_some, Bool.not_not, Bool.true_and]; by_cases h2 : d.all Jl = true
  ·rw [if_neg (by simpa using h2), if_pos h2]
  ·rw [if_pos h2, if_neg h2]
theorem LL {f : UInt8 → UInt8} : ∀ (l acc : Str) (k : Nat), KG (fun _ (a : Str) x => (.inl (a ++ [f x]) : Str ⊕ Str)) id k acc l = acc ++ l.map f
  | [], acc, _ => by simp [KG]
  | x :: l, acc, k => by
    rw [JR]
    simp only
    rw [LL l]
    simp
theorem Ue (s : Str) (h : s.length ≤ 1000000) : F71 s = some (s.map Cf) := by
 unfold F71; have key := O7 (l := s) (step := fun (s_1 : Str × Int) => GV s s_1.1 s_1.2) (fun _ (a : Str) x => (.inl (a ++ [Cf x]) : Str ⊕ Str)) id (fun i a => a.length = i) (a := []) (by omega) rfl
  (fun i hi a hI => by
    simp only [GV]
    rw [if_pos (by omega), Ab (by omega), Int.toNat_natCast, getD_some hi]
    generalize s[i] = x
    obtain ⟨e1, e2⟩ := Gi x
    have hx := x.toNat_lt
    by_cases h1 : (65 : Int) ≤ x.toNat
    · rw [if_pos h1]
      by_cases h2 : (x.toNat : Int) ≤ 90
      · have hw : IntKind.u8.wrap ((x.toNat : Int) + 32) = (x.toNat : Int) + 32 := wrap_u8 (by omega) (by omega)
        have e3 := e1 ⟨h1, h2⟩
        rw [if_pos h2, hw, Ab (by omega), Ab (by simp; omega)]
        have e4 : ((x.toNat : Int) + 32).toNat = (Cf x).toNat := by omega
        rw [e4, UInt8.ofNat_toNat]
      · rw [if_neg h2, Ab (by omega), Ab (by simp; omega), Int.toNat_natCast, UInt8.ofNat_toNat, e2 (by omega)]
    · rw [if_neg h1, Ab (by omega), Ab (by simp; omega), Int.toNat_natCast, UInt8.ofNat_toNat, e2 (by omega)])
  (fun i hi a a' hI e => by cases e; simp [hI])
  (fun a hI => by simp only [GV]; rw [if_neg (by omega)]; rfl)
 rw [key, LL]; simp [Kz]
theorem PK (s : Str) (h : s.length ≤ 1000000) : F56 s = some (BK s) := by
 unfold F56; rw [GZ s h, Option.bind_some, Ud _ ⟨by simp, fun x hx => by rw [List.mem_singleton.1 hx]; simpa using h⟩, Option.bind_some]; have e : KI [(⟨s.map Cf, [120]⟩ : CC)] = BK s := by
  have h1 := F1 s; have h2 := Lg s; simp only [Cn] at h1 h2; simp [KI, Jl, h1]; intro _; simpa [Function.comp_def] using h2
 rw [e]; cases BK s <;> simp
theorem E2 {a b : Nat} {s : Str} : s.all (fun x => decide (a ≤ x.toNat ∧ x.toNat ≤ b)) = Bw a b s := rfl
theorem Uf (s : Str) (h : s.length ≤ 1000000000) : F34 s = some (Bw 65 90 s) := by
 unfold F34
 rw [Ab (by omega), CS s (fun x => decide (65 ≤ x.toNat ∧ x.toNat ≤ 90)) h
   (fun i hi => by
     simp only [IU, F73]
     rw [if_pos (by omega), Ab (by omega), Int.toNat_natCast, getD_some hi]
     generalize s[i] = x
     by_cases h1 : (65 : Int) ≤ x.toNat
     · rw [if_pos h1, Option.bind_some]
       by_cases h2 : (x.toNat : Int) ≤ 90
       · rw [if_neg (by simpa using h2), if_pos (by simp; omega)]
       · rw [if_pos (by simpa using h2), if_neg (by simp; omega)]
     · rw [if_neg h1, Option.bind_some, if_pos (by simp), if_neg (by simp; omega)])
   (by simp only [IU]; rw [if_neg (by omega)]), E2]
 cases Bw 65 90 s <;> simp [Kt]
theorem PL (s : Str) (h : s.length ≤ 1000000000) : LD s = some (Bw 33 126 s) := by
 unfold LD
 rw [Ab (by omega), CS s (fun x => decide (33 ≤ x.toNat ∧ x.toNat ≤ 126)) h
   (fun i hi => by
     simp only [EJ, F74]
     rw [if_pos (by omega), Ab (by omega), Int.toNat_natCast, getD_some hi]
     generalize s[i] = x
     by_cases h1 : (33 : Int) ≤ x.toNat
     · rw [if_pos h1, Option.bind_some]
       by_cases h2 : (x.toNat : Int) ≤ 126
       · rw [if_neg (by simpa using h2), if_pos (by simp; omega)]
       · rw [if_pos (by simpa using h2), if_neg (by simp; omega)]
     · rw [if_neg h1, Option.bind_some, if_pos (by simp), if_neg (by simp; omega)])
   (by simp only [EJ]; rw [if_neg (by omega)]), E2]
 cases Bw 33 126 s <;> simp [Gk]
theorem PM (s : Str) (h : s.length ≤ 1000000000) : LF s = some (Bw 32 126 s) := by
 unfold LF
 rw [Ab (by omega), CS s (fun x => decide (32 ≤ x.toNat ∧ x.toNat ≤ 126)) h
   (fun i hi => by
     simp only [EK, F81]
     rw [if_pos (by omega), Ab (by omega), Int.toNat_natCast, getD_some hi]
     generalize s[i] = x
     by_cases h1 : (32 : Int) ≤ x.toNat
     · rw [if_pos h1, Option.bind_some]
       by_cases h2 : (x.toNat : Int) ≤ 126
       · rw [if_neg (by simpa using h2), if_pos (by simp; omega)]
       · rw [if_pos (by simpa using h2), if_neg (by simp; omega)]
     · rw [if_neg h1, Option.bind_some, if_pos (by simp), if_neg (by simp; omega)])
   (by simp only [EK]; rw [if_neg (by omega)]), E2]
 cases Bw 32 126 s <;> simp [Gp]
theorem PN (s : Str) (h : s.length ≤ 1000000000) : JN s = some (Bw 32 126 s) := by
 unfold JN
 rw [Ab (by omega), CS s (fun x => decide (32 ≤ x.toNat ∧ x.toNat ≤ 126)) h
   (fun i hi => by
     simp only [EM, F35]
     rw [if_pos (by omega), Ab (by omega), Int.toNat_natCast, getD_some hi]
     generalize s[i] = x
     by_cases h1 : (32 : Int) ≤ x.toNat
     · rw [if_pos h1, Option.bind_some]
       by_cases h2 : (x.toNat : Int) ≤ 126
       · rw [if_neg (by simpa using h2), if_pos (by simp; omega)]
       · rw [if_pos (by simpa using h2), if_neg (by simp; omega)]
     · rw [if_neg h1, Option.bind_some, if_pos (by simp), if_neg (by simp; omega)])
   (by simp only [EM]; rw [if_neg (by omega)]), E2]
 cases Bw 32 126 s <;> simp [Gr]
theorem MW (s : Str) (a b : Nat) (h : s.length ≤ 1000000000) : F55 s (a : Int) (b : Int) = some (Bw a b s) := by
 unfold F55
 rw [CS s (fun x => decide (a ≤ x.toNat ∧ x.toNat ≤ b)) h
   (fun i hi => by
     simp only [IY]
     rw [if_pos (by omega), Ab (by omega), Int.toNat_natCast, getD_some hi]
     generalize s[i] = x
     by_cases h1 : (x.toNat : Int) < (a : Int)
     · rw [if_pos h1, if_neg (by simp; omega)]
     · rw [if_neg h1]
       by_cases h2 : (b : Int) < (x.toNat : Int)
       · rw [if_pos h2, if_neg (by simp; omega)]
       · rw [if_neg h2, if_pos (by simp; omega)])
   (by simp only [IY]; rw [if_neg (by omega)]), E2]
 cases Bw a b s <;> simp [Ky]
theorem PO (s : Str) (h : s.length ≤ 1000000000) : F45 s = some (BS s) := by
 unfold F45 BS; rw [Uf s h]; by_cases h1 : (1 : Int) ≤ s.length
 ·rw [if_pos h1]; by_cases h2 : (s.length : Int) ≤ 20
  ·rw [if_pos h2, decide_eq_true (by omega)]; simp
  ·rw [if_neg h2, decide_eq_false (by omega)]; simp
 ·rw [if_neg h1, decide_eq_false (by omega)]; simp
theorem Ug (s : Str) (h : s.length ≤ 1000000000) : F47 s = some (BS s) := by
 unfold F47 BS; have e := MW s 65 90 h; rw [show F55 s 65 90 = _ from e]; by_cases h1 : (1 : Int) ≤ s.length
 ·rw [if_pos h1]; by_cases h2 : (s.length : Int) ≤ 20
  ·rw [if_pos h2, decide_eq_true (by omega)]; simp
  ·rw [if_neg h2, decide_eq_false (by omega)]; simp
 ·rw [if_neg h1, decide_eq_false (by omega)]; simp
theorem KJ {x : UInt8} : (x.toNat : Int) = 47 ↔ x = 47 := by
 constructor
 ·intro h; exact UInt8.toNat_inj.1 (by show x.toNat = 47; omega)
 ·rintro rfl; rfl
theorem G_ {x : UInt8} : (x.toNat : Int) = 32 ↔ x = 32 := by
 constructor
 ·intro h; exact UInt8.toNat_inj.1 (by show x.toNat = 32; omega)
 ·rintro rfl; rfl
theorem PR (s : Str) (h : s.length ≤ 1000000000) : F46 s = some (C_ s) := by
 unfold F46 C_; rw [PL s h]; by_cases h1 : (1 : Int) ≤ s.length
 ·rw [if_pos h1]; by_cases h2 : (s.length : Int) ≤ 200
  ·rw [if_pos h2, Ab (by omega), decide_eq_true (p := 1 ≤ s.length ∧ _) (by omega)]; by_cases h3 : s.getD 0 0 = 47
   ·rw [if_pos (KJ.2 h3), decide_eq_true h3]; simp
   ·rw [if_neg (fun e => h3 (KJ.1 e)), decide_eq_false h3]; simp
  ·rw [if_neg h2, decide_eq_false (p := 1 ≤ s.length ∧ _) (by omega)]; simp
 ·rw [if_neg h1, decide_eq_false (p := 1 ≤ s.length ∧ _) (by omega)]; simp
theorem Uh (s : Str) (h : s.length ≤ 1000000000) : F48 s = some (C_ s) := by
 unfold F48 C_; have e := MW s 33 126 h; rw [show F55 s 33 126 = _ from e]; by_cases h1 : (1 : Int) ≤ s.length
 ·rw [if_pos h1]; by_cases h2 : (s.length : Int) ≤ 200
  ·rw [if_pos h2, Ab (by omega), decide_eq_true (p := 1 ≤ s.length ∧ _) (by omega)]; by_cases h3 : s.getD 0 0 = 47
   ·rw [if_pos (KJ.2 h3), decide_eq_true h3]; simp
   ·rw [if_neg (fun e => h3 (KJ.1 e)), decide_eq_false h3]; simp
  ·rw [if_neg h2, decide_eq_false (p := 1 ≤ s.length ∧ _) (by omega)]; simp
 ·rw [if_neg h1, decide_eq_false (p := 1 ≤ s.length ∧ _) (by omega)]; simp
theorem Dq {p : UInt8 → Bool} : ∀ {s : Str} {x : UInt8}, (s.dropWhile p).head? = some x → p x = false
  | [], x, h => by simp at h
  | y :: s, x, h => by
    rw [List.dropWhile_cons] at h
    split at h
    · exact Dq h
    · rename_i hy
      simp at h
      subst h
      simpa using hy
theorem DT {p : UInt8 → Bool} : ∀ {s : Str} {x : UInt8}, x ∈ s.takeWhile p → p x = true
  | [], x, h => by simp at h
  | y :: s, x, h => by
    rw [List.takeWhile_cons] at h
    split at h
    · rename_i hy
      rcases List.mem_cons.1 h with rfl | h
      · exact hy
      · exact DT h
    · simp at h
theorem I_ (p : UInt8 → Bool) (s : Str) : ∃ a m b, s = a ++ m ++ b ∧ (∀ x ∈ a, p x = true) ∧ (∀ x ∈ b, p x = true) ∧ (∀ x, m.head? = some x → p x = false) ∧ (∀ x, m.getLast? = some x → p x = false) := by
 refine ⟨s.takeWhile p, ((s.dropWhile p).reverse.dropWhile p).reverse, ((s.dropWhile p).reverse.takeWhile p).reverse, ?_, fun x hx => DT hx, fun x hx => DT (List.mem_reverse.1 hx), fun x hx => ?_, fun x hx => ?_⟩
 ·rw [List.append_assoc, ← List.reverse_append, List.takeWhile_append_dropWhile, List.reverse_reverse, List.takeWhile_append_dropWhile]
 ·have h1 : (s.dropWhile p) = ((s.dropWhile p).reverse.dropWhile p).reverse ++ ((s.dropWhile p).reverse.takeWhile p).reverse := by
   rw [← List.reverse_append, List.takeWhile_append_dropWhile, List.reverse_reverse]
  cases hm : ((s.dropWhile p).reverse.dropWhile p).reverse with
  | nil => rw [hm] at hx; cases hx
  | cons y m =>
   rw [hm] at hx h1; have : (s.dropWhile p).head? = some y := by rw [h1]; rfl
   simp at hx; subst hx; exact Dq this
 ·rw [List.getLast?_reverse] at hx; exact Dq hx
theorem HU (cs a m b : Str) (ha : ∀ x ∈ a, cs.contains x = true) (hb : ∀ x ∈ b, cs.contains x = true) (h1 : ∀ x, m.head? = some x → cs.contains x = false) (h2 : ∀ x, m.getLast? = some x → cs.contains x = false) : Lib.trimS (a ++ m ++ b) cs = m := by
 unfold Lib.trimS Lib.trimLeftS Lib.trimRightS; rw [List.reverse_append, BV _ _ (fun y hy => hb y (by simpa using hy))]; cases hs : m with
 | nil =>
  have : ∀ x ∈ a.reverse, cs.contains x = true := fun x hx => ha x (by simpa using hx); rw [List.append_nil]; have e : a.reverse.dropWhile (fun x => cs.contains x) = [] := by have := BV (p := fun x => cs.contains x) a.reverse [] this; simpa using this
  rw [e]; rfl
 | cons y t =>
  rw [← hs, D6 (s := (a ++ m).reverse) (fun x hx => h2 x (by
    rw [List.head?_reverse] at hx
    rw [List.getLast?_append] at hx
    rw [hs] at hx ⊢
    simpa using hx)), List.reverse_reverse, BV _ _ ha, D6 h1]
theorem O8 (s : Str) : Lib.trimS s [32, 9] = trimS s := by
 obtain ⟨a, m, b, e, h1, h2, h3, h4⟩ := I_ Bu s; have hc : ∀ x : UInt8, ([32, 9] : Str).contains x = Bu x := fun x => by rw [Bool.eq_iff_iff]; simp [Bu]
 rw [e, IA a b m h1 h2 h3 h4]; exact HU _ a m b (fun x hx => by rw [hc]; exact h1 x hx) (fun x hx => by rw [hc]; exact h2 x hx) (fun x hx => by rw [hc]; exact h3 x hx) (fun x hx => by rw [hc]; exact h4 x hx)
theorem PS (s : Str) : Lib.trimS s [32] = s ↔ s.head? ≠ some 32 ∧ s.getLast? ≠ some 32 := by
 have hc : ∀ x : UInt8, ([32] : Str).contains x = (x == 32) := fun x => by rw [Bool.eq_iff_iff]; simp
 constructor
 ·intro h; obtain ⟨a, m, b, e, h1, h2, h3, h4⟩ := I_ (fun x => x == 32) s; have := HU [32] a m b (fun x hx => by rw [hc]; exact h1 x hx) (fun x hx => by rw [hc]; exact h2 x hx) (fun x hx => by rw [hc]; exact h3 x hx) (fun x hx => by rw [hc]; exact h4 x hx); rw [← e, h] at this; rw [this]; exact ⟨fun q => by have := h3 _ q; simp at this, fun q => by have := h4 _ q; simp at this⟩
 ·rintro ⟨h1, h2⟩
  have := HU [32] [] s [] (by simp) (by simp) (fun x hx => by rw [hc]; simp; rintro rfl; exact h1 hx) (fun x hx => by rw [hc]; simp; rintro rfl; exact h2 hx); simpa using this
theorem Ui (s : Str) (h : s.length ≤ 1000000000) : F80 s [32] = some (Lib.trimS s [32]) := by
 unfold F80; rw [Ab (by omega), Ab ⟨by simp, by simp⟩]
theorem Sg (s : Str) (h : s.length ≤ 1000000000) : F80 s [32, 9] = some (trimS s) := by
 unfold F80; rw [Ab (by omega), Ab ⟨by simp, by simp⟩, O8]
theorem PT (s : Str) (h : s.length ≤ 1000000000) : F58 s = some (Bz s) := by
 unfold F58 Bz; rw [Ui s h, Option.bind_some, PM s h]; have e : s.all (fun x => decide (32 ≤ x.toNat ∧ x.toNat ≤ 126)) = Bw 32 126 s := rfl; rw [e]; by_cases h1 : (s.length : Int) ≤ 200
 ·rw [if_pos h1, decide_eq_true (by omega)]; by_cases h2 : Lib.trimS s [32] = s
  ·obtain ⟨q1, q2⟩ := (PS s).1 h2; rw [if_pos h2, decide_eq_true q1, decide_eq_true q2]; simp
  ·rw [if_neg h2]; have := mt (PS s).2 h2; by_cases q1 : s.head? = some 32
   ·simp [q1]
   ·have q2 : s.getLast? = some 32 := Classical.byContradiction fun q => this ⟨q1, q⟩; simp [q2]
 ·rw [if_neg h1, decide_eq_false (by omega)]; simp
theorem Uj (s : Str) (h : s.length ≤ 1000000000) : F72 s = some (Bz s) := by
 unfold F72 Bz; have e := MW s 32 126 h; rw [show F55 s 32 126 = _ from e]; have e : s.all (fun x => decide (32 ≤ x.toNat ∧ x.toNat ≤ 126)) = Bw 32 126 s := rfl; rw [e]; by_cases h1 : (s.length : Int) ≤ 200
 ·rw [if_pos h1, decide_eq_true (p := s.length ≤ 200) (by omega), Option.bind_some]; cases Bw 32 126 s with
  | false => simp
  | true =>
   rw [if_pos rfl]; by_cases h2 : s = []
   ·subst h2; simp
   ·have hl : 0 < s.length := List.length_pos_iff.2 h2; rw [if_neg h2, Ab (by omega)]; have hh : s.head? = some (s.getD 0 0) := by rw [List.head?_eq_getElem?, List.getD_eq_getElem?_getD, List.getElem?_eq_getElem hl]; rfl
    have hw : IntKind.i64.wrap ((s.length : Int) - 1) = ((s.length - 1 : Nat) : Int) := by rw [wrap_i64 (by omega) (by omega)]; omega
    have hg : s.getLast? = some (s.getD (s.length - 1) 0) := by rw [List.getLast?_eq_getElem?, List.getD_eq_getElem?_getD, List.getElem?_eq_getElem (by omega)]; rfl
    rw [hh, hg, hw, Int.toNat_natCast]; by_cases q1 : s.getD 0 0 = 32
    ·rw [if_neg (by simpa using G_.2 q1), q1]; simp
    ·rw [if_pos (fun q => q1 (G_.1 q)), Ab (by omega)]; by_cases q2 : s.getD (s.length - 1) 0 = 32
     ·rw [decide_eq_false (by simpa using G_.2 q2), q2]; simp
     ·rw [decide_eq_true (p := ¬ _) (fun q => q2 (G_.1 q)), decide_eq_true (by simpa using q1), decide_eq_true (by simpa using q2)]; simp
 ·rw [if_neg h1, decide_eq_false (p := s.length ≤ 200) (by omega)]; simp
end Go.Idl
namespace Go.Idl
open Go
abbrev toH (x : S55) : Hd := (x.fName, x.A6)
theorem Rt (l : List S55) : (l.map toH).map toS = l := by
 rw [List.map_map]; have : (toS ∘ toH) = id := rfl; rw [this, List.map_id]
theorem No (l : List Hd) : (l.map toS).map toH = l := by
 rw [List.map_map]; have : (toH ∘ toS) = id := rfl; rw [this, List.map_id]
def okH (l : List Hd) : Bool := decide (BW l) && l.all hdB
theorem LM (l : List Hd) : Li l = (okH l && decide (l.length ≤ 16)) := rfl
theorem JT : ∀ (l : List Hd) (x : Hd), BW (l ++ [x]) ↔ BW l ∧ ∀ y, l.getLast? = some y → lt8 y.1 x.1 := by
 intro l x; rw [BW, List.pairwise_append]; constructor
 ·rintro ⟨h1, _, h3⟩
  exact ⟨h1, fun y hy => h3 y (List.mem_of_getLast? hy) x (by simp)⟩
 ·rintro ⟨h1, h2⟩
  refine ⟨h1, by simp, fun a ha b hb => ?_⟩; rw [List.mem_singleton.1 hb]; have hne : l ≠ [] := List.ne_nil_of_mem ha; have hlast := h2 _ (List.getLast?_eq_some_getLast hne); obtain ⟨i, hi, rfl⟩ := List.getElem_of_mem ha; rcases Nat.lt_or_ge i (l.length - 1) with q | q
  ·have hp := List.pairwise_iff_getElem.1 h1 i (l.length - 1) hi (by omega) q; rw [List.getLast_eq_getElem] at hlast; exact E_ hp hlast
  ·have e : i = l.length - 1 := by omega
   subst e; rw [List.getLast_eq_getElem] at hlast; exact hlast
theorem PU (l : List S55) (hl : l.length ≤ 1000000) (hb : ∀ x ∈ l, x.fName.length ≤ 1000000 ∧ x.A6.length ≤ 1000000) : AY (fun (s : Int) => EL l s) 0 = some (if okH (l.map toH) = true then .inl () else .inr false) := by
 obtain ⟨r, h1, h2⟩ := F5 (step := fun (s : Int) => EL l s) (Post := fun y => y = if okH (l.map toH) = true then .inl () else .inr false) l.length (fun i => BW ((l.map toH).take i) ∧ ((l.map toH).take i).all hdB = true) (by simp [BW])
  (fun i hi hI => by
    obtain ⟨r1, r2⟩ := hI
    obtain ⟨n1, n2⟩ := hb l[i] (List.getElem_mem _)
    have hm : i < (l.map toH).length := by simpa using hi
    have hx : (l.map toH)[i] = toH l[i] := by simp
    have bad : (¬ (BK l[i].fName = true) ∨ ¬ Cn l[i].fName = l[i].fName ∨ ¬ (Bz l[i].A6 = true) ∨ l[i].fName = CD ∨ l[i].fName = ED) → okH (l.map toH) = false := fun h => by
      have : hdB (toH l[i]) = false := by
        unfold hdB toH
        rcases h with h | h | h | h | h
        · simp [Bool.eq_false_iff.2 h]
        · simp [h]
        · simp [Bool.eq_false_iff.2 h]
        · simp [h]
        · simp [h]
      unfold okH
      have : (l.map toH).all hdB = false := List.all_eq_false.2 ⟨_, List.getElem_mem hm, by rw [hx, this]; simp⟩
      rw [this, Bool.and_false]
    have e1 : EL l (i : Int) = if ¬ (BK l[i].fName = true) then some (.inr (.inr false)) else if ¬ Cn l[i].fName = l[i].fName then some (.inr (.inr false)) else if ¬ (Bz l[i].A6 = true) then some (.inr (.inr false)) else if l[i].fName = CD then some (.inr (.inr false)) else if l[i].fName = ED then some (.inr (.inr false)) else if (0 : Int) < i then (if ¬ Op.bytesLess (l.getD (i - 1) S55.zero).fName l[i].fName = true then some (.inr (.inr false)) else some (.inl ((i + 1 : Nat) : Int))) else some (.inl ((i + 1 : Nat) : Int)) := by
      simp only [EL]
      rw [if_pos (by omega), Ab (by omega), Int.toNat_natCast, getD_some hi, PK _ n1, Option.bind_some, GZ _ n1, Option.bind_some, PT _ (by omega), Option.bind_some]
      by_cases h0 : (0 : Int) < i
      · have hw : IntKind.i64.wrap ((i : Int) - 1) = ((i - 1 : Nat) : Int) := by rw [wrap_i64 (by omega) (by omega)]; omega
        rw [if_pos h0, if_pos h0, hw, Ab (by omega), Int.toNat_natCast, Cb (by omega)]
        rfl
      · rw [if_neg h0, if_neg h0, Cb (by omega)]
        rfl
    by_cases q1 : BK l[i].fName = true
    case neg => exact .inr ⟨_, by rw [e1, if_pos q1], by rw [bad (.inl q1)]; rfl⟩
    by_cases q2 : Cn l[i].fName = l[i].fName
    case neg => exact .inr ⟨_, by rw [e1, if_neg (by simpa using q1), if_pos q2], by rw [bad (.inr (.inl q2))]; rfl⟩
    by_cases q3 : Bz l[i].A6 = true
    case neg => exact .inr ⟨_, by rw [e1, if_neg (by simpa using q1), if_neg (by simpa using q2), if_pos q3], by rw [bad (.inr (.inr (.inl q3)))]; rfl⟩
    by_cases q4 : l[i].fName = CD
    case pos => exact .inr ⟨_, by rw [e1, if_neg (by simpa using q1), if_neg (by simpa using q2), if_neg (by simpa using q3), if_pos q4], by rw [bad (.inr (.inr (.inr (.inl q4))))]; rfl⟩
    by_cases q5 : l[i].fName = ED
    case pos => exact .inr ⟨_, by rw [e1, if_neg (by simpa using q1), if_neg (by simpa using q2), if_neg (by simpa using q3), if_neg q4, if_pos q5], by rw [bad (.inr (.inr (.inr (.inr q5))))]; rfl⟩
    rw [e1, if_neg (by simpa using q1), if_neg (by simpa using q2), if_neg (by simpa using q3), if_neg q4, if_neg q5]
    have hgood : hdB (toH l[i]) = true := by simp only [hdB, toH, Bool.and_eq_true, decide_eq_true_eq]; exact ⟨⟨⟨⟨q1, q2⟩, q3⟩, q4⟩, q5⟩
    have ha : ((l.map toH).take (i + 1)).all hdB = true := by
      rw [List.take_succ_eq_append_getElem hm, List.all_append, r2, hx]
      simp [hgood]
    by_cases h0 : (0 : Int) < i
    · rw [if_pos h0]
      have hi1 : i - 1 < l.length := by omega
      rw [getD_some hi1]
      by_cases q6 : Op.bytesLess l[i - 1].fName l[i].fName = true
      · rw [if_neg (by simpa using q6)]
        refine .inl ⟨rfl, ?_, ha⟩
        rw [List.take_succ_eq_append_getElem hm, hx]
        refine (JT _ _).2 ⟨r1, fun y hy => ?_⟩
        rw [List.getLast?_take, if_neg (by omega)] at hy
        have : (l.map toH)[i - 1]? = some (toH l[i - 1]) := by simp [hi1]
        rw [this] at hy
        simp at hy
        rw [← hy]
        exact q6
      · rw [if_pos q6]
        refine .inr ⟨_, rfl, ?_⟩
        have : ¬ BW (l.map toH) := fun h => by
          have := List.pairwise_iff_getElem.1 h (i - 1) i (by simpa using hi1) hm (by omega)
          simp only [List.getElem_map, toH] at this
          exact q6 this
        unfold okH
        rw [decide_eq_false this]; rfl
    · rw [if_neg h0]
      refine .inl ⟨rfl, ?_, ha⟩
      have : i = 0 := by omega
      subst this
      rw [List.take_succ_eq_append_getElem hm]
      simp [BW])
  (fun hI => by
    refine ⟨_, by simp only [EL]; rw [if_neg (by omega)], ?_⟩
    have hlen : (l.map toH).length = l.length := by simp
    rw [← hlen, List.take_length] at hI
    unfold okH
    rw [decide_eq_true hI.1, hI.2]; rfl)
 rw [h1, h2]
theorem PV (l : List S55) (hl : l.length ≤ 1000000) (hb : ∀ x ∈ l, x.fName.length ≤ 1000000 ∧ x.A6.length ≤ 1000000) : AY (fun (s : Int) => EP l s) 0 = some (if okH (l.map toH) = true then .inl () else .inr false) := by
 obtain ⟨r, h1, h2⟩ := F5 (step := fun (s : Int) => EP l s) (Post := fun y => y = if okH (l.map toH) = true then .inl () else .inr false) l.length (fun i => BW ((l.map toH).take i) ∧ ((l.map toH).take i).all hdB = true) (by simp [BW])
  (fun i hi hI => by
    obtain ⟨r1, r2⟩ := hI
    obtain ⟨n1, n2⟩ := hb l[i] (List.getElem_mem _)
    have hm : i < (l.map toH).length := by simpa using hi
    have hx : (l.map toH)[i] = toH l[i] := by simp
    have bad : (¬ (BK l[i].fName = true) ∨ ¬ Cn l[i].fName = l[i].fName ∨ ¬ (Bz l[i].A6 = true) ∨ l[i].fName = CD ∨ l[i].fName = ED) → okH (l.map toH) = false := fun h => by
      have : hdB (toH l[i]) = false := by
        unfold hdB toH
        rcases h with h | h | h | h | h
        · simp [Bool.eq_false_iff.2 h]
        · simp [h]
        · simp [Bool.eq_false_iff.2 h]
        · simp [h]
        · simp [h]
      unfold okH
      have : (l.map toH).all hdB = false := List.all_eq_false.2 ⟨_, List.getElem_mem hm, by rw [hx, this]; simp⟩
      rw [this, Bool.and_false]
    have e1 : EP l (i : Int) = if ¬ (BK l[i].fName = true) then some (.inr (.inr false)) else if ¬ Cn l[i].fName = l[i].fName then some (.inr (.inr false)) else if ¬ (Bz l[i].A6 = true) then some (.inr (.inr false)) else if l[i].fName = CD then some (.inr (.inr false)) else if l[i].fName = ED then some (.inr (.inr false)) else if (0 : Int) < i then (if ¬ Op.bytesLess (l.getD (i - 1) S55.zero).fName l[i].fName = true then some (.inr (.inr false)) else some (.inl ((i + 1 : Nat) : Int))) else some (.inl ((i + 1 : Nat) : Int)) := by
      simp only [EP]
      rw [if_pos (by omega), Ab (by omega), Int.toNat_natCast, getD_some hi, Uc _ n1, Option.bind_some, Ue _ n1, Option.bind_some, Uj _ (by omega), Option.bind_some]
      by_cases h0 : (0 : Int) < i
      · have hw : IntKind.i64.wrap ((i : Int) - 1) = ((i - 1 : Nat) : Int) := by rw [wrap_i64 (by omega) (by omega)]; omega
        rw [if_pos h0, if_pos h0, hw, Ab (by omega), Int.toNat_natCast, Cb (by omega)]
        rfl
      · rw [if_neg h0, if_neg h0, Cb (by omega)]
        rfl
    by_cases q1 : BK l[i].fName = true
    case neg => exact .inr ⟨_, by rw [e1, if_pos q1], by rw [bad (.inl q1)]; rfl⟩
    by_cases q2 : Cn l[i].fName = l[i].fName
    case neg => exact .inr ⟨_, by rw [e1, if_neg (by simpa using q1), if_pos q2], by rw [bad (.inr (.inl q2))]; rfl⟩
    by_cases q3 : Bz l[i].A6 = true
    case neg => exact .inr ⟨_, by rw [e1, if_neg (by simpa using q1), if_neg (by simpa using q2), if_pos q3], by rw [bad (.inr (.inr (.inl q3)))]; rfl⟩
    by_cases q4 : l[i].fName = CD
    case pos => exact .inr ⟨_, by rw [e1, if_neg (by simpa using q1), if_neg (by simpa using q2), if_neg (by simpa using q3), if_pos q4], by rw [bad (.inr (.inr (.inr (.inl q4))))]; rfl⟩
    by_cases q5 : l[i].fName = ED
    case pos => exact .inr ⟨_, by rw [e1, if_neg (by simpa using q1), if_neg (by simpa using q2), if_neg (by simpa using q3), if_neg q4, if_pos q5], by rw [bad (.inr (.inr (.inr (.inr q5))))]; rfl⟩
    rw [e1, if_neg (by simpa using q1), if_neg (by simpa using q2), if_neg (by simpa using q3), if_neg q4, if_neg q5]
    have hgood : hdB (toH l[i]) = true := by simp only [hdB, toH, Bool.and_eq_true, decide_eq_true_eq]; exact ⟨⟨⟨⟨q1, q2⟩, q3⟩, q4⟩, q5⟩
    have ha : ((l.map toH).take (i + 1)).all hdB = true := by
      rw [List.take_succ_eq_append_getElem hm, List.all_append, r2, hx]
      simp [hgood]
    by_cases h0 : (0 : Int) < i
    · rw [if_pos h0]
      have hi1 : i - 1 < l.length := by omega
      rw [getD_some hi1]
      by_cases q6 : Op.bytesLess l[i - 1].fName l[i].fName = true
      · rw [if_neg (by simpa using q6)]
        refine .inl ⟨rfl, ?_, ha⟩
        rw [List.take_succ_eq_append_getElem hm, hx]
        refine (JT _ _).2 ⟨r1, fun y hy => ?_⟩
        rw [List.getLast?_take, if_neg (by omega)] at hy
        have : (l.map toH)[i - 1]? = some (toH l[i - 1]) := by simp [hi1]
        rw [this] at hy
        simp at hy
        rw [← hy]
        exact q6
      · rw [if_pos q6]
        refine .inr ⟨_, rfl, ?_⟩
        have : ¬ BW (l.map toH) := fun h => by
          have := List.pairwise_iff_getElem.1 h (i - 1) i (by simpa using hi1) hm (by omega)
          simp only [List.getElem_map, toH] at this
          exact q6 this
        unfold okH
        rw [decide_eq_false this]; rfl
    · rw [if_neg h0]
      refine .inl ⟨rfl, ?_, ha⟩
      have : i = 0 := by omega
      subst this
      rw [List.take_succ_eq_append_getElem hm]
      simp [BW])
  (fun hI => by
    refine ⟨_, by simp only [EP]; rw [if_neg (by omega)], ?_⟩
    have hlen : (l.map toH).length = l.length := by simp
    rw [← hlen, List.take_length] at hI
    unfold okH
    rw [decide_eq_true hI.1, hI.2]; rfl)
 rw [h1, h2]
def FQ (l : List S55) : Prop := l.length ≤ 1000000 ∧ ∀ x ∈ l, x.fName.length ≤ 1000000 ∧ x.A6.length ≤ 1000000
theorem MX (l : List S55) (b : Str) (h : FQ l) : F27 l b = some (CP (l.map toH) b) := by
 unfold F27; rw [PU l h.1 h.2]; unfold CP; rw [LM]; cases okH (l.map toH) with
 | false => simp
 | true =>
  simp only [if_true, Option.bind_some, Sum.elim_inl, Kw, List.length_map, Bool.true_and]; by_cases h1 : (l.length : Int) ≤ 16
  ·rw [if_pos h1, decide_eq_true (p := l.length ≤ 16) (by omega), Bool.true_and]; congr 1; rw [decide_eq_decide]; omega
  ·rw [if_neg h1, decide_eq_false (p := l.length ≤ 16) (by omega)]; rfl
theorem Uk (l : List S55) (h : FQ l) : F44 l = some (Li (l.map toH)) := by
 unfold F44; rw [PV l h.1 h.2, LM]; cases okH (l.map toH) with
 | false => simp
 | true =>
  simp only [if_true, Option.bind_some, Sum.elim_inl, KA, List.length_map, Bool.true_and]; congr 1; rw [decide_eq_decide]; omega
theorem Ej (a b : List Str) : BF (a ++ b) = BF a ++ BF b := List.flatMap_append
theorem J1 (l : List Str) : l.length ≤ (BF l).length := by
 induction l with
 | nil => simp
 | cons x l ih =>
  rw [show BF (x :: l) = (x ++ [13, 10]) ++ BF l from rfl, List.length_append, List.length_append]; simp only [List.length_cons, List.length_nil]; omega
theorem PW (l : List Str) (h : (BF l).length ≤ 1000000000) : AY (fun (s : (List UInt8) × Int) => Dk l s.1 s.2) ([], 0) = some (BF l) := by
 have hlen : l.length ≤ 1000000000 := by
  have := J1 l; omega
 obtain ⟨r, h1, h2⟩ := FO (step := fun (s : (List UInt8) × Int) => Dk l s.1 s.2) (Post := fun y => y = BF l) l.length (fun i a => a = BF (l.take i)) (a := []) rfl
  (fun i a hi hI => by
    subst hI
    have ht := List.take_succ_eq_append_getElem hi
    have h3 : (BF (l.take (i + 1))).length ≤ (BF l).length := by
      conv => rhs; rw [← List.take_append_drop (i + 1) l, Ej]
      simp
    have e : BF (l.take (i + 1)) = BF (l.take i) ++ l[i] ++ [13, 10] := by
      rw [ht, Ej]; simp [BF]
    rw [e, List.length_append, List.length_append] at h3
    simp only [List.length_cons, List.length_nil] at h3
    refine .inl ⟨_, ?_, e.symm⟩
    simp only [Dk]
    rw [if_pos (by omega), Ab (by omega), Int.toNat_natCast, getD_some hi, Ab (by omega), Ab (by simp; omega), Cb (by omega)])
  (fun a hI => by
    subst hI
    refine ⟨_, by simp only [Dk]; rw [if_neg (by omega)], by rw [List.take_length]⟩)
 rw [h1, h2]
theorem PX (l : List Str) (h : (BF l).length ≤ 1000000000) : LG l = some (BF l) := by
 unfold LG; rw [PW l h]; rfl
theorem O9 (f : Str) (l : List Hd) (last : Str) (i : Nat) : (BF (f :: ((l.take i).map DI))).length ≤ (HE f l last).length := by
 unfold HE
 conv => rhs; rw [← List.take_append_drop i l, List.map_append, List.append_assoc, ← List.cons_append, Ej]
 simp
theorem Ul (f : Str) (l : List S55) (last : Str) (h : (HE f (l.map toH) last).length ≤ 1000000000) : LH f l last = some (HE f (l.map toH) last) := by
 have hl : l.length ≤ 1000000000 := by
  have := J1 (f :: ((l.map toH).map DI ++ [last, []])); unfold HE at h; simp only [List.length_cons, List.length_append, List.length_map, List.length_nil] at this; omega
 unfold LH; obtain ⟨r, h1, h2⟩ := FO (step := fun (s : (List (List UInt8)) × Int) => E0 l s.1 s.2) (Post := fun y => y = f :: (l.map toH).map DI) l.length (fun i a => a = f :: ((l.map toH).take i).map DI) (a := [f]) rfl
  (fun i a hi hI => by
    subst hI
    have hm : i < (l.map toH).length := by simpa using hi
    have ht := List.take_succ_eq_append_getElem hm
    have hx : (l.map toH)[i] = toH l[i] := by simp
    have h3 := O9 f (l.map toH) last (i + 1)
    rw [ht, hx] at h3
    have h4 : (DI (toH l[i])).length ≤ 1000000000 := by
      have e : BF (f :: (((l.map toH).take i ++ [toH l[i]]).map DI)) = BF (f :: ((l.map toH).take i).map DI) ++ (DI (toH l[i]) ++ [13, 10]) := by
        rw [List.map_append, ← List.cons_append, Ej]; simp [BF]
      rw [e] at h3
      simp at h3
      simp
      omega
    have eh : (l[i].fName ++ [58, 32]) ++ l[i].A6 = DI (toH l[i]) := by simp [DI, toH]
    have h5 : l[i].fName.length + l[i].A6.length + 2 ≤ 1000000000 := by
      rw [← eh] at h4; simp at h4; omega
    refine .inl ⟨f :: ((l.map toH).take (i + 1)).map DI, ?_, rfl⟩
    simp only [E0]
    rw [if_pos (by omega), Ab (by omega), Int.toNat_natCast, getD_some hi, Ab (by simp; omega), Ab (by simp; omega), Ab (by simp; omega), Cb (by omega), eh, ht, hx]
    simp)
  (fun a hI => by
    subst hI
    refine ⟨_, by simp only [E0]; rw [if_neg (by omega)], ?_⟩
    have : (l.map toH).take l.length = l.map toH := by rw [show l.length = (l.map toH).length by simp, List.take_length]
    rw [this])
 rw [h1, h2, Option.bind_some, Gq, Ab (by simp; omega)]; have e : (f :: (l.map toH).map DI) ++ [last, []] = f :: ((l.map toH).map DI ++ [last, []]) := rfl; rw [e, PX _ h]; rfl
theorem Gx (n : Nat) (h : n ≤ 1000000000) : F29 (n : Int) = some (Lib.decDigits n) := by
 unfold F29; rw [Ab (by omega)]; unfold Lib.itoa; rw [if_neg (by omega)]; simp
theorem Um (q : S42) (h1 : q.Ah.length ≤ 1000000) (h2 : q.Ax.length ≤ 1000000) (hl : FQ q.A9) (hb : q.Al.length ≤ 1000000) (ht : (Dm q.Ah q.Ax (q.A9.map toH) q.Al).length ≤ 1000000000) :
    F18 q = some (if (BS q.Ah && C_ q.Ax && CP (q.A9.map toH) q.Al) = true then (Dm q.Ah q.Ax (q.A9.map toH) q.Al, 0) else ([], 2)) := by
 unfold F18; rw [PO _ (by omega), Option.bind_some, PR _ (by omega), Option.bind_some, MX _ _ hl, Option.bind_some]; by_cases m1 : BS q.Ah = true
 case neg => rw [if_pos m1, Bool.eq_false_iff.2 m1]; rfl
 rw [if_neg (by simpa using m1), m1]; by_cases m2 : C_ q.Ax = true
 case neg => rw [if_pos m2, Bool.eq_false_iff.2 m2]; rfl
 rw [if_neg (by simpa using m2), m2]; by_cases m3 : CP (q.A9.map toH) q.Al = true
 case neg => rw [if_pos m3, Bool.eq_false_iff.2 m3]; rfl
 rw [if_neg (by simpa using m3), m3]; have hd := Gu (n := q.Al.length) (by omega); rw [Ab (by simp; omega), Ab (by simp; omega), Ab (by simp; omega), Ab (by simp; omega), Gx _ (by omega), Option.bind_some, Ab (by simp; omega)]; have e1 : (((q.Ah ++ [32]) ++ q.Ax) ++ [32]) ++ [72, 84, 84, 80, 47, 49, 46, 49] = q.Ah ++ 32 :: (q.Ax ++ 32 :: Dz) := by simp [Dz]
 have e2 : ([99, 111, 110, 116, 101, 110, 116, 45, 108, 101, 110, 103, 116, 104, 58, 32] : Str) ++ Lib.decDigits q.Al.length = PF q.Al.length := by simp [PF, CD]
 rw [e1, e2]; unfold Dm at ht ⊢; rw [List.length_append] at ht; rw [Ul _ _ _ (by omega), Option.bind_some, Ab (by omega)]; rfl
theorem Un (a b : List S55) (h : a.length ≤ 1000000) : F40 a b = some (decide (a = b)) := by
 unfold F40; by_cases hl : (a.length : Int) = b.length
 ·rw [if_neg (by simpa using hl)]; have hl' : a.length = b.length := by omega
  obtain ⟨r, h1, h2⟩ := F5 (step := fun (s : Int) => GW a b s) (Post := fun y => y = if a = b then .inl () else .inr false) a.length (fun i => a.take i = b.take i) (by simp)
   (fun i hi hI => by
     have hib : i < b.length := by omega
     simp only [GW]
     rw [if_pos (by omega), Ab (by omega), Ab (by omega), Int.toNat_natCast, getD_some hi, getD_some hib]
     by_cases q : a[i].fName = b[i].fName ∧ a[i].A6 = b[i].A6
     · have e : a[i] = b[i] := by
         generalize a[i] = x at q ⊢
         generalize b[i] = y at q ⊢
         cases x; cases y; simp at q; rw [q.1, q.2]
       rw [if_neg (by simpa using q), Cb (by omega)]
       exact .inl ⟨rfl, by rw [List.take_succ_eq_append_getElem hi, List.take_succ_eq_append_getElem hib, hI, e]⟩
     · rw [if_pos q]
       refine .inr ⟨_, rfl, ?_⟩
       rw [if_neg]
       rintro rfl
       exact q ⟨rfl, rfl⟩)
   (fun hI => by
     refine ⟨_, by simp only [GW]; rw [if_neg (by omega)], ?_⟩
     rw [List.take_length, hl', List.take_length] at hI
     rw [if_pos hI])
  rw [h1, h2]; by_cases e : a = b
  ·simp [e, KB]
  ·simp [e]
 ·rw [if_pos hl, decide_eq_false]
  rintro rfl
  exact hl rfl
theorem Uo (a b : S42) (h : a.A9.length ≤ 1000000) : F22 a b = some (decide (a = b)) := by
 obtain ⟨a1, a2, a3, a4⟩ := a; obtain ⟨b1, b2, b3, b4⟩ := b; unfold F22; simp only; rw [Un _ _ h, Option.bind_some]; by_cases h1 : a1 = b1 <;> by_cases h2 : a2 = b2 <;> by_cases h3 : a3 = b3 <;> by_cases h4 : a4 = b4 <;> simp [h1, h2, h3, h4]
def J2 (l : List S55) (b : Str) : Bool := decide (l.length ≤ 20) && decide (b.length ≤ 3000) && l.all fun x => decide (x.fName.length ≤ 300) && decide (x.A6.length ≤ 300)
theorem Uq (l : List S55) (b : Str) : F15 l b = some (J2 l b) := by
 unfold F15 J2; by_cases h1 : (20 : Int) < l.length
 ·rw [if_pos h1, decide_eq_false (by omega)]; rfl
 ·rw [if_neg h1, decide_eq_true (by omega)]; by_cases h2 : (3000 : Int) < b.length
  ·rw [if_pos h2, decide_eq_false (by omega)]; rfl
  ·rw [if_neg h2, decide_eq_true (by omega)]
   rw [CS l (fun x => decide (x.fName.length ≤ 300) && decide (x.A6.length ≤ 300)) (by omega)
     (fun i hi => by
       simp only [IX]
       rw [if_pos (by omega), Ab (by omega), Int.toNat_natCast, getD_some hi]
       by_cases q1 : (300 : Int) < l[i].fName.length
       · rw [if_pos q1, decide_eq_false (by omega)]; rfl
       · rw [if_neg q1, decide_eq_true (by omega)]
         by_cases q2 : (300 : Int) < l[i].A6.length
         · rw [if_pos q2, decide_eq_false (by omega)]; rfl
         · rw [if_neg q2, decide_eq_true (by omega)]; rfl)
     (by simp only [IX]; rw [if_neg (by omega)])]
   cases l.all (fun x => decide (x.fName.length ≤ 300) && decide (x.A6.length ≤ 300)) <;> simp [Kx]
theorem KK {l : List S55} {b : Str} (h : J2 l b = true) : FQ l ∧ l.length ≤ 20 ∧ b.length ≤ 3000 ∧ ∀ x ∈ l, x.fName.length ≤ 300 ∧ x.A6.length ≤ 300 := by
 simp only [J2, Bool.and_eq_true, decide_eq_true_eq, List.all_eq_true] at h; exact ⟨⟨by omega, fun x hx => by have := h.2 x hx; omega⟩, h.1.1, h.1.2, h.2⟩
end Go.Idl
namespace Go.Idl
open Go
theorem J3 : ∀ s : Str, Lib.index s [13, 10] = match Bg s with | some p => (p.1.length : Int) | none => -1
  | [] => by simp [Lib.index, Bg]
  | [x] => by
    unfold Lib.index
    simp [Lib.index, Bg, List.isPrefixOf]
  | x :: y :: s => by
    have ih := J3 (y :: s)
    unfold Lib.index
    rw [ih, Bg]
    by_cases h : x = 13 ∧ y = 10
    · rw [if_pos h]
      simp [List.isPrefixOf, h.1, h.2]
    · rw [if_neg h]
      have : ¬ (List.isPrefixOf [13, 10] (x :: y :: s)) = true := by
        simp only [List.isPrefixOf, Bool.and_true, Bool.and_eq_true, beq_iff_eq]
        rintro ⟨h1, h2⟩
        exact h ⟨h1.symm, h2.symm⟩
      rw [if_neg this]
      cases hc : Bg (y :: s) with
      | none => simp
      | some p =>
        have : ¬ ((p.1.length : Int) == -1) = true := by simp
        simp only [Option.map_some, List.length_cons]
        rw [if_neg this]
        simp
theorem Oa (s : Str) : IP s [13, 10] = match Bg s with | some p => (p.1, p.2, true) | none => (s, [], false) := by
 unfold IP; rw [J3]; cases h : Bg s with
 | none => simp
 | some p =>
  have hc := GP (a := p.1) (b := p.2) h; simp only; rw [if_pos (by omega), Int.toNat_natCast]
  conv => lhs; rw [hc]
  simp
abbrev rd (b : Str) : AE := ⟨⟨b⟩⟩
theorem FT (b : Str) (h : b.length ≤ 4294967280) : F64 (rd b) = some (match Bg b with | some p => .ok (p.1, rd p.2) | none => .error ()) := by
 unfold F64 F88; rw [Ab (by simp only; omega), Ab ⟨by simp, by simp⟩, Option.bind_some]; simp only; rw [Oa]; cases Bg b with
 | none => simp
 | some p => simp
theorem MY (b : Str) (n : Nat) (h : b.length ≤ 1000000000) : F91 (rd b) (n : Int) = some (if n ≤ b.length then .ok (b.take n, rd (b.drop n)) else .error ()) := by
 unfold F91; by_cases hn : n ≤ b.length
 ·simp only; rw [if_pos (by omega), Ab (by omega), Ab (by omega), Int.toNat_natCast, if_pos hn]; unfold TE; rw [Ab (by rw [List.length_take]; omega)]; rfl
 ·simp only; rw [if_neg (by omega), if_neg hn]
theorem Fa : ∀ (m : List Hd) (n : Str), BU m n = Fe m n
  | [], n => rfl
  | x :: m, n => by
    have ih := Fa m n
    unfold BU
    unfold Fe at ih ⊢
    rw [List.find?_cons]
    by_cases h : x.1 = n
    · rw [if_pos h]; simp [h]
    · rw [if_neg h, ih]; simp [h]
theorem LN (m : List Hd) (n : Str) : (m.any fun y => decide (y.1 = n)) = (BU m n).isSome := by
 rw [Fa]; unfold Fe; rw [Option.isSome_map, Bool.eq_iff_iff, List.find?_isSome]; simp
theorem LO : ∀ {m : List Hd} {k v : Str}, BU m k = none → Mi m k v = m ++ [(k, v)]
  | [], _, _, _ => rfl
  | p :: m, k, v, h => by
    unfold BU at h
    unfold Mi
    split at h
    · cases h
    · rename_i e
      rw [if_neg e, LO h]
      rfl
theorem LP (s : Str) : (trimS s).length ≤ s.length := by
 obtain ⟨a, m, b, e, h1, h2, h3, h4⟩ := I_ Bu s; rw [e, IA a b m h1 h2 h3 h4]; simp; omega
theorem JU (m : List Hd) (s : Str) : EE m s = (Ca s 58).bind fun p => if BK p.1 = true ∧ Bz (trimS p.2) = true ∧ ¬ (BU m (Cn p.1)).isSome = true then some (Cn p.1, trimS p.2) else none := by
 unfold EE Fo; cases Ca s 58 with
 | none => rfl
 | some p =>
  simp only [Option.bind_some]; by_cases h1 : BK p.1 = true <;> by_cases h2 : Bz (trimS p.2) = true <;> simp only [h1, h2, Bool.and_true, Bool.true_and, Bool.and_false, Bool.false_and, if_true, if_false, Option.bind_some, Option.bind_none, LN, true_and, false_and, Bool.false_eq_true]; by_cases h3 : (BU m (Cn p.1)).isSome = true
  ·simp [h3]
  ·rw [if_neg h3, if_pos h3]
def Dr (m : List Hd) (v r : Str) : Option (List Hd × Str) := if v = [] then some (m, r) else (EE m v).bind fun x => CM (m ++ [x]) r
theorem LQ (m : List Hd) (s : Str) : CM m s = (Bg s).bind fun p => Dr m p.1 p.2 := CN m s
theorem Ur (s : Str) (h : s.length ≤ 1000000) : F89 s [58] = some (match Ca s 58 with | some p => (p.1, p.2, true) | none => (s, [], false)) := by
 unfold F89; rw [Ab (by omega), QS]; cases Ca s 58 <;> rfl
abbrev E65 := (AE × List Hd) ⊕ (Except Unit (List Hd × AE))
def PY (x : Option (List Hd × Str)) : E65 := match x with | some q => .inl (rd q.2, q.1) | none => .inr (.error ())
theorem Np (v r : Str) (m : List Hd) (hv : v.length ≤ 1000000) (hr : r.length ≤ 1000000) (h0 : ¬ v = []) :
    EN v (rd r) m = some (match EE m v with | none => .inr (.inr (.error ())) | some x => match Bg r with | none => .inr (.inr (.error ())) | some p => .inl (p.1, rd p.2, m ++ [x])) := by
 unfold EN; rw [if_pos h0, Ur v hv, Option.bind_some, JU]; cases hc : Ca v 58 with
 | none =>
  simp only [Option.bind_none]; rw [Sg _ (by simp), Option.bind_some, GZ _ hv, Option.bind_some]; simp
 | some p =>
  have hl := Ga (a := p.1) (b := p.2) hc; have ht := LP p.2; simp only [Option.bind_some]; rw [Sg _ (by omega), Option.bind_some, GZ _ (by omega), Option.bind_some, if_pos trivial, PK _ (by omega), Option.bind_some]; by_cases h1 : BK p.1 = true
  case neg => simp [h1]
  rw [if_pos h1, PT _ (by omega), Option.bind_some]; by_cases h2 : Bz (trimS p.2) = true
  case neg => simp [h2]
  rw [if_pos h2]; by_cases h3 : (BU m (Cn p.1)).isSome = true
  case pos =>
   rw [if_neg (fun q => q h3)]; simp [h3]
  rw [if_pos h3, Option.bind_some, if_pos ⟨h1, h2, h3⟩, FT _ (by omega), Option.bind_some]; have hm : BU m (Cn p.1) = none := by simpa using h3
  cases Bg r with
  | none => rfl
  | some q =>
   simp only [orP]; rw [LO hm]
theorem PZ : ∀ (k : Nat) (r v : Str) (m : List Hd), r.length ≤ k → v.length ≤ 1000000 → r.length ≤ 1000000 → AY (fun (s : (List UInt8) × AE × (List (List UInt8 × (List UInt8)))) => EN s.1 s.2.1 s.2.2) (v, rd r, m) = some (PY (Dr m v r)) := by
 have done : ∀ (r : Str) (m : List Hd), AY (fun (s : (List UInt8) × AE × (List (List UInt8 × (List UInt8)))) => EN s.1 s.2.1 s.2.2) ([], rd r, m) = some (PY (Dr m [] r)) := fun r m => by
  refine B3 ?_; simp only [EN]; rw [if_neg (by simp)]; simp [Dr, PY]
 intro k
 induction k with
 | zero =>
  intro r v m hk hv hr; by_cases h0 : v = []
  ·subst h0; exact done r m
  ·have : r = [] := List.length_eq_zero_iff.1 (by omega); subst this; refine B3 ?_; simp only; rw [Np v [] m hv hr h0, Dr, if_neg h0]; cases EE m v with
   | none => rfl
   | some x =>
    simp only [Option.bind_some]; rw [CN]; rfl
 | succ k ih =>
  intro r v m hk hv hr; by_cases h0 : v = []
  ·subst h0; exact done r m
  ·cases hT : EE m v with
   | none =>
    refine B3 ?_; simp only; rw [Np v r m hv hr h0, Dr, if_neg h0, hT]; rfl
   | some x =>
    cases hL : Bg r with
    | none =>
     refine B3 ?_; simp only; rw [Np v r m hv hr h0, Dr, if_neg h0, hT, hL]; simp only [Option.bind_some]; rw [CN, hL]; rfl
    | some p =>
     have hl := Bv (a := p.1) (b := p.2) hL; rw [CL (s' := (p.1, rd p.2, m ++ [x])) (by simp only; rw [Np v r m hv hr h0, hT, hL]), ih _ _ _ (by omega) (by omega) (by omega)]; rw [Dr, Dr, if_neg h0, hT, Option.bind_some, LQ, hL, Option.bind_some, Dr]
theorem P_ (b : Str) (h : b.length ≤ 1000000) : F65 (rd b) = some (match CM [] b with | some q => .ok (q.1, rd q.2) | none => .error ()) := by
 unfold F65; rw [FT b (by omega), Option.bind_some, LQ]; cases hL : Bg b with
 | none => rfl
 | some p =>
  have hl := Bv (a := p.1) (b := p.2) hL; simp only [orP, Option.bind_some]; rw [PZ p.2.length p.2 p.1 [] (Nat.le_refl _) (by omega) (by omega)]; cases Dr [] p.1 p.2 with
  | none => rfl
  | some q => rfl
end Go.Idl
namespace Go.Idl
open Go
def ES : Str := [48, 49, 50, 51, 52, 53, 54, 55, 56, 57, 97, 98, 99, 100, 101, 102, 65, 66, 67, 68, 69, 70]
theorem Q0 : ∀ x : Fin 256, ES.contains (UInt8.ofNat x.1) = (Ee (UInt8.ofNat x.1)).isSome := by decide +kernel
theorem Ru (x : UInt8) : ES.contains x = (Ee x).isSome := by
 have := Q0 ⟨x.toNat, x.toNat_lt⟩; simpa only [UInt8.ofNat_toNat] using this
theorem JV : ∀ (s : Str) (n : Nat), (Jf n s).isSome = true ↔ ∀ x ∈ s, (Ee x).isSome = true
  | [], n => by simp [Jf]
  | x :: s, n => by
    rw [Jf]
    cases h : Ee x with
    | none => simp [h]
    | some d => simp [h, JV s]
theorem Nq {x : UInt8} {d : Nat} (h : Ee x = some d) : d < 16 := by
 unfold Ee at h; have := x.toNat_lt; split at h
 ·cases h; omega
 ·split at h
  ·cases h; omega
  ·split at h
   ·cases h; omega
   ·cases h
theorem Nr : ∀ (s : Str) (n : Nat), (n + 1) * 16 ^ s.length ≤ 4294967296 → puG n s = match Jf n s with | some m => (m, 0) | none => (0, 2)
  | [], n, _ => rfl
  | x :: s, n, h => by
    rw [puG, Jf]
    cases hx : Ee x with
    | none => rfl
    | some d =>
      have hd := Nq hx
      simp only [Option.bind_some]
      rw [List.length_cons, Nat.pow_succ] at h
      have h1 : 1 ≤ 16 ^ s.length := Nat.pos_of_ne_zero (by simp)
      have h2 : (16 * n + d + 1) * 16 ^ s.length ≤ 4294967296 := by
        refine Nat.le_trans (Nat.mul_le_mul_right _ (show 16 * n + d + 1 ≤ (n + 1) * 16 by omega)) ?_
        rw [Nat.mul_assoc, Nat.mul_comm 16]; exact h
      have h3 : 16 * n + d + 1 ≤ 4294967296 := Nat.le_trans (Nat.le_mul_of_pos_right _ (by omega)) h2
      rw [if_neg (by omega)]
      exact Nr s _ h2
theorem Rv (s : Str) (h1 : 1 ≤ s.length) (h2 : s.length ≤ 5) : puS s = match FI s with | some m => (m, 0) | none => (0, 2) := by
 unfold puS FI; rw [if_neg (by rintro rfl; simp at h1), if_pos ⟨h1, h2⟩]; refine Nr s 0 ?_; have : 16 ^ s.length ≤ 16 ^ 5 := Nat.pow_le_pow_right (by omega) h2; simp only [Nat.zero_add, Nat.one_mul]; omega
theorem Rw (s : Str) (h : s.length ≤ 1000000) : F80 s ES = some (Lib.trimS s ES) := by
 unfold F80; rw [Ab (by omega), Ab ⟨by simp [ES], by decide⟩]
theorem Q1 {s : Str} (h : ∀ x ∈ s, (Ee x).isSome = true) : Lib.trimS s ES = [] := by
 have := HU ES s [] [] (fun x hx => by rw [Ru]; exact h x hx) (by simp) (by simp) (by simp); simpa using this
theorem Ns : ∀ (s : Str) (n m : Nat), Jf n s = some m → m < (n + 1) * 16 ^ s.length
  | [], n, m, h => by simp [Jf] at h; subst h; simp
  | x :: s, n, m, h => by
    rw [Jf] at h
    obtain ⟨d, h1, h2⟩ := Option.bind_eq_some_iff.1 h
    have hd := Nq h1
    have := Ns s _ _ h2
    rw [List.length_cons, Nat.pow_succ]
    refine Nat.lt_of_lt_of_le this ?_
    rw [show (n + 1) * (16 ^ s.length * 16) = ((n + 1) * 16) * 16 ^ s.length by rw [Nat.mul_assoc, Nat.mul_comm 16]]
    exact Nat.mul_le_mul_right _ (by omega)
theorem Rx {s : Str} {m : Nat} (h : FI s = some m) : m < 1048576 ∧ 1 ≤ s.length ∧ s.length ≤ 5 := by
 unfold FI at h; split at h
 ·rename_i hl; have := Ns s 0 m h; have h5 : 16 ^ s.length ≤ 16 ^ 5 := Nat.pow_le_pow_right (by omega) hl.2; omega
 ·cases h
theorem WG (acc s : Str) (ha : acc.length + s.length ≤ 1000000) : EO acc (rd s) = some (match Bg s with
    | none => .inr (.error ())
    | some p => match FI p.1 with
      | none => .inr (.error ())
      | some n => if n = 0 then (if p.1 = [48] then (match Bg p.2 with | none => .inr (.error ()) | some q => if q.1 = [] then .inr (.ok (acc, rd q.2)) else .inr (.error ())) else .inr (.error ()))
        else if n ≤ p.2.length then (match Bg (p.2.drop n) with | none => .inr (.error ()) | some q => if q.1 = [] then .inl (acc ++ p.2.take n, rd q.2) else .inr (.error ())) else .inr (.error ())) := by
  unfold EO
  rw [FT s (by omega), Option.bind_some]
  cases hL : Bg s with
  | none => rfl
  | some p =>
    have hl := Bv (a := p.1) (b := p.2) hL
    simp only [orP]
    unfold TH
    rw [Ab ⟨rfl, rfl⟩, Ab (by omega), Option.bind_some]
    by_cases h1 : (1 : Int) ≤ p.1.length
    case neg =>
      have hn : FI p.1 = none := by unfold FI; rw [if_neg (by omega)]
      rw [hn]
      simp only
      by_cases q : decide (¬ (puS p.1).2 = 0) = true
      · rw [if_neg (by simpa using q)]
      · rw [if_pos q, if_neg h1]
    by_cases h2 : (p.1.length : Int) ≤ 5
    case neg =>
      have hn : FI p.1 = none := by unfold FI; rw [if_neg (by omega)]
      rw [hn]
      simp only
      by_cases q : decide (¬ (puS p.1).2 = 0) = true
      · rw [if_neg (by simpa using q)]
      · rw [if_pos q, if_pos h1, if_neg h2]
    rw [Rv p.1 (by omega) (by omega)]
    cases hn : FI p.1 with
    | none => simp
    | some n =>
      have hlt := Rx hn
      have hall : ∀ x ∈ p.1, (Ee x).isSome = true := by
        unfold FI at hn
        rw [if_pos (by omega)] at hn
        exact (JV _ _).1 (by rw [hn]; rfl)
      simp only
      rw [if_pos (by simp), if_pos h1, if_pos h2, show ([48, 49, 50, 51, 52, 53, 54, 55, 56, 57, 97, 98, 99, 100, 101, 102, 65, 66, 67, 68, 69, 70] : Str) = ES from rfl, Rw _ (by omega), Q1 hall, Option.bind_some, if_pos rfl]
      by_cases h0 : n = 0
      · rw [if_pos (by omega), if_pos h0]
        by_cases h48 : p.1 = [48]
        · rw [if_pos h48, if_pos h48, FT p.2 (by omega), Option.bind_some]
          cases Bg p.2 with
          | none => rfl
          | some q =>
            simp only
            split <;> rfl
        · rw [if_neg h48, if_neg h48]
      · rw [if_neg (by omega), if_neg h0, wrap_i64 (by omega) (by omega), MY p.2 n (by omega), Option.bind_some]
        by_cases hle : n ≤ p.2.length
        · rw [if_pos hle, if_pos hle]
          simp only
          rw [Ab (by rw [List.length_take]; omega), FT _ (by rw [List.length_drop]; omega), Option.bind_some]
          cases Bg (p.2.drop n) with
          | none => rfl
          | some q =>
            simp only
            split <;> rfl
        · rw [if_neg hle, if_neg hle]
theorem Q2 : ∀ (k : Nat) (s acc : Str), s.length ≤ k → acc.length + s.length ≤ 1000000 → AY (fun (s : (List UInt8) × AE) => EO s.1 s.2) (acc, rd s) = some (match CA acc s with | some q => .ok (q.1, rd q.2) | none => .error ()) := by
 have one : ∀ (s acc : Str), acc.length + s.length ≤ 1000000 → (∀ (acc' s' : Str), s'.length + 2 ≤ s.length → acc'.length + s'.length ≤ 1000000 → AY (fun (s : (List UInt8) × AE) => EO s.1 s.2) (acc', rd s') = some (match CA acc' s' with | some q => .ok (q.1, rd q.2) | none => .error ())) →
  AY (fun (s : (List UInt8) × AE) => EO s.1 s.2) (acc, rd s) = some (match CA acc s with | some q => .ok (q.1, rd q.2) | none => .error ()) := by
  intro s acc ha ih; have hb := WG acc s ha; rw [FJ]; cases hL : Bg s with
  | none =>
   rw [hL] at hb; exact B3 hb
  | some p =>
   have hl := Bv (a := p.1) (b := p.2) hL; rw [hL] at hb; simp only [Option.bind_some] at hb ⊢; cases hn : FI p.1 with
   | none =>
    rw [hn] at hb; exact B3 hb
   | some n =>
    rw [hn] at hb; simp only [Option.bind_some] at hb ⊢; by_cases h0 : n = 0
    ·rw [if_pos h0] at hb ⊢; by_cases h48 : p.1 = [48]
     ·rw [if_pos h48] at hb ⊢; cases hL2 : Bg p.2 with
      | none => rw [hL2] at hb; exact B3 hb
      | some q =>
       rw [hL2] at hb; simp only [Option.bind_some] at hb ⊢; by_cases hq : q.1 = []
       ·rw [if_pos hq] at hb ⊢; exact B3 hb
       ·rw [if_neg hq] at hb ⊢; exact B3 hb
     ·rw [if_neg h48] at hb ⊢; exact B3 hb
    ·rw [if_neg h0] at hb ⊢; by_cases hle : n ≤ p.2.length
     ·rw [if_pos hle] at hb ⊢; cases hL2 : Bg (p.2.drop n) with
      | none => rw [hL2] at hb; exact B3 hb
      | some q =>
       have hl2 := Bv (a := q.1) (b := q.2) hL2; rw [List.length_drop] at hl2; rw [hL2] at hb; simp only [Option.bind_some] at hb ⊢; by_cases hq : q.1 = []
       ·rw [if_pos hq] at hb ⊢; have h5 : (acc ++ p.2.take n).length + q.2.length ≤ 1000000 := by rw [List.length_append, List.length_take]; omega
        have h6 := ih (acc ++ p.2.take n) q.2 (by omega) h5; rw [← h6]; exact CL (s' := (acc ++ p.2.take n, rd q.2)) hb
       ·rw [if_neg hq] at hb ⊢; exact B3 hb
     ·rw [if_neg hle] at hb ⊢; exact B3 hb
 intro k
 induction k with
 | zero => intro s acc hk ha; exact one s acc ha fun acc' s' h _ => by omega
 | succ k ih => intro s acc hk ha; exact one s acc ha fun acc' s' h h2 => ih s' acc' (by omega) h2
theorem Us (s : Str) (h : s.length ≤ 1000000) : F90 (rd s) = some (match CA [] s with | some q => .ok (q.1, rd q.2) | none => .error ()) := by
 unfold F90; rw [Q2 s.length s [] (Nat.le_refl _) (by simpa using h)]; rfl
theorem DJ : ∀ {m : List Hd} {n : Str}, BX m → Cd m n = m.filter fun h => decide (h.1 ≠ n)
  | [], _, _ => rfl
  | x :: m, n, h => by
    rw [BX, List.pairwise_cons] at h
    unfold Cd
    rw [List.filter_cons]
    by_cases e : x.1 = n
    · rw [if_pos e, if_neg (by simpa using e)]
      symm
      refine List.filter_eq_self.2 fun y hy => ?_
      have := h.1 y hy
      simp only [decide_eq_true_eq]
      rw [← e]; exact Ne.symm this
    · rw [if_neg e, if_pos (by simpa using e), DJ h.2]
theorem Q3 {m : List Hd} (h : BX m) : Cd (Cd m CD) ED = D7 m := by
 have h2 : BX (Cd m CD) := by rw [DJ h]; exact List.Pairwise.filter _ h
 rw [DJ h2, DJ h, List.filter_filter]; unfold D7; congr 1; funext x; rw [Bool.and_comm]
theorem Q4 (n : Str) (h : ¬ (C9 n).2 = true) : (C9 n).1 ≤ 9223372036854775807 := by
 unfold C9 at h ⊢; cases hA : Lib.atoiAll n with
 | ok v =>
  simp only; unfold Lib.atoiAll at hA; split at hA
  ·cases hA
  ·simp only at hA; split at hA
   ·cases hA
   ·cases hA
   ·split at hA
    ·cases hA
    ·split at hA
     ·cases hA
     ·simp only [Lib.NumEnd.ok.injEq] at hA; rw [← hA]; split <;> omega
 | range => rw [hA] at h; simp at h
 | _ => rw [hA] at h; simp at h
theorem Ob (n : Str) (b : Str) (hn : n.length ≤ 1000000) (hb : b.length ≤ 1000000) {α : Type} (g : Str × AE → α) (e0 : α) :
    ((F33 n).bind fun (x21 : Int × Bool) => if ¬ x21.2 = true then (if 0 ≤ x21.1 then ((F29 x21.1).bind fun (x23 : (List UInt8)) => if x23 = n then ((F91 (rd b) x21.1).bind fun (x26 : Except Unit ((List UInt8) × AE)) => orP x26 (fun _ => some e0) (fun y => some (g y))) else (some e0)) else (some e0)) else (some e0)) =
    some (match (IB n).bind fun k => if k ≤ b.length then some (b.take k, b.drop k) else none with | some q => g (q.1, rd q.2) | none => e0) := by
 unfold F33; rw [Ab (by omega), Option.bind_some]; cases hN : IB n with
 | some k =>
  obtain ⟨hk, rfl⟩ := JF.1 hN; rw [Le k (by omega)]; simp only [Option.bind_some]; rw [if_pos (by simp), if_pos (by omega), Gx k hk, Option.bind_some, if_pos rfl, MY b k (by omega), Option.bind_some]; by_cases hle : k ≤ b.length
  ·rw [if_pos hle, if_pos hle]; rfl
  ·rw [if_neg hle, if_neg hle]; rfl
 | none =>
  simp only [Option.bind_none]; by_cases h1 : (C9 n).2 = true
  ·rw [if_neg (by simpa using h1)]
  ·rw [if_pos h1]; by_cases h2 : 0 ≤ (C9 n).1
   ·rw [if_pos h2]; obtain ⟨v, hv⟩ : ∃ v : Nat, (C9 n).1 = (v : Int) := ⟨(C9 n).1.toNat, by omega⟩; rw [hv]; by_cases hsm : v ≤ 1000000000
    ·rw [Gx v hsm, Option.bind_some, if_neg]; intro e; rw [← e, EF hsm] at hN; cases hN
    ·unfold F29; by_cases hmax : (v : Int) ≤ 9223372036854775807
     ·rw [Ab ⟨by omega, hmax⟩, Option.bind_some]; by_cases e : Lib.itoa (v : Int) = n
      ·rw [if_pos e, MY b v (by omega), Option.bind_some, if_neg (by omega)]; rfl
      ·rw [if_neg e]
     ·exfalso; exact hmax (by rw [← hv]; exact Q4 n h1)
   ·rw [if_neg h2]
end Go.Idl
namespace Go.Idl
open Go
set_option maxRecDepth 100000
abbrev E66 := Except Unit (Str × AE × List Hd)
def J4 (m : List Hd) (x : Option (Str × Str)) : E66 := match x with | some q => .ok (q.1, rd q.2, D7 m) | none => .error ()
theorem Q5 (b : Str) (m : List Hd) (hb : b.length ≤ 1000000) (hm : BX m) (hv : ∀ x ∈ m, x.2.length ≤ 1000000) : F66 (rd b) m = some (J4 m (DH m b)) := by
 have hget : ∀ n v, Fe m n = some v → v.length ≤ 1000000 := fun n v h => by
  unfold Fe at h; obtain ⟨x, h1, rfl⟩ := Option.map_eq_some_iff.1 h; exact hv x (List.mem_of_find?_eq_some h1)
 have hown : Cd (Cd m ([99, 111, 110, 116, 101, 110, 116, 45, 108, 101, 110, 103, 116, 104] : Str)) ([116, 114, 97, 110, 115, 102, 101, 114, 45, 101, 110, 99, 111, 100, 105, 110, 103] : Str) = D7 m := Q3 hm; have g1 : BU m ([99, 111, 110, 116, 101, 110, 116, 45, 108, 101, 110, 103, 116, 104] : Str) = Fe m CD := Fa m CD; have g2 : BU m ([116, 114, 97, 110, 115, 102, 101, 114, 45, 101, 110, 99, 111, 100, 105, 110, 103] : Str) = Fe m ED := Fa m ED; unfold F66 DH; rw [hown, g1, g2]; cases hl : Fe m CD with
 | none =>
  cases he : Fe m ED with
  | none =>
   simp [J4]
  | some c =>
   have hc := hget _ _ he; simp only [Option.isSome_none, Option.isSome_some, Option.getD_some, Bool.false_eq_true, not_false_eq_true, if_true]; rw [GZ _ hc, Option.bind_some]; by_cases h1 : Cn c = P5
   ·rw [if_pos (show c.map Cf = [99, 104, 117, 110, 107, 101, 100] from h1), if_pos h1, Us b hb, Option.bind_some]; cases CA [] b with
    | none => rfl
    | some q => rfl
   ·rw [if_neg (show ¬ c.map Cf = [99, 104, 117, 110, 107, 101, 100] from h1), if_neg h1]; rfl
 | some n =>
  have hn := hget _ _ hl; cases he : Fe m ED with
  | some c => simp [J4]
  | none =>
   simp only [Option.isSome_none, Option.isSome_some, Option.getD_some, Bool.false_eq_true, not_true_eq_false, not_false_eq_true, if_true, if_false]; have := Ob n b hn hb (fun y => (.ok (y.1, y.2, D7 m) : E66)) (.error ()); rw [this]; cases (IB n).bind fun k => if k ≤ b.length then some (b.take k, b.drop k) else none with
   | none => rfl
   | some q => rfl
theorem J5 {m : List Hd} (h : BX m) : BX (D7 m) := List.Pairwise.filter _ h
theorem JW (l : List Hd) : (BZ l).length = l.length := by
 have key : ∀ (l a : List Hd), (l.foldl Ff a).length = a.length + l.length := by
  intro l
  induction l with
  | nil => intro a; rfl
  | cons h l ih =>
   intro a; have hins : ∀ a : List Hd, (Ff a h).length = a.length + 1 := by
    intro a
    induction a with
    | nil => rfl
    | cons y a ih => simp only [Ff]; split <;> simp [ih]
   rw [List.foldl_cons, ih, hins, List.length_cons]; omega
 rw [BZ, key]; simp
theorem Q6 (m : List Hd) (hl : m.length ≤ 1000000) (h : BX m) : F67 m = some ((BZ m).map toS) := by
 unfold F67; rw [Ab hl, Ab h]
theorem Oc : ∀ (k : Nat) (s : Str) (acc : List Hd) (l : List Hd) (r : Str), s.length ≤ k → BX acc → CM acc s = some (l, r) →
    BX l ∧ l.length ≤ acc.length + s.length ∧ r.length ≤ s.length ∧ ∀ x ∈ l, x ∈ acc ∨ (BK x.1 = true ∧ Cn x.1 = x.1 ∧ Bz x.2 = true ∧ x.1.length + x.2.length ≤ s.length) := by
 intro k
 induction k with
 | zero =>
  intro s acc l r hk ha h; rw [List.length_eq_zero_iff.1 (Nat.le_zero.1 hk), CN] at h; cases h
 | succ k ih =>
  intro s acc l r hk ha h; rw [CN] at h; obtain ⟨p, h1, h⟩ := Option.bind_eq_some_iff.1 h; have hl := Bv (a := p.1) (b := p.2) h1; split at h
  ·cases h; exact ⟨ha, by omega, by omega, fun x hx => .inl hx⟩
  ·obtain ⟨x, h2, h⟩ := Option.bind_eq_some_iff.1 h; rw [JU] at h2; obtain ⟨q, h3, h2⟩ := Option.bind_eq_some_iff.1 h2; split at h2
   ·rename_i hc; cases h2; have hq := Ga (a := q.1) (b := q.2) h3; have ht := LP q.2; have hnew : BX (acc ++ [(Cn q.1, trimS q.2)]) := by
     rw [BX, List.pairwise_append]; refine ⟨ha, by simp, fun y hy z hz => ?_⟩; rw [List.mem_singleton.1 hz]; intro e; refine hc.2.2 ?_; rw [← LN]; exact List.any_eq_true.2 ⟨y, hy, by simpa using e⟩
    obtain ⟨r1, r2, r3, r4⟩ := ih p.2 _ l r (by omega) hnew h; refine ⟨r1, by simp at r2; omega, by omega, fun y hy => ?_⟩; rcases r4 y hy with h5 | ⟨h5, h6, h7, h8⟩
    ·rcases List.mem_append.1 h5 with h5 | h5
     ·exact .inl h5
     ·rw [List.mem_singleton.1 h5]; refine .inr ⟨by rw [F1]; exact hc.1, Lg _, hc.2.1, ?_⟩; simp only [Cn, List.length_map]; omega
    ·exact .inr ⟨h5, h6, h7, by omega⟩
   ·cases h2
theorem J6 {s : Str} {l : List Hd} {r : Str} (h : CM [] s = some (l, r)) : BX l ∧ l.length ≤ s.length ∧ r.length ≤ s.length ∧ ∀ x ∈ l, BK x.1 = true ∧ Cn x.1 = x.1 ∧ Bz x.2 = true ∧ x.1.length + x.2.length ≤ s.length := by
 obtain ⟨h1, h2, h3, h4⟩ := Oc s.length s [] l r (Nat.le_refl _) List.Pairwise.nil h; exact ⟨h1, by simpa using h2, h3, fun x hx => (h4 x hx).resolve_left (by simp)⟩
theorem J7 {m : List Hd} {s b r : Str} (h : DH m s = some (b, r)) (k : Nat) (hk : s.length ≤ k) : b.length ≤ k ∧ r.length ≤ k := by
 have chunk : ∀ (k : Nat) (s acc b r : Str), s.length ≤ k → CA acc s = some (b, r) → b.length ≤ acc.length + s.length ∧ r.length ≤ s.length := by
  intro k
  induction k with
  | zero =>
   intro s acc b r hk h; rw [List.length_eq_zero_iff.1 (Nat.le_zero.1 hk), FJ] at h; cases h
  | succ k ih =>
   intro s acc b r hk h; rw [FJ] at h; obtain ⟨p, h1, h⟩ := Option.bind_eq_some_iff.1 h; have hl := Bv (a := p.1) (b := p.2) h1; obtain ⟨n, h2, h⟩ := Option.bind_eq_some_iff.1 h; split at h
   ·split at h
    ·obtain ⟨q, h3, h⟩ := Option.bind_eq_some_iff.1 h; have hl2 := Bv (a := q.1) (b := q.2) h3; split at h
     ·cases h; omega
     ·cases h
    ·cases h
   ·split at h
    ·obtain ⟨q, h3, h⟩ := Option.bind_eq_some_iff.1 h; have hl2 := Bv (a := q.1) (b := q.2) h3; rw [List.length_drop] at hl2; split at h
     ·have := ih q.2 _ b r (by omega) h; rw [List.length_append, List.length_take] at this; omega
     ·cases h
    ·cases h
 unfold DH at h; split at h
 ·cases h
 ·split at h
  ·have := chunk s.length s [] b r (Nat.le_refl _) h; simp only [List.length_nil] at this; omega
  ·cases h
 ·cases h; simp; omega
 ·obtain ⟨j, h1, h⟩ := Option.bind_eq_some_iff.1 h; split at h
  ·cases h; rw [List.length_take, List.length_drop]; omega
  ·cases h
theorem Q7 (n : Int) : F26 n = some (decide (100 ≤ n ∧ n ≤ 599)) := by
 unfold F26; by_cases h : 100 ≤ n
 ·rw [if_pos h]; congr 1; rw [decide_eq_decide]; omega
 ·rw [if_neg h, decide_eq_false (by omega)]
theorem Ut (s p : Str) (h : s.length ≤ 1000000) (hp : p.length ≤ 1000) : F31 s p = some (if s.take p.length = p ∧ p.length ≤ s.length then (s.drop p.length, true) else (s, false)) := by
 unfold F31 F60 F82; by_cases h1 : p.length ≤ s.length
 ·rw [if_pos (by omega), Ab (by omega), Ab (by omega), Option.bind_some, Int.toNat_natCast]; by_cases h2 : s.take p.length = p
  ·rw [if_neg (by simpa using h2), Ab (by omega), Ab (by omega), if_pos ⟨h2, h1⟩]; rfl
  ·rw [if_pos (by simpa using h2), if_neg (fun q => h2 q.1)]; rfl
 ·rw [if_neg (by omega), Option.bind_some, if_pos (by simp), if_neg (fun q => h1 q.2)]; rfl
theorem Uu (s : Str) (h : s.length ≤ 1000000) : F30 s = some (match Eh s with | some n => .ok ⟨(n : Int), [], []⟩ | none => .error ()) := by
 unfold F30; rw [Ut s _ h (by simp), Option.bind_some]; have hp : ([72, 84, 84, 80, 47, 49, 46, 49, 32] : Str) = Dz ++ [32] := rfl; rw [hp]; have hl9 : (Dz ++ [32]).length = 9 := rfl; rw [hl9]; unfold Eh; by_cases h1 : s.take 9 = Dz ++ [32]
 case neg =>
  have hc : ¬ (s.take 9 = Dz ++ [32] ∧ 9 ≤ s.length) := fun q => h1 q.1; have hd : ¬ (s.take 9 = Dz ++ [32] ∧ 12 ≤ s.length) := fun q => h1 q.1; simp only [if_neg hc, if_neg hd, Bool.false_eq_true, if_false]
 have h9 : 9 ≤ s.length := by
  have := congrArg List.length h1; rw [List.length_take, hl9] at this; omega
 simp only [if_pos (show s.take 9 = Dz ++ [32] ∧ 9 ≤ s.length from ⟨h1, h9⟩), if_true]; by_cases h2 : 12 ≤ s.length
 case neg => rw [if_neg (by rw [List.length_drop]; omega), if_neg (fun q => h2 q.2)]
 rw [if_pos (by rw [List.length_drop]; omega), if_pos ⟨h1, h2⟩, Ab (by omega), Ab (by rw [List.length_drop]; omega)]; rw [List.drop_drop]; generalize hT : (s.drop 9).take 3 = T; have hTl : T.length = 3 := by rw [← hT, List.length_take, List.length_drop]; omega
 generalize hR : s.drop (9 + 3) = R; have hRl : R.length ≤ 1000000 := by rw [← hR, List.length_drop]; omega
 unfold F33; rw [Ab (by omega), Option.bind_some]; have tail : ∀ n : Nat, (if R = [] then (some ((.ok (⟨(n : Int), [], []⟩ : S25) : Except Unit S25))) else (gd (0 < R.length) (if (((R.getD 0 0).toNat : Int)) = 32 then ((JN R).bind fun (x16 : Bool) => if x16 = true then (some ((.ok (⟨(n : Int), [], []⟩ : S25)))) else (some (.error ()))) else (some (.error ()))))) = some (if Nn R = true then .ok ⟨(n : Int), [], []⟩ else .error ()) := by
  intro n; unfold Nn; by_cases h3 : R = []
  ·rw [if_pos h3]; simp [h3]
  ·have : 0 < R.length := List.length_pos_iff.2 h3; rw [if_neg h3, Ab this, PN R (by omega)]; by_cases h4 : R.getD 0 0 = 32
   ·rw [if_pos (G_.2 h4), Option.bind_some, decide_eq_false h3, decide_eq_true h4]; cases Bw 32 126 R <;> rfl
   ·rw [if_neg (fun q => h4 (G_.1 q)), decide_eq_false h3, decide_eq_false h4]; rfl
 cases hN : IB T with
 | some k =>
  obtain ⟨hk, rfl⟩ := JF.1 hN; rw [Le k (by omega)]; simp only [Bool.false_eq_true, not_false_eq_true, if_true, Option.bind_some]; rw [Q7, Option.bind_some]; by_cases hc : 100 ≤ k ∧ k ≤ 599
  ·rw [if_pos (by simp; omega), Gx k hk, Option.bind_some, if_pos rfl, tail k]; by_cases hr : Nn R = true
   ·rw [if_pos hr, if_pos ⟨hc.1, hc.2, hr⟩]
   ·rw [if_neg hr, if_neg (fun q => hr q.2.2)]
  ·rw [if_neg (by simp; omega), if_neg (fun q => hc ⟨q.1, q.2.1⟩)]
 | none =>
  simp only [Option.bind_none]; by_cases h3 : (C9 T).2 = true
  ·rw [if_neg (by simpa using h3)]
  ·rw [if_pos h3, Q7, Option.bind_some]; by_cases hc : 100 ≤ (C9 T).1 ∧ (C9 T).1 ≤ 599
   ·obtain ⟨v, hv⟩ : ∃ v : Nat, (C9 T).1 = (v : Int) := ⟨(C9 T).1.toNat, by omega⟩; rw [hv] at hc ⊢; rw [if_pos (by simp; omega), Gx v (by omega), Option.bind_some, if_neg]; intro e; rw [← e, EF (by omega)] at hN; cases hN
   ·rw [if_neg (by simpa using hc)]
end Go.Idl
namespace Go.Idl
open Go
set_option maxRecDepth 100000
theorem MZ (c : UInt8) (k : Nat) (s : Str) : Lib.splitK [c] 0 (k + 1) s = match Ca s c with | some p => p.1 :: Lib.splitK [c] 0 k p.2 | none => [s] := by
 rw [Lib.splitK, index_one]; cases h : Ca s c with
 | none => simp
 | some p =>
  obtain ⟨h1, _⟩ := Ce.1 (show Ca s c = some (p.1, p.2) from h); simp only; rw [if_neg (by simp)]; simp [h1]
theorem Od (c : UInt8) (s : Str) : Lib.count s [c] = match Ca s c with | some p => Lib.count p.2 [c] + 1 | none => 0 := by
 cases h : Ca s c with
 | none =>
  have : Lib.index s [c] = -1 := by rw [index_one, h]
  exact Lib.count_miss this
 | some p =>
  have hi : Lib.index s [c] = (p.1.length : Int) := by rw [index_one, h]
  obtain ⟨h1, _⟩ := Ce.1 (show Ca s c = some (p.1, p.2) from h); have := Lib.count_hit (s := s) (sub := [c]) (by simp) hi; simp only; rw [this, h1]; simp [Nat.add_comm]
theorem C3 (c : UInt8) (s : Str) : Lib.split s [c] = match Ca s c with | some p => p.1 :: Lib.split p.2 [c] | none => [s] := by
 unfold Lib.split; rw [Od]; cases h : Ca s c with
 | none => rfl
 | some p =>
  simp only; rw [MZ, h]
theorem Q8 (c : UInt8) (s : Str) : Lib.split s [c] ≠ [] := by
 rw [C3]; cases Ca s c <;> simp
theorem Uv (s : Str) (h : s.length ≤ 1000000) : F49 s = some (match ER s with | some x => .ok ⟨x.1, x.2, [], []⟩ | none => .error ()) := by
 unfold F49 F50; rw [Ab (by omega), Ab (by simp)]; unfold ER; cases h1 : Ca s 32 with
 | none =>
  have hs : Lib.split s [32] = [s] := by rw [C3, h1]
  rw [hs, Option.bind_some]; simp
 | some p =>
  have l1 := Ga (a := p.1) (b := p.2) h1; simp only [Option.bind_some]; cases h2 : Ca p.2 32 with
  | none =>
   have hs : Lib.split s [32] = [p.1, p.2] := by rw [C3, h1]; simp only; rw [C3, h2]
   rw [hs]; simp
  | some q =>
   have l2 := Ga (a := q.1) (b := q.2) h2; simp only [Option.bind_some]; cases h3 : Ca q.2 32 with
   | some t =>
    have hv : ¬ q.2 = Dz := by
     intro e; rw [e] at h3; have : Ca Dz 32 = none := by decide
     rw [this] at h3; cases h3
    have hs : Lib.split s [32] = p.1 :: q.1 :: t.1 :: Lib.split t.2 [32] := by
     rw [C3, h1]; simp only; rw [C3, h2]; simp only; rw [C3, h3]
    have hne := Q8 32 t.2; have hlen : 0 < (Lib.split t.2 [32]).length := List.length_pos_iff.2 hne; rw [hs, if_neg (by simp only [List.length_cons]; omega), if_neg (fun e => hv e.1)]
   | none =>
    have hs : Lib.split s [32] = [p.1, q.1, q.2] := by
     rw [C3, h1]; simp only; rw [C3, h2]; simp only; rw [C3, h3]
    rw [hs]; simp only [List.length_cons, List.length_nil, List.getD_cons_zero, List.getD_cons_succ]; rw [if_pos (by omega), Ab (by omega), PO _ (by omega), Option.bind_some]; by_cases m1 : BS p.1 = true
    case neg => rw [if_neg m1, if_neg (fun e => m1 e.2.1)]
    rw [if_pos m1, Ab (by omega), PR _ (by omega), Option.bind_some]; by_cases m2 : C_ q.1 = true
    case neg => rw [if_neg m2, if_neg (fun e => m2 e.2.2)]
    rw [if_pos m2, Ab (by omega)]; by_cases m3 : q.2 = Dz
    ·rw [if_pos (show q.2 = [72, 84, 84, 80, 47, 49, 46, 49] from m3), if_pos ⟨m3, m1, m2⟩]
    ·rw [if_neg (show ¬ q.2 = [72, 84, 84, 80, 47, 49, 46, 49] from m3), if_neg (fun e => m3 e.1)]
theorem Ds {ε α β : Type} {x : Option (Except ε α)} {a : α} {p : ε → Option β} {k : α → Option β} (h : x = some (.ok a)) : (x.bind fun y => orP y p k) = k a := by subst h; rfl
theorem HI {ε α β : Type} {x : Option (Except ε α)} {e : ε} {p : ε → Option β} {k : α → Option β} (h : x = some (.error e)) : (x.bind fun y => orP y p k) = p e := by subst h; rfl
theorem JX {α β : Type} {x : Option α} {a : α} {k : α → Option β} (h : x = some a) : x.bind k = k a := by subst h; rfl
theorem Uw (b : Str) (h : b.length ≤ 1000000) : F36 b = some (match Fp Eh b with | some x => ((⟨(x.1 : Int), x.2.1.map toS, x.2.2⟩ : S25), 0) | none => ((⟨0, [], []⟩ : S25), 220)) := by
 have e64 := FT b (by omega); unfold F36 Fp; cases h1 : Bg b with
 | none =>
  rw [h1] at e64; rw [HI e64, Option.bind_none]
 | some p =>
  rw [h1] at e64; have l1 := Bv (a := p.1) (b := p.2) h1; rw [Ds e64, Option.bind_some]; have e30 := Uu p.1 (by omega); cases h2 : Eh p.1 with
  | none =>
   rw [h2] at e30; rw [HI e30, Option.bind_none]
  | some c =>
   rw [h2] at e30; rw [Ds e30, Option.bind_some]; have e65 := P_ p.2 (by omega); cases h3 : CM [] p.2 with
   | none =>
    rw [h3] at e65; rw [HI e65, Option.bind_none]
   | some q =>
    rw [h3] at e65; obtain ⟨n1, n2, n3, n4⟩ := J6 (l := q.1) (r := q.2) h3; rw [Ds e65, Option.bind_some]; have e66 := Q5 q.2 q.1 (by omega) n1 (fun x hx => by have := (n4 x hx).2.2.2; omega); cases h4 : DH q.1 q.2 with
    | none =>
     rw [h4, J4] at e66; rw [HI e66, Option.bind_none]
    | some r =>
     rw [h4, J4] at e66; have hbl := J7 (b := r.1) (r := r.2) h4 1000000 (by omega); have hol : (D7 q.1).length ≤ q.1.length := List.length_filter_le _ _; have hsm : FQ ((BZ (D7 q.1)).map toS) := by
      refine ⟨by rw [List.length_map, JW]; omega, fun x hx => ?_⟩; obtain ⟨y, hy, rfl⟩ := List.mem_map.1 hx; have hy := (n4 y (List.mem_filter.1 ((F0 _ _).1 hy)).1).2.2.2; simp only [toS]; omega
     rw [Ds e66, Option.bind_some]; have e67 := Q6 (D7 q.1) (by omega) (J5 n1); have e27 := MX ((BZ (D7 q.1)).map toS) r.1 hsm; rw [No] at e27; by_cases h5 : r.2 = []
     ·have h5' : ((rd r.2).Bl.fb.length : Int) = 0 := by rw [h5]; rfl
      rw [if_pos h5', JX e67, JX e27]; by_cases h6 : CP (BZ (D7 q.1)) r.1 = true
      ·rw [if_pos h6, if_pos ⟨h5, h6⟩, JX e67, F37, Option.bind_some]
      ·rw [if_neg h6, if_neg (fun e => h6 e.2)]
     ·have : ¬ ((rd r.2).Bl.fb.length : Int) = 0 := by
       intro e; have e : (r.2.length : Int) = 0 := e; exact h5 (List.length_eq_zero_iff.1 (by omega))
      rw [if_neg this, if_neg (fun e => h5 e.1)]
theorem Ux (b : Str) (h : b.length ≤ 1000000) : F51 b = some (match Fp ER b with | some x => ((⟨x.1.1, x.1.2, x.2.1.map toS, x.2.2⟩ : S42), 0) | none => ((⟨[], [], [], []⟩ : S42), 220)) := by
 have e64 := FT b (by omega); unfold F51 Fp; cases h1 : Bg b with
 | none =>
  rw [h1] at e64; rw [HI e64, Option.bind_none]
 | some p =>
  rw [h1] at e64; have l1 := Bv (a := p.1) (b := p.2) h1; rw [Ds e64, Option.bind_some]; have e30 := Uv p.1 (by omega); cases h2 : ER p.1 with
  | none =>
   rw [h2] at e30; rw [HI e30, Option.bind_none]
  | some c =>
   rw [h2] at e30; rw [Ds e30, Option.bind_some]; have e65 := P_ p.2 (by omega); cases h3 : CM [] p.2 with
   | none =>
    rw [h3] at e65; rw [HI e65, Option.bind_none]
   | some q =>
    rw [h3] at e65; obtain ⟨n1, n2, n3, n4⟩ := J6 (l := q.1) (r := q.2) h3; rw [Ds e65, Option.bind_some]; have e66 := Q5 q.2 q.1 (by omega) n1 (fun x hx => by have := (n4 x hx).2.2.2; omega); cases h4 : DH q.1 q.2 with
    | none =>
     rw [h4, J4] at e66; rw [HI e66, Option.bind_none]
    | some r =>
     rw [h4, J4] at e66; have hbl := J7 (b := r.1) (r := r.2) h4 1000000 (by omega); have hol : (D7 q.1).length ≤ q.1.length := List.length_filter_le _ _; have hsm : FQ ((BZ (D7 q.1)).map toS) := by
      refine ⟨by rw [List.length_map, JW]; omega, fun x hx => ?_⟩; obtain ⟨y, hy, rfl⟩ := List.mem_map.1 hx; have hy := (n4 y (List.mem_filter.1 ((F0 _ _).1 hy)).1).2.2.2; simp only [toS]; omega
     rw [Ds e66, Option.bind_some]; have e67 := Q6 (D7 q.1) (by omega) (J5 n1); have e27 := MX ((BZ (D7 q.1)).map toS) r.1 hsm; rw [No] at e27; by_cases h5 : r.2 = []
     ·have h5' : ((rd r.2).Bl.fb.length : Int) = 0 := by rw [h5]; rfl
      rw [if_pos h5', JX e67, JX e27]; by_cases h6 : CP (BZ (D7 q.1)) r.1 = true
      ·rw [if_pos h6, if_pos ⟨h5, h6⟩, JX e67, F52, Option.bind_some]
      ·rw [if_neg h6, if_neg (fun e => h6 e.2)]
     ·have : ¬ ((rd r.2).Bl.fb.length : Int) = 0 := by
       intro e; have e : (r.2.length : Int) = 0 := e; exact h5 (List.length_eq_zero_iff.1 (by omega))
      rw [if_neg this, if_neg (fun e => h5 e.1)]
noncomputable def M_ (b : Str) : S25 × Int := match Fp Eh b with | some x => (⟨(x.1 : Int), x.2.1.map toS, x.2.2⟩, 0) | none => (⟨0, [], []⟩, 220)
noncomputable def LR (b : Str) : S42 × Int := match Fp ER b with | some x => (⟨x.1.1, x.1.2, x.2.1.map toS, x.2.2⟩, 0) | none => (⟨[], [], [], []⟩, 220)
theorem Uy (b : Str) (h : b.length ≤ 1000000) : F11 b = some (.ok (M_ b)) := by
 unfold F11; rw [Uw b h, Option.bind_some]; rfl
theorem Uz (b : Str) (h : b.length ≤ 1000000) : F20 b = some (.ok (LR b)) := by
 unfold F20; rw [Ux b h, Option.bind_some]; rfl
def J8 : Str := [72, 84, 84, 80, 47, 49, 46, 49, 32, 50, 48, 52, 32, 78, 111, 13, 10, 13, 10]
theorem LS : Fp Eh J8 = some (204, [], []) := by
 have hf : Eh ([72, 84, 84, 80, 47, 49, 46, 49, 32, 50, 48, 52, 32, 78, 111] : Str) = some 204 := by
  unfold Eh; rw [if_pos (by decide)]; have : IB ((([72, 84, 84, 80, 47, 49, 46, 49, 32, 50, 48, 52, 32, 78, 111] : Str).drop 9).take 3) = some 204 := by
   have h := EF (n := 204) (by omega); rw [Yp (c := 204) (by omega)] at h; exact h
  rw [this, Option.bind_some, if_pos (by decide)]
 have h := GX (first := Eh) (f := [72, 84, 84, 80, 47, 49, 46, 49, 32, 50, 48, 52, 32, 78, 111]) (x := 204) (by decide) hf [] [] (by simp) (by simp); have e : ([72, 84, 84, 80, 47, 49, 46, 49, 32, 50, 48, 52, 32, 78, 111] : Str) ++ 13 :: 10 :: (([] : List (Str × Hd)).flatMap (fun y => y.1 ++ [13, 10]) ++ 13 :: 10 :: []) = J8 := rfl; rw [e] at h; rw [h]; have hb : DH (([] : List (Str × Hd)).map (·.2)) [] = some ([], []) := by
  unfold DH; rfl
 rw [hb, Option.bind_some, if_pos ⟨rfl, by decide⟩]; rfl
theorem JY : F9 = some (.ok true) := by
 have hq := Um ⟨[80, 85, 84], [47, 97], [], [120]⟩ (by simp) (by simp) ⟨by simp, by simp⟩ (by simp) (by
   have : (Dm [80, 85, 84] [47, 97] [] [120]).length ≤ 1000000000 := by
     unfold Dm HE BF PF
     have := Gu (n := 1) (by omega)
     simp [Dz, CD]
     omega
   exact this)
 have hh : (BS [80, 85, 84] && C_ [47, 97] && CP (([] : List S55).map toH) [120]) = true := by decide
 rw [if_pos hh] at hq; have hr : Dm [80, 85, 84] [47, 97] (([] : List S55).map toH) [120] = [80, 85, 84, 32, 47, 97, 32, 72, 84, 84, 80, 47, 49, 46, 49, 13, 10, 99, 111, 110, 116, 101, 110, 116, 45, 108, 101, 110, 103, 116, 104, 58, 32, 49, 13, 10, 13, 10, 120] := by
  have : Lib.decDigits 1 = [49] := by rw [Lib.decDigits, dif_pos (by omega)]; rfl
  simp [Dm, HE, BF, PF, this, Dz, CD]
 have h2 := Uy J8 (by simp [J8]); have h3 : M_ J8 = (⟨204, [], []⟩, 0) := by unfold M_; rw [LS]; rfl
 rw [h3] at h2; unfold F9; rw [hq, Option.bind_some]; rw [show F11 ([72, 84, 84, 80, 47, 49, 46, 49, 32, 50, 48, 52, 32, 78, 111, 13, 10, 13, 10] : List UInt8) = _ from h2, Option.bind_some]; simp only [orP]; rw [if_pos trivial, if_pos hr, if_pos trivial]; rfl
end Go.Idl
namespace Go.Idl
open Go
set_option maxRecDepth 100000
theorem UA (q : S42) (h1 : q.Ah.length ≤ 1000000) (h2 : q.Ax.length ≤ 1000000) (hl : FQ q.A9) : F19 q = some (BS q.Ah && C_ q.Ax && Li (q.A9.map toH) && decide (q.Al.length ≤ 60000)) := by
 unfold F19; rw [Ug _ (by omega), Option.bind_some]; cases BS q.Ah
 case false => rfl
 rw [if_pos rfl, Uh _ (by omega), Option.bind_some]; cases C_ q.Ax
 case false => rfl
 rw [if_pos rfl, Uk _ hl, Option.bind_some]; cases Li (q.A9.map toH)
 case false => rfl
 rw [if_pos rfl]; congr 1; rw [Bool.eq_iff_iff]; simp; omega
theorem Oe (l : List Hd) (b : Str) (h : b.length ≤ 60000) : CP l b = Li l := by
 simp [CP, h]
end Go.Idl
namespace Go.Proofs
open Go.Shelf
def Tryz.KL : Go.Shelf.Ren := ⟨fun | 145 => 89 | 220 => 118 | 219 => 132 | 217 => 159 | 225 => 160 | 224 => 144 | 267 => 161 | 266 => 172 | 314 => 173 | n => n, fun | 9 => 9 | 4 => 4 | 59 => 127 | 3 => 3 | 5 => 5 | 46 => 152 | 146 => 189 | 51 => 163 | n => n, fun | 1 => 3 | n => n⟩
theorem Tryz.Q9 : Go.Proofs.LaysM.n145 Tryz.prog Tryz.KL := {
  mixed := by kernel_rfl
  f145 := Tryz.func89.trans (congrArg some (by kernel_rfl))
  f217 := Tryz.func159.trans (congrArg some (by kernel_rfl))
  f219 := Tryz.func132.trans (congrArg some (by kernel_rfl))
  f220 := Tryz.func118.trans (congrArg some (by kernel_rfl))
  f224 := Tryz.func144.trans (congrArg some (by kernel_rfl))
  f225 := Tryz.func160.trans (congrArg some (by kernel_rfl))
  f266 := Tryz.func172.trans (congrArg some (by kernel_rfl))
  f267 := Tryz.func161.trans (congrArg some (by kernel_rfl))
  f314 := Tryz.func173.trans (congrArg some (by kernel_rfl))
  t3 := Tryz.underlying3
  a3 := Tryz.isAgg3
  z3 := Tryz.sizeOf3
  v3 := Tryz.zeroValue3
  t4 := Tryz.underlying4
  a4 := Tryz.isAgg4
  z4 := Tryz.sizeOf4
  v4 := Tryz.zeroValue4
  t5 := Tryz.underlying5
  a5 := Tryz.isAgg5
  z5 := Tryz.sizeOf5
  v5 := Tryz.zeroValue5
  t9 := Tryz.underlying9
  a9 := Tryz.isAgg9
  z9 := Tryz.sizeOf9
  v9 := Tryz.zeroValue9
  t46 := Tryz.underlying152
  a46 := Tryz.isAgg152
  z46 := Tryz.sizeOf152
  v46 := Tryz.zeroValue152
  t51 := Tryz.underlying163
  a51 := Tryz.isAgg163
  z51 := Tryz.sizeOf163
  v51 := Tryz.zeroValue163
  t59 := Tryz.underlying127
  a59 := Tryz.isAgg127
  z59 := Tryz.sizeOf127
  v59 := Tryz.zeroValue127
  t146 := Tryz.underlying189
  a146 := Tryz.isAgg189
  z146 := Tryz.sizeOf189
  v146 := Tryz.zeroValue189
  g1 := by kernel_rfl
  i3 := by kernel_rfl
  i4 := by kernel_rfl
  i5 := by kernel_rfl
  i9 := by kernel_rfl
  i46 := by kernel_rfl
  i51 := by kernel_rfl
  i59 := by kernel_rfl
  i146 := by kernel_rfl
  m1 := by kernel_rfl
  s1_3 := fun w h => Go.Proofs.cell_of_shapedOpen_int (zero := #[.int .i64 0]) (t := 3) h (of_decide_eq_true (by kernel_rfl)) (by kernel_rfl) rfl (by kernel_rfl) (by kernel_rfl) Tryz.underlying3 }
end Go.Proofs
namespace Go.Idl
open Go Go.RowKit Go.ChangeShapes Go.WideShapes
def HV (vs : List (Nat × Array Value)) : A0 := { next := 0, obj := fun _ => none, sn := [Hz vs] }
theorem Yq (w : World) (vs : List (Nat × Array Value)) (h : ∀ p, p ∈ vs → ∃ el f, w.heap[p.1]? = some (.cells p.2 el f)) : Sim w g0 (HV vs) where
  nx := rfl
  sh := fun _ => rfl
  lt := fun k h => by cases h
  bk := fun k b h => by cases h
  inj := fun k k' b h => by cases h
  obj := fun k o h => by cases h
  old := fun b h => h.elim
  snap := fun p hp i hi => by
    obtain rfl : p = Hz vs := by simpa [HV] using hp
    have hl : i < vs.length := by simpa [Hz] using hi
    obtain ⟨el, f, h1⟩ := h _ (List.getElem_mem hl)
    simp only [Hz, List.getElem?_eq_getElem hl]
    exact .blk _ _ el f _ (ow0 _) h1
theorem N0 {P : Program} {w : World} {name : String} {b : Nat} {xs : Array Value} (hg : P.globalNamed name = some b) (h : w.var? P name = some xs) : ∃ el f, w.heap[b]? = some (.cells xs el f) := by
 unfold World.var? at h; rw [hg] at h; simp only [Option.bind_some] at h; split at h
 ·rename_i cs el f hc; cases h; exact ⟨el, f, hc⟩
 ·cases h
theorem Ry {w : World} {b i : Nat} {x : Value} (h : w.cell? ⟨b, i, none⟩ = some x) : ∃ xs el f, w.heap[b]? = some (.cells xs el f) ∧ xs[i]? = some x := by
 simp only [World.cell?] at h; cases hb : w.heap[b]? with
 | none => rw [hb] at h; simp at h
 | some o =>
  rw [hb] at h; cases o with
  | cells xs el f => exact ⟨xs, el, f, rfl, by simpa using h⟩
  | _ => simp at h
theorem H6 {H : Type} {enc : TypeId × Value → H} {a : Assume} {C : Checked} {os : Os} {f : FuncId} {fn : Func} {s : ChangeSpec} {conds : List PathCond} {apart fresh handsOn again : Bool} {X : World → Array Value → Prop}
    (hX : ∀ (w w' : World) (args : Array Value), w.heap = w'.heap → X w args → X w' args)
    (own : ownKnob C.prog.godebug = none) (started : os.Started) (noInit : C.prog.inits.idxOf? f = none) (hfn : C.prog.funcs[f]? = some fn)
    (witness : ∃ (w : World) (tape : Tape) (i : Input), w.os = os ∧ (w.forCall tape i).Shaped C.prog ∧ i.vars = [] ∧ Input.okWide C.prog (w.forCall tape i) .any w.heap.size f i ∧
      ((s.pre enc C.prog fn conds apart (w.forCall tape i).memory i.args ∧ X (w.forCall tape i).memory i.args) ∧ sizedMet enc C.prog fn (OpenSpec.ofChange s) apart (w.forCall tape i).memory i.args) ∧ a.holds C.prog (lone (Frame.enter C.prog f i.args .normal) [] (w.forCall tape i)))
    (contract : ∀ (W : World) (base : Nat) (args : Array Value) (ds gs : List (DataW H)) (before : List MemPlace),
      (∀ (j : Nat) t v, fn.params[j]? = some t → args[j]? = some v → Value.okWide C.prog W .any base t v) →
      DataW.Whole enc C.prog fn.params.toList s.vars apart W args.toList ds gs before →
      (DataW.weightsEach C.prog (fn.params.toList ++ s.plain.varTypes C.prog) (ds ++ gs)).all (· ≤ reachBytes) = true → X W args → W.ShapedOpen C.prog →
      Calls C.prog f args W fun e W' => ∃ v, e = .returned v ∧ s.post enc C.prog fn apart fresh handsOn again W args v W') :
    ReturnsInHanded a C os f .any (fun w args => (s.pre enc C.prog fn conds apart w args ∧ X w args) ∧ sizedMet enc C.prog fn (OpenSpec.ofChange s) apart w args) (s.post enc C.prog fn apart fresh handsOn again) := by
 refine returnsInHanded_of_calls own started noInit witness ?_; intro w tape i _ shape _ ok pre _; obtain ⟨_, _, _, fn2, hfn2, _, _, _, _, val⟩ := ok; have e := Option.some.inj (hfn2.symm.trans hfn); subst e; obtain ⟨⟨⟨ds, gs, before, whole, _⟩, laid⟩, sized⟩ := pre; refine Calls.mono (contract (w.forCall tape i) w.heap.size i.args ds gs before val (DataW.Whole.of_heap (by rfl) whole) (sized.weights whole) (hX _ _ _ (by rfl) laid) shape) ?_
 rintro _ W' ⟨v, rfl, post⟩
 exact ChangeSpec.post_blind post
end Go.Idl
namespace Go.Idl
open Go Go.RowKit Go.ChangeShapes Go.WideShapes
variable {P : Program} {w : World} {Hh : Type} {enc : TypeId × Value → Hh}
def RdZ (P : Program) (w : World) {Hh : Type} (enc : TypeId × Value → Hh) (t : TypeId) (S : List IV → Prop) : Prop :=
  ∀ (base : Nat) (spare : Nat → Bool) (held : Bool) (fuel : Nat) (cs : List Value) (x : DataW Hh × List MemPlace), DataW.trod enc P w base spare held fuel t cs = some x → (∀ n ∈ x.1.weights P t, n ≤ reachBytes) →
    ∃ is, S is ∧ is.length = cs.length ∧ ∀ (j : Nat) (c : Value) (i : IV), cs[j]? = some c → is[j]? = some i → c.oneCell' = true ∧ R w g0 c i
theorem Rd.z {t : TypeId} {S : List IV → Prop} (h : Rd P w enc t S) : RdZ P w enc t S := fun base spare held fuel cs x hx _ => h base spare held fuel cs x hx
theorem RdZ.mono {t : TypeId} {S S' : List IV → Prop} (h : RdZ P w enc t S) (hs : ∀ is, S is → S' is) : RdZ P w enc t S' := fun base spare held fuel cs x hx hz => let ⟨is, h1, h2⟩ := h base spare held fuel cs x hx hz; ⟨is, hs _ h1, h2⟩
theorem ET {e : TypeId} : ∀ {ds : List (DataW Hh)} {d : DataW Hh}, d ∈ ds → ∀ {n : Nat}, n ∈ d.weights P e → n ∈ DataW.weightsAll P e ds
  | d0 :: ds, d, hd, n, hn => by
    simp only [DataW.weightsAll, List.mem_append]
    rcases List.mem_cons.1 hd with e | e
    · subst e; exact .inl hn
    · exact .inr (ET e hn)
theorem N1 {t : TypeId} (hu : P.underlying t = some .string) : RdZ P w enc t fun is => ∃ s : List UInt8, s.length ≤ reachBytes ∧ is = [.v (str s)] := by
 intro base spare held fuel cs x h hz; obtain ⟨s, rfl, rfl, _⟩ := DataW.trod_string hu h; refine ⟨_, ⟨bytes s, ?_, rfl⟩, rfl, EH rfl ?_⟩
 ·have := hz s.data.toList.length (by simp [DataW.weights]); simpa [bytes] using this
 ·rw [show str (bytes s) = .string s by rw [str, FY]]; exact .v _
theorem Of {t e : TypeId} {E : Type} (cells : E → List IV) (hu : P.underlying t = some (.slice e)) (h0 : 0 < P.cellsOf e) (he : RdZ P w enc e fun is => ∃ x : E, is = cells x) :
    RdZ P w enc t fun is => ∃ l : List E, is = [.sl (P.cellsOf e) (l.map cells)] := by
 intro base spare held fuel cs x h hz; rcases DataW.trod_slice hu h with ⟨rfl, _⟩ | ⟨a, len, cap, elems, rest, n, _, rfl, rfl, hb, hl, hm, hlen, hel, _, _⟩
 ·exact ⟨_, ⟨[], rfl⟩, rfl, EH rfl (.sl0 _ _ _)⟩
 ·obtain ⟨l, l1, l2⟩ := EI (fun i (y : E) => (cells y).length = P.cellsOf e ∧ ∀ (j : Nat) (i' : IV), (cells y)[j]? = some i' → ∃ c, w.cell? ((a.add (i * P.cellsOf e)).add j) = some c ∧ c.oneCell' = true ∧ R w g0 c i') len (fun i hi => by
    have hei := hel i hi
    have hne : elems[i]? = some elems[i] := List.getElem?_eq_getElem (by omega)
    rw [hne, Option.bind_eq_some_iff] at hei
    obtain ⟨ci, hc, ht⟩ := hei
    obtain ⟨q1, q2⟩ := JJ hc
    obtain ⟨is, ⟨y, rfl⟩, q3, q4⟩ := he _ _ _ _ _ _ ht fun n hn => hz n (by
      simp only [DataW.weights, hu, List.mem_cons, List.mem_append]
      exact .inr (.inl (ET (List.mem_map_of_mem (List.getElem_mem (by omega : i < elems.length))) hn)))
    refine ⟨y, by rw [q3, q1], fun j i' hj => ?_⟩
    have hjl : j < ci.length := by rw [← q3]; exact (List.getElem?_eq_some_iff.1 hj).1
    have := q4 j ci[j] i' (List.getElem?_eq_getElem hjl) hj
    exact ⟨ci[j], by rw [q2 j (by omega)]; exact List.getElem?_eq_getElem hjl, this⟩)
  refine ⟨_, ⟨l, rfl⟩, rfl, EH rfl ?_⟩; by_cases hz : len = 0
  ·subst hz; have : l = [] := List.eq_nil_of_length_eq_zero l1; subst this; exact .sl0 _ _ _
  ·have hlm : (l.map cells).length = len := by simp [l1]
   have h0l : 0 < l.length := by omega
   obtain ⟨q1, q2⟩ := l2 0 l[0] (List.getElem?_eq_getElem h0l); have hpos : 0 < (cells l[0]).length := by omega
   obtain ⟨c0, q3, _⟩ := q2 0 _ (List.getElem?_eq_getElem hpos); obtain ⟨b, off, spot⟩ := a; have hsp : spot = none ∧ b < w.heap.size := by
    have e0 : ((⟨b, off, spot⟩ : Addr).add (0 * P.cellsOf e)).add 0 = ⟨b, off, spot⟩ := by simp [Addr.add]
    rw [e0] at q3; unfold World.cell? at q3; split at q3
    ·rename_i hh; refine ⟨?_, (Array.getElem?_eq_some_iff.1 hh).1⟩; split at q3
     ·cases q3
     ·rename_i hs; simpa using hs
    ·cases q3
   obtain ⟨rfl, hlt⟩ := hsp; rw [← hlm]; refine .sl b off cap _ _ (fun i j => (w.cell? ⟨b, off + i * P.cellsOf e + j, none⟩).getD undef) (ow0 b) hlt (by rw [hlm]; have hm' : cap ≤ 9223372036854775807 := hm; unfold D5; omega) (by omega) ?_ ?_ ?_ ?_
   ·intro c hc; obtain ⟨y, hy, rfl⟩ := List.mem_map.1 hc; obtain ⟨i, hi⟩ := List.getElem?_of_mem hy; exact (l2 i y hi).1
   all_goals
    intro i ee j c h1 h2; simp only [List.getElem?_map, Option.map_eq_some_iff] at h1; obtain ⟨y, hy, rfl⟩ := h1; obtain ⟨c', r1, r2, r3⟩ := (l2 i y hy).2 j c h2; rw [addr_add, addr_add] at r1
    first | (rw [r1]; rfl) | (simp only [r1, Option.getD_some]; first | exact r2 | exact r3)
theorem Si {t : TypeId} {f0 f1 f2 : Field} {S0 S1 S2 : List IV → Prop} (ht : P.underlying t = some (.struct #[f0, f1, f2])) (hc : P.cellsOf t = P.cellsOf f0.type + P.cellsOf f1.type + P.cellsOf f2.type) (o0 : f0.offset = 0) (o1 : f1.offset = P.cellsOf f0.type) (o2 : f2.offset = P.cellsOf f0.type + P.cellsOf f1.type)
    (h0 : RdZ P w enc f0.type S0) (h1 : RdZ P w enc f1.type S1) (h2 : RdZ P w enc f2.type S2) : RdZ P w enc t fun is => ∃ i0 i1 i2, S0 i0 ∧ S1 i1 ∧ S2 i2 ∧ is = i0 ++ (i1 ++ i2) := by
 intro base spare held fuel cs x h hz; obtain ⟨xs, n, _, rfl, hl, hlen, hf⟩ := DataW.trod_struct ht h; rw [hc] at hl; have q0 := hf 0 f0 rfl; have q1 := hf 1 f1 rfl; have q2 := hf 2 f2 rfl; rw [o0] at q0; rw [o1] at q1; rw [o2] at q2
 match xs, hlen, q0, q1, q2, hz with
 | [x0, x1, x2], _, q0, q1, q2, hz =>
  have hz' : ∀ n, n ∈ x0.1.weights P f0.type ∨ n ∈ x1.1.weights P f1.type ∨ n ∈ x2.1.weights P f2.type → n ≤ reachBytes := fun n hn => hz n (by
    simp only [DataW.weights, ht, List.map_cons, List.map_nil, List.toList_toArray, DataW.weightsEach, List.mem_append, List.not_mem_nil, or_false]
    exact hn)
  obtain ⟨is0, p0, l0, r0⟩ := h0 _ _ _ _ _ _ (by simpa using q0) fun n hn => hz' n (.inl hn); obtain ⟨is1, p1, l1, r1⟩ := h1 _ _ _ _ _ _ (by simpa using q1) fun n hn => hz' n (.inr (.inl hn)); obtain ⟨is2, p2, l2, r2⟩ := h2 _ _ _ _ _ _ (by simpa using q2) fun n hn => hz' n (.inr (.inr hn)); simp only [List.length_take, List.length_drop, List.drop_zero] at l0 l1 l2; refine ⟨_, ⟨is0, is1, is2, p0, p1, p2, rfl⟩, by simp only [List.length_append]; omega, fun j c i e1 e2 => ?_⟩; have hj := (List.getElem?_eq_some_iff.1 e1).1; rcases Nat.lt_or_ge j is0.length with a | a
  ·rw [List.getElem?_append_left a] at e2; exact r0 j c i (by rw [List.getElem?_take, if_pos (by omega)]; simpa using e1) e2
  ·rw [List.getElem?_append_right a] at e2; rcases Nat.lt_or_ge (j - is0.length) is1.length with b | b
   ·rw [List.getElem?_append_left b] at e2; refine r1 (j - is0.length) c i ?_ e2; rw [List.getElem?_take, if_pos (by omega), List.getElem?_drop, show P.cellsOf f0.type + (j - is0.length) = j by omega]; exact e1
   ·rw [List.getElem?_append_right b] at e2; refine r2 (j - is0.length - is1.length) c i ?_ e2; rw [List.getElem?_take, if_pos (by omega), List.getElem?_drop, show P.cellsOf f0.type + P.cellsOf f1.type + (j - is0.length - is1.length) = j by omega]; exact e1
theorem LU {t : TypeId} {f0 f1 : Field} {S0 S1 : List IV → Prop} (ht : P.underlying t = some (.struct #[f0, f1])) (hc : P.cellsOf t = P.cellsOf f0.type + P.cellsOf f1.type) (o0 : f0.offset = 0) (o1 : f1.offset = P.cellsOf f0.type)
    (h0 : RdZ P w enc f0.type S0) (h1 : RdZ P w enc f1.type S1) : RdZ P w enc t fun is => ∃ i0 i1, S0 i0 ∧ S1 i1 ∧ is = i0 ++ i1 := by
 intro base spare held fuel cs x h hz; obtain ⟨xs, n, _, rfl, hl, hlen, hf⟩ := DataW.trod_struct ht h; rw [hc] at hl; have q0 := hf 0 f0 rfl; have q1 := hf 1 f1 rfl; rw [o0] at q0; rw [o1] at q1
 match xs, hlen, q0, q1, hz with
 | [x0, x1], _, q0, q1, hz =>
  have hz' : ∀ n, n ∈ x0.1.weights P f0.type ∨ n ∈ x1.1.weights P f1.type → n ≤ reachBytes := fun n hn => hz n (by
    simp only [DataW.weights, ht, List.map_cons, List.map_nil, List.toList_toArray, DataW.weightsEach, List.mem_append, List.not_mem_nil, or_false]
    exact hn)
  obtain ⟨is0, p0, l0, r0⟩ := h0 _ _ _ _ _ _ (by simpa using q0) fun n hn => hz' n (.inl hn); obtain ⟨is1, p1, l1, r1⟩ := h1 _ _ _ _ _ _ (by simpa using q1) fun n hn => hz' n (.inr hn); simp only [List.length_take, List.length_drop, List.drop_zero] at l0 l1; refine ⟨_, ⟨is0, is1, p0, p1, rfl⟩, by simp only [List.length_append]; omega, fun j c i e1 e2 => ?_⟩; have hj := (List.getElem?_eq_some_iff.1 e1).1; rcases Nat.lt_or_ge j is0.length with a | a
  ·rw [List.getElem?_append_left a] at e2; exact r0 j c i (by rw [List.getElem?_take, if_pos (by omega)]; simpa using e1) e2
  ·rw [List.getElem?_append_right a] at e2; refine r1 (j - is0.length) c i ?_ e2; rw [List.getElem?_take, if_pos (by omega), List.getElem?_drop, show P.cellsOf f0.type + (j - is0.length) = j by omega]; exact e1
theorem RdZ.one {t : TypeId} {v : Value} {d : DataW Hh} {ps : List MemPlace} {S : List IV → Prop} {base : Nat} {spare : Nat → Bool} {held : Bool} (h : RdZ P w enc t S) (hv : v.cells = #[v]) (hd : DataW.Trod enc P w base spare held t v d ps)
    {ts : List TypeId} {ds : List (DataW Hh)} (hw : (DataW.weightsEach P ts ds).all (· ≤ reachBytes) = true) {k : Nat} (h1 : ts[k]? = some t) (h2 : ds[k]? = some d) : ∃ i, S [i] ∧ R w g0 v i := by
 obtain ⟨fuel, hf⟩ := hd; obtain ⟨is, h1, h2, h3⟩ := h _ _ _ _ _ _ hf fun n hn => by simpa using List.all_eq_true.1 hw _ (DataW.weights_mem_each h1 h2 n hn)
 rw [hv] at h2 h3
 match is, h2, h1, h3 with
 | [i], _, h1, h3 => exact ⟨i, h1, (h3 0 v i rfl rfl).2⟩
end Go.Idl
namespace Go.Idl
open Go Go.RowKit Go.ChangeShapes Go.WideShapes
variable {P : Program} {w : World} {Hh : Type} {enc : TypeId × Value → Hh}
theorem LV {t : TypeId} {f0 f1 f2 f3 : Field} {S0 S1 S2 S3 : List IV → Prop} (ht : P.underlying t = some (.struct #[f0, f1, f2, f3])) (hc : P.cellsOf t = P.cellsOf f0.type + P.cellsOf f1.type + P.cellsOf f2.type + P.cellsOf f3.type) (o0 : f0.offset = 0) (o1 : f1.offset = P.cellsOf f0.type) (o2 : f2.offset = P.cellsOf f0.type + P.cellsOf f1.type) (o3 : f3.offset = P.cellsOf f0.type + P.cellsOf f1.type + P.cellsOf f2.type)
    (h0 : RdZ P w enc f0.type S0) (h1 : RdZ P w enc f1.type S1) (h2 : RdZ P w enc f2.type S2) (h3 : RdZ P w enc f3.type S3) : RdZ P w enc t fun is => ∃ i0 i1 i2 i3, S0 i0 ∧ S1 i1 ∧ S2 i2 ∧ S3 i3 ∧ is = i0 ++ (i1 ++ (i2 ++ i3)) := by
 intro base spare held fuel cs x h hz; obtain ⟨xs, n, _, rfl, hl, hlen, hf⟩ := DataW.trod_struct ht h; rw [hc] at hl; have q0 := hf 0 f0 rfl; have q1 := hf 1 f1 rfl; have q2 := hf 2 f2 rfl; have q3 := hf 3 f3 rfl; rw [o0] at q0; rw [o1] at q1; rw [o2] at q2; rw [o3] at q3
 match xs, hlen, q0, q1, q2, q3, hz with
 | [x0, x1, x2, x3], _, q0, q1, q2, q3, hz =>
  have hz' : ∀ n, n ∈ x0.1.weights P f0.type ∨ n ∈ x1.1.weights P f1.type ∨ n ∈ x2.1.weights P f2.type ∨ n ∈ x3.1.weights P f3.type → n ≤ reachBytes := fun n hn => hz n (by
    simp only [DataW.weights, ht, List.map_cons, List.map_nil, List.toList_toArray, DataW.weightsEach, List.mem_append, List.not_mem_nil, or_false]
    exact hn)
  obtain ⟨is0, p0, l0, r0⟩ := h0 _ _ _ _ _ _ (by simpa using q0) fun n hn => hz' n (.inl hn); obtain ⟨is1, p1, l1, r1⟩ := h1 _ _ _ _ _ _ (by simpa using q1) fun n hn => hz' n (.inr (.inl hn)); obtain ⟨is2, p2, l2, r2⟩ := h2 _ _ _ _ _ _ (by simpa using q2) fun n hn => hz' n (.inr (.inr (.inl hn))); obtain ⟨is3, p3, l3, r3⟩ := h3 _ _ _ _ _ _ (by simpa using q3) fun n hn => hz' n (.inr (.inr (.inr hn))); simp only [List.length_take, List.length_drop, List.drop_zero] at l0 l1 l2 l3; refine ⟨_, ⟨is0, is1, is2, is3, p0, p1, p2, p3, rfl⟩, by simp only [List.length_append]; omega, fun j c i e1 e2 => ?_⟩; have hj := (List.getElem?_eq_some_iff.1 e1).1; rcases Nat.lt_or_ge j is0.length with a | a
  ·rw [List.getElem?_append_left a] at e2; exact r0 j c i (by rw [List.getElem?_take, if_pos (by omega)]; simpa using e1) e2
  ·rw [List.getElem?_append_right a] at e2; rcases Nat.lt_or_ge (j - is0.length) is1.length with b | b
   ·rw [List.getElem?_append_left b] at e2; refine r1 (j - is0.length) c i ?_ e2; rw [List.getElem?_take, if_pos (by omega), List.getElem?_drop, show P.cellsOf f0.type + (j - is0.length) = j by omega]; exact e1
   ·rw [List.getElem?_append_right b] at e2; rcases Nat.lt_or_ge (j - is0.length - is1.length) is2.length with d | d
    ·rw [List.getElem?_append_left d] at e2; refine r2 (j - is0.length - is1.length) c i ?_ e2; rw [List.getElem?_take, if_pos (by omega), List.getElem?_drop, show P.cellsOf f0.type + P.cellsOf f1.type + (j - is0.length - is1.length) = j by omega]; exact e1
    ·rw [List.getElem?_append_right d] at e2; refine r3 (j - is0.length - is1.length - is2.length) c i ?_ e2; rw [List.getElem?_take, if_pos (by omega), List.getElem?_drop, show P.cellsOf f0.type + P.cellsOf f1.type + P.cellsOf f2.type + (j - is0.length - is1.length - is2.length) = j by omega]; exact e1
theorem RdZ.agg {t : TypeId} {cs : Array Value} {d : DataW Hh} {ps : List MemPlace} {S : List IV → Prop} {base : Nat} {spare : Nat → Bool} {held : Bool} (h : RdZ P w enc t S) (hd : DataW.Trod enc P w base spare held t (.agg cs) d ps)
    {ts : List TypeId} {ds : List (DataW Hh)} (hw : (DataW.weightsEach P ts ds).all (· ≤ reachBytes) = true) {k : Nat} (h1 : ts[k]? = some t) (h2 : ds[k]? = some d) : ∃ is, S is ∧ R w g0 (.agg cs) (.ag is) := by
 obtain ⟨fuel, hf⟩ := hd; obtain ⟨is, h1, h2, h3⟩ := h _ _ _ _ _ _ hf fun n hn => by simpa using List.all_eq_true.1 hw _ (DataW.weights_mem_each h1 h2 n hn)
 have hcs : (Value.agg cs).cells.toList = cs.toList := rfl; rw [hcs] at h2 h3; refine ⟨is, h1, .ag cs is (by simpa using h2.symm) (fun j x hx => ?_) fun j x c hx hc => (h3 j x c (by simpa using hx) hc).2⟩; have hlt : j < is.length := by
  have := (Array.getElem?_eq_some_iff.1 hx).1; rw [h2]; simpa using this
 exact (h3 j x is[j] (by simpa using hx) (List.getElem?_eq_getElem hlt)).1
theorem WH {t : TypeId} (hu : P.underlying t = some (.int .u8)) : Rd P w enc t fun is => ∃ x : UInt8, is = [.v (.int .u8 x.toNat)] := by
 intro base spare held fuel cs x h; obtain ⟨n, rfl, _, hw⟩ := DataW.trod_int hu h; simp only [Lit.wf, Bool.and_eq_true, decide_eq_true_eq] at hw; have h1 : (0 : Int) ≤ n := hw.1; have h2 : n ≤ 255 := hw.2; refine ⟨_, ⟨UInt8.ofNat n.toNat, rfl⟩, rfl, EH rfl ?_⟩; have e : ((UInt8.ofNat n.toNat).toNat : Int) = n := by
  rw [UInt8.toNat_ofNat']; omega
 rw [e]; exact .v _
end Go.Idl
namespace Go.Proofs.YtdgfbojdppohnaaGreatDoor
open Go Go.ChangeShapes Go.WideShapes Go.ChangeAt Go.RowKit Go.Idl
theorem Rz : ownKnob Tryz.prog.godebug = none := by kernel_rfl
theorem J9 : laidOutB Tryz.prog = true := by kernel_rfl
def Gy : List (String × DataW Unit) := Rows.httpRequestsRow.laid
theorem Og (os : Os) (args : Array Value) : laidMetH Tryz.prog Gy ((World.laidAll Tryz.prog os Gy).forCall (fun _ _ => 0) ⟨#[], args, []⟩).memory := by
 rw [MakeChecks.laidMetH_plain _ _ _ (by kernel_rfl)]; exact laidMet_laidAll _ (by kernel_rfl) (by kernel_rfl)
theorem LW (os : Os) : (World.laidAll Tryz.prog os Gy).Shaped Tryz.prog := World.shaped_of_ZipB (by kernel_rfl) (by kernel_rfl)
theorem Sj : "*" ++ "errors.errorString" = "*errors.errorString" := by decide
theorem Qa (u : TypeId) (h : Tryz.prog.typeName? 3 u = some "*errors.errorString") : u = 173 :=
  typeName_ptr_named (nm := "errors.errorString") (by rw [Sj]; kernel_rfl) (by kernel_rfl) (by decide) u (by rw [Sj]; exact h)
theorem Iy : Tryz.prog.cellsOf 175 = 1 := by kernel_rfl
theorem Nt : Tryz.prog.cellsOf 9 = 1 := by kernel_rfl
theorem UB : Tryz.prog.globalNamed "internal/strconv.uint64pow10" = some 2 := by kernel_rfl
theorem Yr : Tryz.prog.globalNamed "internal/bytealg.MaxLen" = some 3 := by kernel_rfl
theorem UC : Tryz.prog.globalNamed "strconv.ErrSyntax" = some 0 := by kernel_rfl
theorem UD : Tryz.prog.globalNamed "strconv.ErrRange" = some 1 := by kernel_rfl
theorem Oh {W : World} (hL : laidMetH Tryz.prog Gy W) (hs : W.ShapedOpen Tryz.prog) : ∃ vs : List (Nat × Array Value), (∀ p, p ∈ vs → ∃ el f, W.heap[p.1]? = some (.cells p.2 el f)) ∧ VOK Tryz.prog (HV vs) := by
 have h0 : laidMet Tryz.prog Gy W := hL; have h2 := h0.tail.tail; have hT : Lib.TabIs Tryz.prog W "internal/strconv.uint64pow10" .u64 Lib.pow10Tab :=
  Lib.tabIs_of_head (t := 162) (e := 135) (n := 20) UB (by kernel_rfl) Tryz.underlying162 Tryz.underlying135 (by kernel_rfl) (by kernel_rfl) h2
 obtain ⟨a3, s3, hv3, _, _, _⟩ := laid_sentinel h2.tail.tail UD (by kernel_rfl) Tryz.underlying65 Qa Tryz.underlying173 Tryz.underlying175 rfl rfl Tryz.underlying9 Iy Nt; obtain ⟨a2, s2, hv2, _, _, _⟩ := laid_sentinel h2.tail.tail.tail UC (by kernel_rfl) Tryz.underlying65 Qa Tryz.underlying173 Tryz.underlying175 rfl rfl Tryz.underlying9 Iy Nt; obtain ⟨m, hm⟩ := Tryz.Q9.s1_3 W hs; obtain ⟨x4, el4, f4, hx4, hm4⟩ := Ry hm; refine ⟨[(2, (Lib.pow10Tab.map fun z => Value.int .u64 z).toArray), (0, #[.iface 173 (.pointer (some a2))]), (1, #[.iface 173 (.pointer (some a3))]), (3, x4)], ?_, ?_⟩
 ·intro p hp; simp only [List.mem_cons, List.not_mem_nil, or_false] at hp; rcases hp with rfl | rfl | rfl | rfl
  ·exact N0 UB hT
  ·exact N0 UC hv2
  ·exact N0 UD hv3
  ·exact ⟨el4, f4, hx4⟩
 ·exact ⟨2, 0, 1, 3, 173, 173, .pointer (some a2), .pointer (some a3), x4, m, UB, UC, UD, Yr, hm4, List.mem_singleton.2 rfl⟩
section
variable {w : World} {Hh : Type} {enc : TypeId × Value → Hh}
theorem rd3 : RdZ Tryz.prog w enc 3 fun is => ∃ n : Int, is = [.v (.int .i64 n)] := (TA Tryz.underlying3).z
theorem rd9 : RdZ Tryz.prog w enc 9 fun is => ∃ s : List UInt8, is = [.v (str s)] := (N_ Tryz.underlying9).z
theorem Ys : RdZ Tryz.prog w enc 23 fun is => ∃ l : List UInt8, is = [.sl 1 (l.map fun x => [.v (.int .u8 x.toNat)])] := by
 have h := Pb (w := w) (enc := enc) (fun x : UInt8 => [IV.v (.int .u8 x.toNat)]) Tryz.underlying23 (Nat.lt_of_lt_of_eq Nat.one_pos Ml.symm) (WH Tryz.underlying5); rw [Ml] at h; exact h.z
abbrev cH (x : S55) : List IV := [.v (str x.fName), .v (str x.A6)]
theorem Yt : RdZ Tryz.prog w enc 56 fun is => ∃ x : S55, is = cH x := by
 refine (LU (w := w) (enc := enc) Tryz.underlying56 (by rw [GO, Kh]) rfl (by rw [GO]) rd9 rd9).mono ?_
 rintro is ⟨i0, i1, ⟨s, rfl⟩, ⟨u, rfl⟩, rfl⟩
 exact ⟨⟨s, u⟩, rfl⟩
theorem Yu : RdZ Tryz.prog w enc 24 fun is => ∃ l : List S55, is = [.sl 2 (l.map cH)] := by
 have h := Of (w := w) (enc := enc) cH Tryz.underlying24 (Nat.lt_of_lt_of_eq (by decide : 0 < 2) Kh.symm) Yt; rw [Kh] at h; exact h
abbrev cQ (a : S42) : List IV := [.v (str a.Ah), .v (str a.Ax), .sl 2 (a.A9.map cH), .sl 1 (a.Al.map fun x => [.v (.int .u8 x.toNat)])]
end
end Go.Proofs.YtdgfbojdppohnaaGreatDoor
namespace Go.Idl
open Go Go.Proofs.Tryz
noncomputable def He (v4 : Int) (v5 : List UInt8) : Option ((Int × (List UInt8)) ⊕ (List UInt8)) :=
 gd (0 ≤ (IntKind.u8.wrap (IntKind.i64.wrap (48 + (v4.tmod 10)))) ∧ (IntKind.u8.wrap (IntKind.i64.wrap (48 + (v4.tmod 10)))) ≤ 255) (gd (((([UInt8.ofNat (IntKind.u8.wrap (IntKind.i64.wrap (48 + (v4.tmod 10)))).toNat] : List UInt8)).length : Int) + v5.length ≤ 9223372036854775807) (if (IntKind.i64.wrap (v4.tdiv 10)) = 0 then (some (.inr ((([UInt8.ofNat (IntKind.u8.wrap (IntKind.i64.wrap (48 + (v4.tmod 10)))).toNat] : List UInt8)) ++ v5))) else (some (.inl ((IntKind.i64.wrap (v4.tdiv 10), (([UInt8.ofNat (IntKind.u8.wrap (IntKind.i64.wrap (48 + (v4.tmod 10)))).toNat] : List UInt8)) ++ v5))))))
noncomputable def F25 (a0 : Int) : Option (List UInt8) :=
 (AY (fun (s : Int × (List UInt8)) => He s.1 s.2) (a0, [])).bind fun (q : (List UInt8)) => some q
set_option maxHeartbeats 8000000 in
set_option pp.deepTerms false in
set_option maxRecDepth 60000 in
theorem UE {H : A0} {K : An → A0 → Prop} (a0 : Int) {r : (List UInt8)} (h : F25 a0 = some r) (hK : K (.ret (.v (str r))) H) : A2 prog 25 [.v (.int .i64 a0)] H K := by
 refine Aa (N := 17) func25 (by kernel_rfl) rfl (by kernel_rfl) (by kernel_rfl) fun cb hcb hw hbd hnb => ?_; clear hbd hnb; subst hcb; unfold F25 at h; refine A1 fun cb hc1 => ?_; refine vcK ?_
 try simp -implicitDefEqProofs (disch := omega) [go_sem]
 subst hc1; refine A1 fun cb hc2 => ?_; refine vcK ?_
 try simp -implicitDefEqProofs (disch := omega) [go_sem]
 subst hc2; obtain ⟨y3, hl3q, hk3⟩ := A4 h; refine Ag ?_; refine AQ (fun (s : Int × (List UInt8)) tm' H' => H = H' ∧ tm' 0 = .v (.int .i64 s.1) ∧ tm' 3 = .v (str s.2)) hl3q ?_ ?_
 ·refine .same ⟨rfl, ?_, ?_⟩ <;> first | with_reducible rfl | with_reducible assumption | (simp -implicitDefEqProofs (disch := omega) [go_sem] <;> omega)
 ·rintro I3 hI3 ⟨v4, v5⟩ x3 tm3 H3 ⟨rfl, AT, AU⟩ h hret3
  replace h : He v4 v5 = some x3 := h; unfold He at h; refine Ag ?_; refine A1 fun cb hc6 => ?_; refine vcK ?_; obtain ⟨g7, h⟩ := A8.1 h
  try simp (disch := omega) at g7
  obtain ⟨g8, h⟩ := A8.1 h
  try simp (disch := omega) at g8
  try simp -implicitDefEqProofs (disch := omega) [go_sem] at g7
  try simp -implicitDefEqProofs (disch := omega) [go_sem] at g8
  try simp -implicitDefEqProofs (disch := omega) [go_sem, AT, AU]
  subst hc6; refine A1 fun cb hc9 => ?_; refine vcK ?_
  try simp -implicitDefEqProofs (disch := omega) [go_sem, AT, AU]
  subst hc9; refine A1 fun cb hc10 => ?_; refine vcK ?_
  try simp -implicitDefEqProofs (disch := omega) [go_sem, AT, AU]
  subst hc10; refine Ac h (by first | with_reducible rfl | (simp -implicitDefEqProofs (disch := omega) [go_sem, AT, AU] <;> omega)) rfl ?_ ?_
  ·intro c11 h
   try simp (disch := omega) at c11
   refine A1 fun cb hc12 => ?_; refine vcK ?_
   try simp -implicitDefEqProofs (disch := omega) [go_sem, AT, AU]
   subst hc12; refine vcK ?_; simp -implicitDefEqProofs only [go_sem]; have e3 := Option.some.inj h; subst e3; have e3 := hret3 _ rfl; subst e3; replace h : some ((([UInt8.ofNat (IntKind.u8.wrap (IntKind.i64.wrap (48 + (v4.tmod 10)))).toNat] : List UInt8)) ++ v5) = some r := hk3; have er := Option.some.inj h; subst er
   try simp -implicitDefEqProofs (disch := omega) [go_sem, AT, AU]
   refine A3 (by exact A7 (Ext.refl hw)) (by first | with_reducible rfl | (simp -implicitDefEqProofs (disch := omega) [go_sem, AT, AU] <;> omega)) nbA hK
  ·intro c11 h
   try simp (disch := omega) at c11
   refine vcK ?_; simp -implicitDefEqProofs only [go_sem]; have e3 := Option.some.inj h; subst e3; refine Ap hI3 ((IntKind.i64.wrap (v4.tdiv 10), (([UInt8.ofNat (IntKind.u8.wrap (IntKind.i64.wrap (48 + (v4.tmod 10)))).toNat] : List UInt8)) ++ v5)) ?_; refine .same ⟨rfl, ?_, ?_⟩ <;> first | with_reducible rfl | with_reducible assumption | (simp -implicitDefEqProofs (disch := omega) [go_sem, AT, AU] <;> omega)
end Go.Idl
