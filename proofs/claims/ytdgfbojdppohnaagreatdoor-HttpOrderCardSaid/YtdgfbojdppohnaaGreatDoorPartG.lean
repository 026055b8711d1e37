/- Heads in any order, their names in great letters, are the same heads: the saying of the case law 12 Part 7. Conditions: none. -/
import Derived.Test.YtdgfbojdppohnaaGreatDoorPartF
set_option linter.unusedSimpArgs false
set_option linter.unusedVariables false
namespace Go.Idl
open Go Go.Proofs.Tryz
noncomputable def Hf (a0 : S42) (v33 : List UInt8) : Option (Except Unit (Bool)) :=
 gd ((v33.length : Int) + (([13, 10]) : List UInt8).length ≤ 9223372036854775807) (gd (((v33 ++ (([13, 10]) : List UInt8)).length : Int) + a0.Al.length ≤ 9223372036854775807) (gd ((((v33 ++ (([13, 10]) : List UInt8)) ++ a0.Al).length : Int) ≤ 9223372036854775807) ((F20 ((v33 ++ (([13, 10]) : List UInt8)) ++ a0.Al)).bind fun (x38 : Except Unit (S42 × Int)) => orP x38 (fun (ex38 : Unit) => some (.error ex38)) (fun (y39 : S42 × Int) => if y39.2 = 0 then ((F22 y39.1 a0).bind fun (x41 : Bool) => if x41 = true then ((F9 ).bind fun (x42 : Except Unit (Bool)) => orP x42 (fun (ex42 : Unit) => some (.error ex42)) (fun (y43 : Bool) => some (.ok y43))) else (some (.ok false))) else (some (.ok false))))))
noncomputable def KM (a0 : S42) (v31 : List UInt8) : Option (Except Unit (Bool)) :=
 if 0 < (a0.Al.length : Int) then (gd ((v31.length : Int) + (([67, 111, 110, 116, 101, 110, 116, 45, 76, 101, 110, 103, 116, 104, 58, 9]) : List UInt8).length ≤ 9223372036854775807) ((F25 (a0.Al.length : Int)).bind fun (x49 : (List UInt8)) => gd (((v31 ++ (([67, 111, 110, 116, 101, 110, 116, 45, 76, 101, 110, 103, 116, 104, 58, 9]) : List UInt8)).length : Int) + x49.length ≤ 9223372036854775807) (gd ((((v31 ++ (([67, 111, 110, 116, 101, 110, 116, 45, 76, 101, 110, 103, 116, 104, 58, 9]) : List UInt8)) ++ x49).length : Int) + (([13, 10]) : List UInt8).length ≤ 9223372036854775807) (Hf a0 (((v31 ++ (([67, 111, 110, 116, 101, 110, 116, 45, 76, 101, 110, 103, 116, 104, 58, 9]) : List UInt8)) ++ x49) ++ (([13, 10]) : List UInt8)))))) else (Hf a0 v31)
noncomputable def KN (a0 : S42) (a1 : Int) (v29 : List UInt8) (v30 : Int) (v67 : List UInt8) : Option (((List UInt8) × Int) ⊕ (List UInt8)) :=
 gd ((v29.length : Int) + v67.length ≤ 9223372036854775807) (gd (((v29 ++ v67).length : Int) + (([58]) : List UInt8).length ≤ 9223372036854775807) (gd ((((v29 ++ v67) ++ (([58]) : List UInt8)).length : Int) + ((a0.A9.getD ((IntKind.i64.wrap (v30 + a1)).tmod (a0.A9.length : Int)).toNat S55.zero).A6).length ≤ 9223372036854775807) (gd (((((v29 ++ v67) ++ (([58]) : List UInt8)) ++ ((a0.A9.getD ((IntKind.i64.wrap (v30 + a1)).tmod (a0.A9.length : Int)).toNat S55.zero).A6)).length : Int) + (([32, 32, 13, 10]) : List UInt8).length ≤ 9223372036854775807) (some (.inl (((((v29 ++ v67) ++ (([58]) : List UInt8)) ++ ((a0.A9.getD ((IntKind.i64.wrap (v30 + a1)).tmod (a0.A9.length : Int)).toNat S55.zero).A6)) ++ (([32, 32, 13, 10]) : List UInt8), IntKind.i64.wrap (v30 + 1))))))))
noncomputable def EU (a1 : Int) (v64 : List UInt8) (v66 : Int) : Option (((List UInt8) × Int) ⊕ (List UInt8)) :=
 if v66 < (v64.length : Int) then (gd (0 ≤ v66 ∧ v66 < v64.length) (if 97 ≤ (((v64.getD v66.toNat 0).toNat : Int)) then (if (((v64.getD v66.toNat 0).toNat : Int)) ≤ 122 then (if ((IntKind.i64.wrap (v66 + a1)).tmod 2) = 0 then (gd (0 ≤ (IntKind.u8.wrap ((((v64.getD v66.toNat 0).toNat : Int)) - 32)) ∧ (IntKind.u8.wrap ((((v64.getD v66.toNat 0).toNat : Int)) - 32)) ≤ 255) (some (.inl ((v64.set v66.toNat (UInt8.ofNat (IntKind.u8.wrap ((((v64.getD v66.toNat 0).toNat : Int)) - 32)).toNat), IntKind.i64.wrap (v66 + 1)))))) else (some (.inl ((v64, IntKind.i64.wrap (v66 + 1)))))) else (some (.inl ((v64, IntKind.i64.wrap (v66 + 1)))))) else (some (.inl ((v64, IntKind.i64.wrap (v66 + 1))))))) else (some (.inr v64))
noncomputable def Ek (a0 : S42) (a1 : Int) (v29 : List UInt8) (v30 : Int) : Option (((List UInt8) × Int) ⊕ (List UInt8)) :=
 if v30 < (a0.A9.length : Int) then (gd (¬ (a0.A9.length : Int) = 0) (gd (0 ≤ ((IntKind.i64.wrap (v30 + a1)).tmod (a0.A9.length : Int)) ∧ ((IntKind.i64.wrap (v30 + a1)).tmod (a0.A9.length : Int)) < a0.A9.length) (gd ((((a0.A9.getD ((IntKind.i64.wrap (v30 + a1)).tmod (a0.A9.length : Int)).toNat S55.zero).fName).length : Int) ≤ 9223372036854775807) ((AY (fun (s : (List UInt8) × Int) => EU a1 s.1 s.2) ((((a0.A9.getD ((IntKind.i64.wrap (v30 + a1)).tmod (a0.A9.length : Int)).toNat S55.zero).fName)), 0)).bind fun (e : (List UInt8)) => KN a0 a1 v29 v30 e)))) else (some (.inr v29))
noncomputable def F8 (a0 : S42) (a1 : Int) : Option (Except Unit (Bool)) :=
 (F15 a0.A9 a0.Al).bind fun (x4 : Bool) => if ¬ (x4 = true) then ((F9 ).bind fun (x6 : Except Unit (Bool)) => orP x6 (fun (ex6 : Unit) => some (.error ex6)) (fun (y7 : Bool) => some (.ok y7))) else (if 400 < (IntKind.i64.wrap ((a0.Ah.length : Int) + (a0.Ax.length : Int))) then ((F9 ).bind fun (x9 : Except Unit (Bool)) => orP x9 (fun (ex9 : Unit) => some (.error ex9)) (fun (y10 : Bool) => some (.ok y10))) else ((F19 a0).bind fun (x11 : Bool) => if ¬ (x11 = true) then ((F9 ).bind fun (x13 : Except Unit (Bool)) => orP x13 (fun (ex13 : Unit) => some (.error ex13)) (fun (y14 : Bool) => some (.ok y14))) else (if a1 < 0 then ((F9 ).bind fun (x16 : Except Unit (Bool)) => orP x16 (fun (ex16 : Unit) => some (.error ex16)) (fun (y17 : Bool) => some (.ok y17))) else (if 1000 < a1 then ((F9 ).bind fun (x20 : Except Unit (Bool)) => orP x20 (fun (ex20 : Unit) => some (.error ex20)) (fun (y21 : Bool) => some (.ok y21))) else (gd ((a0.Ah.length : Int) + (([32]) : List UInt8).length ≤ 9223372036854775807) (gd (((a0.Ah ++ (([32]) : List UInt8)).length : Int) + a0.Ax.length ≤ 9223372036854775807) (gd ((((a0.Ah ++ (([32]) : List UInt8)) ++ a0.Ax).length : Int) + (([32, 72, 84, 84, 80, 47, 49, 46, 49, 13, 10]) : List UInt8).length ≤ 9223372036854775807) ((AY (fun (s : (List UInt8) × Int) => Ek a0 a1 s.1 s.2) ((((a0.Ah ++ (([32]) : List UInt8)) ++ a0.Ax) ++ (([32, 72, 84, 84, 80, 47, 49, 46, 49, 13, 10]) : List UInt8)), 0)).bind fun (e : (List UInt8)) => KM a0 e))))))))
set_option maxHeartbeats 8000000 in
set_option pp.deepTerms false in
set_option maxRecDepth 60000 in
theorem WI {H : A0} {K : An → A0 → Prop} (a0 : S42) (a1 : Int) (hV : VOK prog H) {r : Except Unit (Bool)} (h : F8 a0 a1 = some r) (hP : ∀ e, r = .error e → K (.pan (Ci e)) H) (hK : ∀ v : Bool, r = .ok v → K (.ret (.v (.bool v))) H) : A2 prog 8 [.ag ([.v (str a0.Ah), .v (str a0.Ax), .sl 2 (a0.A9.map fun x => [.v (str x.fName), .v (str x.A6)]), .sl 1 (a0.Al.map fun x => [.v (.int .u8 x.toNat)])]), .v (.int .i64 a1)] H K := by
 refine Aa (N := 145) func8 (by kernel_rfl) rfl (by kernel_rfl) (by kernel_rfl) fun cb hcb hw hbd hnb => ?_; clear hbd hnb; subst hcb; unfold F8 at h; refine A1 fun cb hc1 => ?_; refine vcK ?_
 try simp -implicitDefEqProofs (disch := omega) [go_sem]
 subst hc1; refine A1 fun cb hc2 => ?_; refine A1 fun cb hc3 => ?_; refine vcK ?_
 try simp -implicitDefEqProofs (disch := omega) [go_sem]
 obtain ⟨x4, hx4, h⟩ := A4 h; refine A2.eqA (args' := [.sl 2 (a0.A9.map fun x => [.v (str x.fName), .v (str x.A6)]), .sl 1 (a0.Al.map fun x => [.v (.int .u8 x.toNat)])]) (by first | with_reducible rfl | (simp -implicitDefEqProofs (disch := omega) [go_sem] <;> omega)) (TZ a0.A9 a0.Al hx4 ?_)
 try simp -implicitDefEqProofs (disch := omega) [go_sem]
 refine A5 h (by first | with_reducible rfl | (simp -implicitDefEqProofs (disch := omega) [go_sem] <;> omega)) ?_ ?_
 ·intro c97 h
  try simp (disch := omega) at c97
  try simp -implicitDefEqProofs (disch := omega) [go_sem]
  subst hc3; refine Aq (by first | with_reducible rfl | (simp -implicitDefEqProofs (disch := omega) [go_sem] <;> omega)) rfl ?_; refine A1 fun cb hc5 => ?_; refine vcK ?_
  try simp -implicitDefEqProofs (disch := omega) [go_sem]
  obtain ⟨x6, hx6, h⟩ := A4 h; refine A2.eqA (args' := []) (by first | with_reducible rfl | (simp -implicitDefEqProofs (disch := omega) [go_sem] <;> omega)) (JO  (by first | exact hV.of rfl | exact hV.of ((Ext.refl hw)).sn | exact hV.of (Ext.sn (H := H) (by exact A7 (Ext.refl hw))) | exact (VOK.of hV rfl).tok | exact (VOK.of hV ((Ext.refl hw)).sn).tok | exact (VOK.of hV (Ext.sn (H := H) (by exact A7 (Ext.refl hw)))).tok) hx6 ?_ ?_)
  ·intro ex6 qx6; subst qx6; replace h := AO h; have er := Option.some.inj h; subst er
   try simp -implicitDefEqProofs (disch := omega) [go_sem]
   exact BA (by exact Bt (Ext.refl hw)) (Dl.refl _) (hP _ rfl)
  intro y7 qx6; subst qx6; replace h := Bh h
  try simp -implicitDefEqProofs (disch := omega) [go_sem]
  subst hc5; refine vcK ?_; simp -implicitDefEqProofs only [go_sem]; have er := Option.some.inj h; subst er
  try simp -implicitDefEqProofs (disch := omega) [go_sem]
  refine A3 (by exact A7 (Ext.refl hw)) (by first | with_reducible rfl | (simp -implicitDefEqProofs (disch := omega) [go_sem] <;> omega)) nbA (hK _ rfl)
 ·intro c97 h
  try simp (disch := omega) at c97
  try simp -implicitDefEqProofs (disch := omega) [go_sem]
  refine A5 h (by first | with_reducible rfl | (simp -implicitDefEqProofs (disch := omega) [go_sem] <;> omega)) ?_ ?_
  ·intro c96 h
   try simp (disch := omega) at c96
   try simp -implicitDefEqProofs (disch := omega) [go_sem]
   subst hc3; refine Aq (by first | with_reducible rfl | (simp -implicitDefEqProofs (disch := omega) [go_sem] <;> omega)) rfl ?_; refine A1 fun cb hc8 => ?_; refine vcK ?_
   try simp -implicitDefEqProofs (disch := omega) [go_sem]
   obtain ⟨x9, hx9, h⟩ := A4 h; refine A2.eqA (args' := []) (by first | with_reducible rfl | (simp -implicitDefEqProofs (disch := omega) [go_sem] <;> omega)) (JO  (by first | exact hV.of rfl | exact hV.of ((Ext.refl hw)).sn | exact hV.of (Ext.sn (H := H) (by exact A7 (Ext.refl hw))) | exact (VOK.of hV rfl).tok | exact (VOK.of hV ((Ext.refl hw)).sn).tok | exact (VOK.of hV (Ext.sn (H := H) (by exact A7 (Ext.refl hw)))).tok) hx9 ?_ ?_)
   ·intro ex9 qx9; subst qx9; replace h := AO h; have er := Option.some.inj h; subst er
    try simp -implicitDefEqProofs (disch := omega) [go_sem]
    exact BA (by exact Bt (Ext.refl hw)) (Dl.refl _) (hP _ rfl)
   intro y10 qx9; subst qx9; replace h := Bh h
   try simp -implicitDefEqProofs (disch := omega) [go_sem]
   subst hc8; refine vcK ?_; simp -implicitDefEqProofs only [go_sem]; have er := Option.some.inj h; subst er
   try simp -implicitDefEqProofs (disch := omega) [go_sem]
   refine A3 (by exact A7 (Ext.refl hw)) (by first | with_reducible rfl | (simp -implicitDefEqProofs (disch := omega) [go_sem] <;> omega)) nbA (hK _ rfl)
  ·intro c96 h
   try simp (disch := omega) at c96
   try simp -implicitDefEqProofs (disch := omega) [go_sem]
   obtain ⟨x11, hx11, h⟩ := A4 h; refine A2.eqA (args' := [.ag ([.v (str a0.Ah), .v (str a0.Ax), .sl 2 (a0.A9.map fun x => [.v (str x.fName), .v (str x.A6)]), .sl 1 (a0.Al.map fun x => [.v (.int .u8 x.toNat)])])]) (by first | with_reducible rfl | (simp -implicitDefEqProofs (disch := omega) [go_sem] <;> omega)) (U5 a0 hx11 ?_)
   try simp -implicitDefEqProofs (disch := omega) [go_sem]
   refine A5 h (by first | with_reducible rfl | (simp -implicitDefEqProofs (disch := omega) [go_sem] <;> omega)) ?_ ?_
   ·intro c95 h
    try simp (disch := omega) at c95
    try simp -implicitDefEqProofs (disch := omega) [go_sem]
    subst hc3; refine Aq (by first | with_reducible rfl | (simp -implicitDefEqProofs (disch := omega) [go_sem] <;> omega)) rfl ?_; refine A1 fun cb hc12 => ?_; refine vcK ?_
    try simp -implicitDefEqProofs (disch := omega) [go_sem]
    obtain ⟨x13, hx13, h⟩ := A4 h; refine A2.eqA (args' := []) (by first | with_reducible rfl | (simp -implicitDefEqProofs (disch := omega) [go_sem] <;> omega)) (JO  (by first | exact hV.of rfl | exact hV.of ((Ext.refl hw)).sn | exact hV.of (Ext.sn (H := H) (by exact A7 (Ext.refl hw))) | exact (VOK.of hV rfl).tok | exact (VOK.of hV ((Ext.refl hw)).sn).tok | exact (VOK.of hV (Ext.sn (H := H) (by exact A7 (Ext.refl hw)))).tok) hx13 ?_ ?_)
    ·intro ex13 qx13; subst qx13; replace h := AO h; have er := Option.some.inj h; subst er
     try simp -implicitDefEqProofs (disch := omega) [go_sem]
     exact BA (by exact Bt (Ext.refl hw)) (Dl.refl _) (hP _ rfl)
    intro y14 qx13; subst qx13; replace h := Bh h
    try simp -implicitDefEqProofs (disch := omega) [go_sem]
    subst hc12; refine vcK ?_; simp -implicitDefEqProofs only [go_sem]; have er := Option.some.inj h; subst er
    try simp -implicitDefEqProofs (disch := omega) [go_sem]
    refine A3 (by exact A7 (Ext.refl hw)) (by first | with_reducible rfl | (simp -implicitDefEqProofs (disch := omega) [go_sem] <;> omega)) nbA (hK _ rfl)
   ·intro c95 h
    try simp (disch := omega) at c95
    try simp -implicitDefEqProofs (disch := omega) [go_sem]
    refine A5 h (by first | with_reducible rfl | (simp -implicitDefEqProofs (disch := omega) [go_sem] <;> omega)) ?_ ?_
    ·intro c94 h
     try simp (disch := omega) at c94
     try simp -implicitDefEqProofs (disch := omega) [go_sem]
     subst hc3; refine Aq (by first | with_reducible rfl | (simp -implicitDefEqProofs (disch := omega) [go_sem] <;> omega)) rfl ?_; refine A1 fun cb hc15 => ?_; refine vcK ?_
     try simp -implicitDefEqProofs (disch := omega) [go_sem]
     obtain ⟨x16, hx16, h⟩ := A4 h; refine A2.eqA (args' := []) (by first | with_reducible rfl | (simp -implicitDefEqProofs (disch := omega) [go_sem] <;> omega)) (JO  (by first | exact hV.of rfl | exact hV.of ((Ext.refl hw)).sn | exact hV.of (Ext.sn (H := H) (by exact A7 (Ext.refl hw))) | exact (VOK.of hV rfl).tok | exact (VOK.of hV ((Ext.refl hw)).sn).tok | exact (VOK.of hV (Ext.sn (H := H) (by exact A7 (Ext.refl hw)))).tok) hx16 ?_ ?_)
     ·intro ex16 qx16; subst qx16; replace h := AO h; have er := Option.some.inj h; subst er
      try simp -implicitDefEqProofs (disch := omega) [go_sem]
      exact BA (by exact Bt (Ext.refl hw)) (Dl.refl _) (hP _ rfl)
     intro y17 qx16; subst qx16; replace h := Bh h
     try simp -implicitDefEqProofs (disch := omega) [go_sem]
     subst hc15; refine vcK ?_; simp -implicitDefEqProofs only [go_sem]; have er := Option.some.inj h; subst er
     try simp -implicitDefEqProofs (disch := omega) [go_sem]
     refine A3 (by exact A7 (Ext.refl hw)) (by first | with_reducible rfl | (simp -implicitDefEqProofs (disch := omega) [go_sem] <;> omega)) nbA (hK _ rfl)
    ·intro c94 h
     try simp (disch := omega) at c94
     try simp -implicitDefEqProofs (disch := omega) [go_sem]
     subst hc3; refine Ac h (by first | with_reducible rfl | (simp -implicitDefEqProofs (disch := omega) [go_sem] <;> omega)) rfl ?_ ?_
     ·intro c18 h
      try simp (disch := omega) at c18
      refine A1 fun cb hc19 => ?_; refine vcK ?_
      try simp -implicitDefEqProofs (disch := omega) [go_sem]
      obtain ⟨x20, hx20, h⟩ := A4 h; refine A2.eqA (args' := []) (by first | with_reducible rfl | (simp -implicitDefEqProofs (disch := omega) [go_sem] <;> omega)) (JO  (by first | exact hV.of rfl | exact hV.of ((Ext.refl hw)).sn | exact hV.of (Ext.sn (H := H) (by exact A7 (Ext.refl hw))) | exact (VOK.of hV rfl).tok | exact (VOK.of hV ((Ext.refl hw)).sn).tok | exact (VOK.of hV (Ext.sn (H := H) (by exact A7 (Ext.refl hw)))).tok) hx20 ?_ ?_)
      ·intro ex20 qx20; subst qx20; replace h := AO h; have er := Option.some.inj h; subst er
       try simp -implicitDefEqProofs (disch := omega) [go_sem]
       exact BA (by exact Bt (Ext.refl hw)) (Dl.refl _) (hP _ rfl)
      intro y21 qx20; subst qx20; replace h := Bh h
      try simp -implicitDefEqProofs (disch := omega) [go_sem]
      subst hc19; refine vcK ?_; simp -implicitDefEqProofs only [go_sem]; have er := Option.some.inj h; subst er
      try simp -implicitDefEqProofs (disch := omega) [go_sem]
      refine A3 (by exact A7 (Ext.refl hw)) (by first | with_reducible rfl | (simp -implicitDefEqProofs (disch := omega) [go_sem] <;> omega)) nbA (hK _ rfl)
     ·intro c18 h
      try simp (disch := omega) at c18
      refine vcK ?_; simp -implicitDefEqProofs only [go_sem]; subst hc2; refine A1 fun cb hc22 => ?_; refine vcK ?_; obtain ⟨g23, h⟩ := A8.1 h
      try simp (disch := omega) at g23
      obtain ⟨g24, h⟩ := A8.1 h
      try simp (disch := omega) at g24
      obtain ⟨g25, h⟩ := A8.1 h
      try simp (disch := omega) at g25
      try simp -implicitDefEqProofs (disch := omega) [go_sem]
      subst hc22; refine A1 fun cb hc26 => ?_; refine A1 fun cb hc27 => ?_; refine vcK ?_
      try simp -implicitDefEqProofs (disch := omega) [go_sem]
      subst hc27; obtain ⟨y28, hl28q, hk28⟩ := A4 h; refine AZ (fun tm' H' => ∃ v31 : List UInt8, v31 = y28 ∧ Ext H H' ∧ H.next + 1 ≤ H'.next ∧ tm' 2 = .p H.next 0 ∧ tm' 5 = .v (str v31) ∧ H'.obj H.next = some (.cells ([.v (str a0.Ah), .v (str a0.Ax), .sl 2 (a0.A9.map fun x => [.v (str x.fName), .v (str x.A6)]), .sl 1 (a0.Al.map fun x => [.v (.int .u8 x.toNat)])]))) ?_ fun cb hc28 => ?_
      ·rintro tm28e H28e ⟨v31, rfl, he28e, hl28e, t2_28e, t5_28e, ob0_28e⟩
       have h : KM a0 v31 = some r := hk28; unfold KM at h; simp -implicitDefEqProofs only [go_sem]; subst hc26; refine P0 (fun tm' H' => ∃ v33 : List UInt8, H28e = H' ∧ tm' 2 = .p H.next 0 ∧ tm' 5 = .v (str v33) ∧ Hf a0 v33 = some r) ?_ fun cb hc32 => ?_
       ·rintro tm32 H32 ⟨v33, rfl, C4, C5, h⟩
        unfold Hf at h; refine A1 fun cb hc34 => ?_; refine vcK ?_; obtain ⟨g35, h⟩ := A8.1 h
        try simp (disch := omega) at g35
        obtain ⟨g36, h⟩ := A8.1 h
        try simp (disch := omega) at g36
        obtain ⟨g37, h⟩ := A8.1 h
        try simp (disch := omega) at g37
        try simp -implicitDefEqProofs (disch := omega) [go_sem, C4, C5, ob0_28e]
        refine CQ ((v33 ++ (([13, 10]) : List UInt8)) ++ a0.Al) rfl (by kernel_rfl) underlying9 underlying23 underlying5 (by first | with_reducible rfl | (simp -implicitDefEqProofs (disch := omega) [go_sem, C4, C5, ob0_28e]; done) | rfl) (by first | omega | decide | (simp; omega) | (simp (disch := omega); omega)) ?_
        try simp -implicitDefEqProofs (disch := omega) [go_sem, C4, C5, ob0_28e]
        obtain ⟨x38, hx38, h⟩ := A4 h; refine A2.eqA (args' := [.sl 1 (((v33 ++ (([13, 10]) : List UInt8)) ++ a0.Al).map fun x => [.v (.int .u8 x.toNat)])]) (by first | with_reducible rfl | (simp -implicitDefEqProofs (disch := omega) [go_sem, C4, C5, ob0_28e] <;> omega)) (U9 ((v33 ++ (([13, 10]) : List UInt8)) ++ a0.Al) (by first | exact hV.of rfl | exact hV.of (he28e).sn | exact hV.of (Ext.sn (H := H) (by exact A7 he28e)) | exact (VOK.of hV rfl).tok | exact (VOK.of hV (he28e).sn).tok | exact (VOK.of hV (Ext.sn (H := H) (by exact A7 he28e))).tok) hx38 ?_ ?_)
        ·intro ex38 qx38; subst qx38; replace h := AO h; have er := Option.some.inj h; subst er
         try simp -implicitDefEqProofs (disch := omega) [go_sem, C4, C5, ob0_28e]
         exact BA (by exact Bt he28e) (Dl.refl _) (hP _ rfl)
        intro y39 qx38; subst qx38; replace h := Bh h
        try simp -implicitDefEqProofs (disch := omega) [go_sem, C4, C5, ob0_28e]
        subst hc34; refine A1 fun cb hc40 => ?_; refine vcK ?_
        try simp -implicitDefEqProofs (disch := omega) [go_sem, C4, C5, ob0_28e]
        refine A5 h (by first | with_reducible rfl | (simp -implicitDefEqProofs (disch := omega) [go_sem, C4, C5, ob0_28e] <;> omega)) ?_ ?_
        ·intro c45 h
         try simp (disch := omega) at c45
         try simp -implicitDefEqProofs (disch := omega) [go_sem, C4, C5, ob0_28e]
         obtain ⟨x41, hx41, h⟩ := A4 h; refine A2.eqA (args' := [.ag ([.v (str y39.1.Ah), .v (str y39.1.Ax), .sl 2 (y39.1.A9.map fun x => [.v (str x.fName), .v (str x.A6)]), .sl 1 (y39.1.Al.map fun x => [.v (.int .u8 x.toNat)])]), .ag ([.v (str a0.Ah), .v (str a0.Ax), .sl 2 (a0.A9.map fun x => [.v (str x.fName), .v (str x.A6)]), .sl 1 (a0.Al.map fun x => [.v (.int .u8 x.toNat)])])]) (by first | with_reducible rfl | (simp -implicitDefEqProofs (disch := omega) [go_sem, C4, C5, ob0_28e] <;> omega)) (Ub y39.1 a0 hx41 ?_)
         try simp -implicitDefEqProofs (disch := omega) [go_sem, C4, C5, ob0_28e]
         refine A5 h (by first | with_reducible rfl | (simp -implicitDefEqProofs (disch := omega) [go_sem, C4, C5, ob0_28e] <;> omega)) ?_ ?_
         ·intro c44 h
          try simp (disch := omega) at c44
          try simp -implicitDefEqProofs (disch := omega) [go_sem, C4, C5, ob0_28e]
          obtain ⟨x42, hx42, h⟩ := A4 h; refine A2.eqA (args' := []) (by first | with_reducible rfl | (simp -implicitDefEqProofs (disch := omega) [go_sem, C4, C5, ob0_28e] <;> omega)) (JO  (by first | exact hV.of rfl | exact hV.of (he28e).sn | exact hV.of (Ext.sn (H := H) (by exact A7 he28e)) | exact (VOK.of hV rfl).tok | exact (VOK.of hV (he28e).sn).tok | exact (VOK.of hV (Ext.sn (H := H) (by exact A7 he28e))).tok) hx42 ?_ ?_)
          ·intro ex42 qx42; subst qx42; replace h := AO h; have er := Option.some.inj h; subst er
           try simp -implicitDefEqProofs (disch := omega) [go_sem, C4, C5, ob0_28e]
           exact BA (by exact Bt he28e) (Dl.refl _) (hP _ rfl)
          intro y43 qx42; subst qx42; replace h := Bh h
          try simp -implicitDefEqProofs (disch := omega) [go_sem, C4, C5, ob0_28e]
          subst hc40; refine vcK ?_; simp -implicitDefEqProofs only [go_sem]; have er := Option.some.inj h; subst er
          try simp -implicitDefEqProofs (disch := omega) [go_sem, C4, C5, ob0_28e]
          refine A3 (by exact A7 he28e) (by first | with_reducible rfl | (simp -implicitDefEqProofs (disch := omega) [go_sem, C4, C5, ob0_28e] <;> omega)) nbA (hK _ rfl)
         ·intro c44 h
          try simp (disch := omega) at c44
          try simp -implicitDefEqProofs (disch := omega) [go_sem, C4, C5, ob0_28e]
          subst hc40; refine vcK ?_; simp -implicitDefEqProofs only [go_sem]; have er := Option.some.inj h; subst er
          try simp -implicitDefEqProofs (disch := omega) [go_sem, C4, C5, ob0_28e]
          refine A3 (by exact A7 he28e) (by first | with_reducible rfl | (simp -implicitDefEqProofs (disch := omega) [go_sem, C4, C5, ob0_28e] <;> omega)) nbA (hK _ rfl)
        ·intro c45 h
         try simp (disch := omega) at c45
         try simp -implicitDefEqProofs (disch := omega) [go_sem, C4, C5, ob0_28e]
         subst hc40; refine vcK ?_; simp -implicitDefEqProofs only [go_sem]; have er := Option.some.inj h; subst er
         try simp -implicitDefEqProofs (disch := omega) [go_sem, C4, C5, ob0_28e]
         refine A3 (by exact A7 he28e) (by first | with_reducible rfl | (simp -implicitDefEqProofs (disch := omega) [go_sem, C4, C5, ob0_28e] <;> omega)) nbA (hK _ rfl)
       ·refine A1 fun cb hc46 => ?_; refine vcK ?_
        try simp -implicitDefEqProofs (disch := omega) [go_sem, t2_28e, t5_28e, ob0_28e]
        subst hc46; refine Ac h (by first | with_reducible rfl | (simp -implicitDefEqProofs (disch := omega) [go_sem, t2_28e, t5_28e, ob0_28e] <;> omega)) rfl ?_ ?_
        ·intro c47 h
         try simp (disch := omega) at c47
         refine vcK ?_; obtain ⟨g48, h⟩ := A8.1 h
         try simp (disch := omega) at g48
         try simp -implicitDefEqProofs (disch := omega) [go_sem, t2_28e, t5_28e, ob0_28e]
         obtain ⟨x49, hx49, h⟩ := A4 h; refine A2.eqA (args' := [.v (.int .i64 (a0.Al.length : Int))]) (by first | with_reducible rfl | (simp -implicitDefEqProofs (disch := omega) [go_sem, t2_28e, t5_28e, ob0_28e] <;> omega)) (UE (a0.Al.length : Int) hx49 ?_); obtain ⟨g50, h⟩ := A8.1 h
         try simp (disch := omega) at g50
         obtain ⟨g51, h⟩ := A8.1 h
         try simp (disch := omega) at g51
         try simp -implicitDefEqProofs (disch := omega) [go_sem, t2_28e, t5_28e, ob0_28e]
         refine hc32 _ _ ?_; refine .same ⟨(((v31 ++ (([67, 111, 110, 116, 101, 110, 116, 45, 76, 101, 110, 103, 116, 104, 58, 9]) : List UInt8)) ++ x49) ++ (([13, 10]) : List UInt8)), rfl, ?_, ?_, h⟩ <;> first | with_reducible rfl | with_reducible assumption | (simp -implicitDefEqProofs (disch := omega) [go_sem, t2_28e, t5_28e, ob0_28e] <;> omega)
        ·intro c47 h
         try simp (disch := omega) at c47
         refine vcK ?_; simp -implicitDefEqProofs only [go_sem]; refine hc32 _ _ ?_; refine .same ⟨v31, rfl, ?_, ?_, h⟩ <;> first | with_reducible rfl | with_reducible assumption | (simp -implicitDefEqProofs (disch := omega) [go_sem, t2_28e, t5_28e, ob0_28e] <;> omega)
      ·refine Ag ?_; refine AQ (fun (s : (List UInt8) × Int) tm' H' => Ext H H' ∧ H.next + 1 ≤ H'.next ∧ tm' 1 = .v (.int .i64 a1) ∧ tm' 2 = .p H.next 0 ∧ tm' 5 = .v (str s.1) ∧ tm' 6 = .v (.int .i64 s.2) ∧ H'.obj H.next = some (.cells ([.v (str a0.Ah), .v (str a0.Ax), .sl 2 (a0.A9.map fun x => [.v (str x.fName), .v (str x.A6)]), .sl 1 (a0.Al.map fun x => [.v (.int .u8 x.toNat)])]))) hl28q ?_ ?_
       ·refine .same ⟨by exact A7 (Ext.refl hw), by first | with_reducible rfl | with_reducible assumption | omega | (simp -implicitDefEqProofs (disch := omega) [go_sem] <;> omega), ?_, ?_, ?_, ?_, ?_⟩ <;> first | with_reducible rfl | with_reducible assumption | (simp -implicitDefEqProofs (disch := omega) [go_sem] <;> omega)
       ·rintro I28 hI28 ⟨v29, v30⟩ x28 tm28 H28 ⟨he28, hl28, Dt, Du, Dv, Dw, Cp⟩ h hret28
        replace h : Ek a0 a1 v29 v30 = some x28 := h; unfold Ek at h; refine A1 fun cb hc52 => ?_; refine A1 fun cb hc53 => ?_; refine vcK ?_
        try simp -implicitDefEqProofs (disch := omega) [go_sem, Dt, Du, Dv, Dw, Cp]
        subst hc53; refine Ac h (by first | with_reducible rfl | (simp -implicitDefEqProofs (disch := omega) [go_sem, Dt, Du, Dv, Dw, Cp] <;> omega)) rfl ?_ ?_
        ·intro c54 h
         try simp (disch := omega) at c54
         refine vcK ?_; simp -implicitDefEqProofs only [go_sem]; subst hc52; refine A1 fun cb hc55 => ?_; refine Ag ?_; refine A1 fun cb hc56 => ?_; refine CJ [] [0, 1, 2, 3, 4, 5, 6, 7, 8, 9, 10, 11, 12] (by kernel_rfl) (by kernel_rfl) (fun _ _ _ _ h => h) ?_; obtain ⟨g57, h⟩ := A8.1 h
         try simp (disch := omega) at g57
         obtain ⟨g58, h⟩ := A8.1 h
         try simp (disch := omega) at g58
         try simp -implicitDefEqProofs (disch := omega) [go_sem] at g58
         try simp -implicitDefEqProofs (disch := omega) [go_sem, Dt, Du, Dv, Dw, Cp]
         subst hc56; refine A1 fun cb hc59 => ?_; refine CY [false, false, true] (by kernel_rfl) ?_; obtain ⟨g60, h⟩ := A8.1 h
         try simp (disch := omega) at g60
         try simp -implicitDefEqProofs (disch := omega) [go_sem, Dt, Du, Dv, Dw, Cp]
         refine MC ((a0.A9.getD ((IntKind.i64.wrap (v30 + a1)).tmod (a0.A9.length : Int)).toNat S55.zero).fName) rfl (by kernel_rfl) underlying9 underlying23 underlying5 (by first | with_reducible rfl | (simp -implicitDefEqProofs (disch := omega) [go_sem, Dt, Du, Dv, Dw, Cp]; done) | rfl) (by first | omega | decide | (simp; omega) | (simp (disch := omega); omega)) ?_
         try simp -implicitDefEqProofs (disch := omega) [go_sem, Dt, Du, Dv, Dw, Cp]
         subst hc59; refine A1 fun cb hc61 => ?_; refine A1 fun cb hc62 => ?_; refine vcK ?_
         try simp -implicitDefEqProofs (disch := omega) [go_sem, Dt, Du, Dv, Dw, Cp]
         subst hc62; obtain ⟨y63, hl63q, hk63⟩ := A4 h; refine AZ (fun tm' H' => ∃ n68 : Nat, ∃ v67 : List UInt8, v67 = y63 ∧ Ext H H' ∧ H28.next + 2 ≤ H'.next ∧ H.next ≤ n68 ∧ n68 < H'.next ∧ ¬ H.next = n68 ∧ ¬ H28.next = n68 ∧ tm' 1 = .v (.int .i64 a1) ∧ tm' 2 = .p H.next 0 ∧ tm' 5 = .v (str v29) ∧ tm' 6 = .v (.int .i64 v30) ∧ tm' 7 = .p H28.next 0 ∧ tm' 8 = .os n68 v67.length ∧ H'.obj H.next = some (.cells ([.v (str a0.Ah), .v (str a0.Ax), .sl 2 (a0.A9.map fun x => [.v (str x.fName), .v (str x.A6)]), .sl 1 (a0.Al.map fun x => [.v (.int .u8 x.toNat)])])) ∧ H'.obj H28.next = some (.cells ([.v (str ((a0.A9.getD ((IntKind.i64.wrap (v30 + a1)).tmod (a0.A9.length : Int)).toNat S55.zero).fName)), .v (str ((a0.A9.getD ((IntKind.i64.wrap (v30 + a1)).tmod (a0.A9.length : Int)).toNat S55.zero).A6))])) ∧ H'.obj n68 = some (.row 1 (v67.map fun x => [.v (.int .u8 x.toNat)]))) ?_ fun cb hc63 => ?_
         ·rintro tm63e H63e ⟨n68, v67, rfl, he63e, hl63e, hr0_63e, hs0_63e, hq90, hq91, t1_63e, t2_63e, t5_63e, t6_63e, t7_63e, t8_63e, ob0_63e, ob1_63e, or0_63e⟩
          have h : KN a0 a1 v29 v30 v67 = some x28 := hk63; unfold KN at h; simp -implicitDefEqProofs only [go_sem]; subst hc61; refine IWp.gh (Gh.freeze (d := 8) (k := n68) (sz := 1) (es := v67.map fun x => [.v (.int .u8 x.toNat)]) (by (simp -implicitDefEqProofs (disch := omega) [go_sem, t1_63e, t2_63e, t5_63e, t6_63e, t7_63e, t8_63e, ob0_63e, ob1_63e, or0_63e] <;> omega)) (by (simp -implicitDefEqProofs (disch := omega) [go_sem, t1_63e, t2_63e, t5_63e, t6_63e, t7_63e, t8_63e, ob0_63e, ob1_63e, or0_63e] <;> omega))) ?_; refine vcK ?_; obtain ⟨g69, h⟩ := A8.1 h
          try simp (disch := omega) at g69
          obtain ⟨g70, h⟩ := A8.1 h
          try simp (disch := omega) at g70
          obtain ⟨g71, h⟩ := A8.1 h
          try simp (disch := omega) at g71
          obtain ⟨g72, h⟩ := A8.1 h
          try simp (disch := omega) at g72
          try simp -implicitDefEqProofs (disch := omega) [go_sem] at g71
          try simp -implicitDefEqProofs (disch := omega) [go_sem] at g72
          try simp -implicitDefEqProofs (disch := omega) [go_sem, t1_63e, t2_63e, t5_63e, t6_63e, t7_63e, t8_63e, ob0_63e, ob1_63e, or0_63e]
          subst hc55; refine vcK ?_
          try simp -implicitDefEqProofs (disch := omega) [go_sem, t1_63e, t2_63e, t5_63e, t6_63e, t7_63e, t8_63e, ob0_63e, ob1_63e, or0_63e]
          have e28 := Option.some.inj h; subst e28; refine Ap hI28 (((((v29 ++ v67) ++ (([58]) : List UInt8)) ++ ((a0.A9.getD ((IntKind.i64.wrap (v30 + a1)).tmod (a0.A9.length : Int)).toNat S55.zero).A6)) ++ (([32, 32, 13, 10]) : List UInt8), IntKind.i64.wrap (v30 + 1))) ?_; refine .same ⟨by exact A7 he63e, by first | with_reducible rfl | with_reducible assumption | omega | (simp -implicitDefEqProofs (disch := omega) [go_sem, t1_63e, t2_63e, t5_63e, t6_63e, t7_63e, t8_63e, ob0_63e, ob1_63e, or0_63e] <;> omega), ?_, ?_, ?_, ?_, ?_⟩ <;> first | with_reducible rfl | with_reducible assumption | (simp -implicitDefEqProofs (disch := omega) [go_sem, t1_63e, t2_63e, t5_63e, t6_63e, t7_63e, t8_63e, ob0_63e, ob1_63e, or0_63e] <;> omega)
         ·refine Ag ?_; refine AQ (fun (s : (List UInt8) × Int) tm' H' => ∃ n65 : Nat, Ext H H' ∧ H28.next + 2 ≤ H'.next ∧ H.next ≤ n65 ∧ n65 < H'.next ∧ ¬ H.next = n65 ∧ ¬ H28.next = n65 ∧ tm' 1 = .v (.int .i64 a1) ∧ tm' 2 = .p H.next 0 ∧ tm' 5 = .v (str v29) ∧ tm' 6 = .v (.int .i64 v30) ∧ tm' 7 = .p H28.next 0 ∧ tm' 8 = .os n65 s.1.length ∧ tm' 9 = .v (.int .i64 s.2) ∧ H'.obj H.next = some (.cells ([.v (str a0.Ah), .v (str a0.Ax), .sl 2 (a0.A9.map fun x => [.v (str x.fName), .v (str x.A6)]), .sl 1 (a0.Al.map fun x => [.v (.int .u8 x.toNat)])])) ∧ H'.obj H28.next = some (.cells ([.v (str ((a0.A9.getD ((IntKind.i64.wrap (v30 + a1)).tmod (a0.A9.length : Int)).toNat S55.zero).fName)), .v (str ((a0.A9.getD ((IntKind.i64.wrap (v30 + a1)).tmod (a0.A9.length : Int)).toNat S55.zero).A6))])) ∧ H'.obj n65 = some (.row 1 (s.1.map fun x => [.v (.int .u8 x.toNat)]))) hl63q ?_ ?_
          ·refine .same ⟨H28.next + 1, by exact A7 he28, by first | with_reducible rfl | with_reducible assumption | omega | (simp -implicitDefEqProofs (disch := omega) [go_sem, Dt, Du, Dv, Dw, Cp] <;> omega), by first | with_reducible rfl | with_reducible assumption | omega | (simp -implicitDefEqProofs (disch := omega) [go_sem, Dt, Du, Dv, Dw, Cp] <;> omega), by first | with_reducible rfl | with_reducible assumption | omega | (simp -implicitDefEqProofs (disch := omega) [go_sem, Dt, Du, Dv, Dw, Cp] <;> omega), by first | with_reducible rfl | with_reducible assumption | omega | (simp -implicitDefEqProofs (disch := omega) [go_sem, Dt, Du, Dv, Dw, Cp] <;> omega), by first | with_reducible rfl | with_reducible assumption | omega | (simp -implicitDefEqProofs (disch := omega) [go_sem, Dt, Du, Dv, Dw, Cp] <;> omega), ?_, ?_, ?_, ?_, ?_, ?_, ?_, ?_, ?_, ?_⟩ <;> first | with_reducible rfl | with_reducible assumption | (simp -implicitDefEqProofs (disch := omega) [go_sem, Dt, Du, Dv, Dw, Cp] <;> omega)
          ·rintro I63 hI63 ⟨v64, v66⟩ x63 tm63 H63 ⟨n65, he63, hl63, Yv, Yw, hq92, hq93, B4, B5, B6, B7, B8, B9, Ba, Ay, Az, AA⟩ h hret63
           replace h : EU a1 v64 v66 = some x63 := h; unfold EU at h; refine A1 fun cb hc73 => ?_; refine A1 fun cb hc74 => ?_; refine vcK ?_
           try simp -implicitDefEqProofs (disch := omega) [go_sem, B4, B5, B6, B7, B8, B9, Ba, Ay, Az, AA]
           subst hc74; refine Ac h (by first | with_reducible rfl | (simp -implicitDefEqProofs (disch := omega) [go_sem, B4, B5, B6, B7, B8, B9, Ba, Ay, Az, AA] <;> omega)) rfl ?_ ?_
           ·intro c75 h
            try simp (disch := omega) at c75
            refine vcK ?_; simp -implicitDefEqProofs only [go_sem]; subst hc73; refine A1 fun cb hc76 => ?_; refine Ag ?_; refine A1 fun cb hc77 => ?_; refine vcK ?_; obtain ⟨g78, h⟩ := A8.1 h
            try simp (disch := omega) at g78
            have hrf79 := MF (f := fun (x : UInt8) => [.v (.int .u8 x.toNat)]) (l := v64) (d := 0) (i := v66.toNat) (s := 1) (o := 0) (fun _ => rfl) (by omega) (by omega)
            try simp -implicitDefEqProofs (disch := omega) only [List.append_eq, Nat.zero_mul, Nat.mul_one, Nat.add_zero, List.drop_zero, List.getD_eq_getElem?_getD, List.getElem?_eq_getElem, List.getElem?_cons_zero, Option.getD_some] at hrf79
            have hrl80 := Nh (f := fun (x : UInt8) => [.v (.int .u8 x.toNat)]) (l := v64) (d := 0) (i := v66.toNat) (s := 1) (fun _ => rfl) (by omega)
            try simp -implicitDefEqProofs (disch := omega) only [List.append_eq, Nat.zero_mul, Nat.mul_one, Nat.add_zero, List.drop_zero, List.getD_eq_getElem?_getD, List.getElem?_eq_getElem, List.getElem?_cons_zero, Option.getD_some] at hrl80
            try simp -implicitDefEqProofs (disch := omega) [go_sem, B4, B5, B6, B7, B8, B9, Ba, Ay, Az, AA, hrf79, hrl80]
            refine A5 h (by first | with_reducible rfl | (simp -implicitDefEqProofs (disch := omega) [go_sem, B4, B5, B6, B7, B8, B9, Ba, Ay, Az, AA, hrf79, hrl80] <;> omega)) ?_ ?_
            ·intro c89 h
             try simp (disch := omega) at c89
             have hrf81 := MF (f := fun (x : UInt8) => [.v (.int .u8 x.toNat)]) (l := v64) (d := 0) (i := v66.toNat) (s := 1) (o := 0) (fun _ => rfl) (by omega) (by omega)
             try simp -implicitDefEqProofs (disch := omega) only [List.append_eq, Nat.zero_mul, Nat.mul_one, Nat.add_zero, List.drop_zero, List.getD_eq_getElem?_getD, List.getElem?_eq_getElem, List.getElem?_cons_zero, Option.getD_some] at hrf81
             have hrl82 := Nh (f := fun (x : UInt8) => [.v (.int .u8 x.toNat)]) (l := v64) (d := 0) (i := v66.toNat) (s := 1) (fun _ => rfl) (by omega)
             try simp -implicitDefEqProofs (disch := omega) only [List.append_eq, Nat.zero_mul, Nat.mul_one, Nat.add_zero, List.drop_zero, List.getD_eq_getElem?_getD, List.getElem?_eq_getElem, List.getElem?_cons_zero, Option.getD_some] at hrl82
             try simp -implicitDefEqProofs (disch := omega) [go_sem, B4, B5, B6, B7, B8, B9, Ba, Ay, Az, AA, hrf79, hrl80, hrf81, hrl82]
             refine A5 h (by first | with_reducible rfl | (simp -implicitDefEqProofs (disch := omega) [go_sem, B4, B5, B6, B7, B8, B9, Ba, Ay, Az, AA, hrf79, hrl80, hrf81, hrl82] <;> omega)) ?_ ?_
             ·intro c88 h
              try simp (disch := omega) at c88
              try simp -implicitDefEqProofs (disch := omega) [go_sem, B4, B5, B6, B7, B8, B9, Ba, Ay, Az, AA, hrf79, hrl80, hrf81, hrl82]
              subst hc77; refine Ac h (by first | with_reducible rfl | (simp -implicitDefEqProofs (disch := omega) [go_sem, B4, B5, B6, B7, B8, B9, Ba, Ay, Az, AA, hrf79, hrl80, hrf81, hrl82] <;> omega)) rfl ?_ ?_
              ·intro c83 h
               try simp (disch := omega) at c83
               refine vcK ?_; have hrf84 := MF (f := fun (x : UInt8) => [.v (.int .u8 x.toNat)]) (l := v64) (d := 0) (i := v66.toNat) (s := 1) (o := 0) (fun _ => rfl) (by omega) (by omega)
               try simp -implicitDefEqProofs (disch := omega) only [List.append_eq, Nat.zero_mul, Nat.mul_one, Nat.add_zero, List.drop_zero, List.getD_eq_getElem?_getD, List.getElem?_eq_getElem, List.getElem?_cons_zero, Option.getD_some] at hrf84
               have hrl85 := Nh (f := fun (x : UInt8) => [.v (.int .u8 x.toNat)]) (l := v64) (d := 0) (i := v66.toNat) (s := 1) (fun _ => rfl) (by omega)
               try simp -implicitDefEqProofs (disch := omega) only [List.append_eq, Nat.zero_mul, Nat.mul_one, Nat.add_zero, List.drop_zero, List.getD_eq_getElem?_getD, List.getElem?_eq_getElem, List.getElem?_cons_zero, Option.getD_some] at hrl85
               obtain ⟨g87, h⟩ := A8.1 h
               try simp (disch := omega) at g87
               have hrp86 := Lp (f := fun (x : UInt8) => [.v (.int .u8 x.toNat)]) (l := v64) (d := 0) (i := v66.toNat) (vc := [.v (.int .u8 (IntKind.u8.wrap ((((v64.getD v66.toNat 0).toNat : Int)) - 32)))]) (x := UInt8.ofNat (IntKind.u8.wrap ((((v64.getD v66.toNat 0).toNat : Int)) - 32)).toNat) (by omega) (by simp (disch := omega) [CV, go_sem] <;> omega)
               try simp -implicitDefEqProofs (disch := omega) [go_sem] at hrp86
               try simp -implicitDefEqProofs (disch := omega) [go_sem] at g87
               try simp -implicitDefEqProofs (disch := omega) [go_sem, B4, B5, B6, B7, B8, B9, Ba, Ay, Az, AA, hrf79, hrl80, hrf81, hrl82, hrf84, hrl85, hrp86]
               subst hc76; refine vcK ?_
               try simp -implicitDefEqProofs (disch := omega) [go_sem, B4, B5, B6, B7, B8, B9, Ba, Ay, Az, AA, hrf79, hrl80, hrf81, hrl82, hrf84, hrl85, hrp86]
               have e63 := Option.some.inj h; subst e63; refine Ap hI63 ((v64.set v66.toNat (UInt8.ofNat (IntKind.u8.wrap ((((v64.getD v66.toNat 0).toNat : Int)) - 32)).toNat), IntKind.i64.wrap (v66 + 1))) ?_; refine .same ⟨n65, by exact A7 he63, by first | with_reducible rfl | with_reducible assumption | omega | (simp -implicitDefEqProofs (disch := omega) [go_sem, B4, B5, B6, B7, B8, B9, Ba, Ay, Az, AA, hrf79, hrl80, hrf81, hrl82, hrf84, hrl85, hrp86] <;> omega), by first | with_reducible rfl | with_reducible assumption | omega | (simp -implicitDefEqProofs (disch := omega) [go_sem, B4, B5, B6, B7, B8, B9, Ba, Ay, Az, AA, hrf79, hrl80, hrf81, hrl82, hrf84, hrl85, hrp86] <;> omega), by first | with_reducible rfl | with_reducible assumption | omega | (simp -implicitDefEqProofs (disch := omega) [go_sem, B4, B5, B6, B7, B8, B9, Ba, Ay, Az, AA, hrf79, hrl80, hrf81, hrl82, hrf84, hrl85, hrp86] <;> omega), by first | with_reducible rfl | with_reducible assumption | omega | (simp -implicitDefEqProofs (disch := omega) [go_sem, B4, B5, B6, B7, B8, B9, Ba, Ay, Az, AA, hrf79, hrl80, hrf81, hrl82, hrf84, hrl85, hrp86] <;> omega), by first | with_reducible rfl | with_reducible assumption | omega | (simp -implicitDefEqProofs (disch := omega) [go_sem, B4, B5, B6, B7, B8, B9, Ba, Ay, Az, AA, hrf79, hrl80, hrf81, hrl82, hrf84, hrl85, hrp86] <;> omega), ?_, ?_, ?_, ?_, ?_, ?_, ?_, ?_, ?_, ?_⟩ <;> first | with_reducible rfl | with_reducible assumption | (simp -implicitDefEqProofs (disch := omega) [go_sem, B4, B5, B6, B7, B8, B9, Ba, Ay, Az, AA, hrf79, hrl80, hrf81, hrl82, hrf84, hrl85, hrp86] <;> omega)
              ·intro c83 h
               try simp (disch := omega) at c83
               refine vcK ?_; simp -implicitDefEqProofs only [go_sem]; subst hc76; refine vcK ?_
               try simp -implicitDefEqProofs (disch := omega) [go_sem, B4, B5, B6, B7, B8, B9, Ba, Ay, Az, AA, hrf79, hrl80, hrf81, hrl82]
               have e63 := Option.some.inj h; subst e63; refine Ap hI63 ((v64, IntKind.i64.wrap (v66 + 1))) ?_; refine .same ⟨n65, by exact A7 he63, by first | with_reducible rfl | with_reducible assumption | omega | (simp -implicitDefEqProofs (disch := omega) [go_sem, B4, B5, B6, B7, B8, B9, Ba, Ay, Az, AA, hrf79, hrl80, hrf81, hrl82] <;> omega), by first | with_reducible rfl | with_reducible assumption | omega | (simp -implicitDefEqProofs (disch := omega) [go_sem, B4, B5, B6, B7, B8, B9, Ba, Ay, Az, AA, hrf79, hrl80, hrf81, hrl82] <;> omega), by first | with_reducible rfl | with_reducible assumption | omega | (simp -implicitDefEqProofs (disch := omega) [go_sem, B4, B5, B6, B7, B8, B9, Ba, Ay, Az, AA, hrf79, hrl80, hrf81, hrl82] <;> omega), by first | with_reducible rfl | with_reducible assumption | omega | (simp -implicitDefEqProofs (disch := omega) [go_sem, B4, B5, B6, B7, B8, B9, Ba, Ay, Az, AA, hrf79, hrl80, hrf81, hrl82] <;> omega), by first | with_reducible rfl | with_reducible assumption | omega | (simp -implicitDefEqProofs (disch := omega) [go_sem, B4, B5, B6, B7, B8, B9, Ba, Ay, Az, AA, hrf79, hrl80, hrf81, hrl82] <;> omega), ?_, ?_, ?_, ?_, ?_, ?_, ?_, ?_, ?_, ?_⟩ <;> first | with_reducible rfl | with_reducible assumption | (simp -implicitDefEqProofs (disch := omega) [go_sem, B4, B5, B6, B7, B8, B9, Ba, Ay, Az, AA, hrf79, hrl80, hrf81, hrl82] <;> omega)
             ·intro c88 h
              try simp (disch := omega) at c88
              try simp -implicitDefEqProofs (disch := omega) [go_sem, B4, B5, B6, B7, B8, B9, Ba, Ay, Az, AA, hrf79, hrl80, hrf81, hrl82]
              subst hc77; refine By (by first | with_reducible rfl | (simp -implicitDefEqProofs (disch := omega) [go_sem, B4, B5, B6, B7, B8, B9, Ba, Ay, Az, AA, hrf79, hrl80, hrf81, hrl82] <;> omega)) rfl ?_; refine vcK ?_; simp -implicitDefEqProofs only [go_sem]; subst hc76; refine vcK ?_
              try simp -implicitDefEqProofs (disch := omega) [go_sem, B4, B5, B6, B7, B8, B9, Ba, Ay, Az, AA, hrf79, hrl80, hrf81, hrl82]
              have e63 := Option.some.inj h; subst e63; refine Ap hI63 ((v64, IntKind.i64.wrap (v66 + 1))) ?_; refine .same ⟨n65, by exact A7 he63, by first | with_reducible rfl | with_reducible assumption | omega | (simp -implicitDefEqProofs (disch := omega) [go_sem, B4, B5, B6, B7, B8, B9, Ba, Ay, Az, AA, hrf79, hrl80, hrf81, hrl82] <;> omega), by first | with_reducible rfl | with_reducible assumption | omega | (simp -implicitDefEqProofs (disch := omega) [go_sem, B4, B5, B6, B7, B8, B9, Ba, Ay, Az, AA, hrf79, hrl80, hrf81, hrl82] <;> omega), by first | with_reducible rfl | with_reducible assumption | omega | (simp -implicitDefEqProofs (disch := omega) [go_sem, B4, B5, B6, B7, B8, B9, Ba, Ay, Az, AA, hrf79, hrl80, hrf81, hrl82] <;> omega), by first | with_reducible rfl | with_reducible assumption | omega | (simp -implicitDefEqProofs (disch := omega) [go_sem, B4, B5, B6, B7, B8, B9, Ba, Ay, Az, AA, hrf79, hrl80, hrf81, hrl82] <;> omega), by first | with_reducible rfl | with_reducible assumption | omega | (simp -implicitDefEqProofs (disch := omega) [go_sem, B4, B5, B6, B7, B8, B9, Ba, Ay, Az, AA, hrf79, hrl80, hrf81, hrl82] <;> omega), ?_, ?_, ?_, ?_, ?_, ?_, ?_, ?_, ?_, ?_⟩ <;> first | with_reducible rfl | with_reducible assumption | (simp -implicitDefEqProofs (disch := omega) [go_sem, B4, B5, B6, B7, B8, B9, Ba, Ay, Az, AA, hrf79, hrl80, hrf81, hrl82] <;> omega)
            ·intro c89 h
             try simp (disch := omega) at c89
             try simp -implicitDefEqProofs (disch := omega) [go_sem, B4, B5, B6, B7, B8, B9, Ba, Ay, Az, AA, hrf79, hrl80]
             subst hc77; refine By (by first | with_reducible rfl | (simp -implicitDefEqProofs (disch := omega) [go_sem, B4, B5, B6, B7, B8, B9, Ba, Ay, Az, AA, hrf79, hrl80] <;> omega)) rfl ?_; refine vcK ?_; simp -implicitDefEqProofs only [go_sem]; subst hc76; refine vcK ?_
             try simp -implicitDefEqProofs (disch := omega) [go_sem, B4, B5, B6, B7, B8, B9, Ba, Ay, Az, AA, hrf79, hrl80]
             have e63 := Option.some.inj h; subst e63; refine Ap hI63 ((v64, IntKind.i64.wrap (v66 + 1))) ?_; refine .same ⟨n65, by exact A7 he63, by first | with_reducible rfl | with_reducible assumption | omega | (simp -implicitDefEqProofs (disch := omega) [go_sem, B4, B5, B6, B7, B8, B9, Ba, Ay, Az, AA, hrf79, hrl80] <;> omega), by first | with_reducible rfl | with_reducible assumption | omega | (simp -implicitDefEqProofs (disch := omega) [go_sem, B4, B5, B6, B7, B8, B9, Ba, Ay, Az, AA, hrf79, hrl80] <;> omega), by first | with_reducible rfl | with_reducible assumption | omega | (simp -implicitDefEqProofs (disch := omega) [go_sem, B4, B5, B6, B7, B8, B9, Ba, Ay, Az, AA, hrf79, hrl80] <;> omega), by first | with_reducible rfl | with_reducible assumption | omega | (simp -implicitDefEqProofs (disch := omega) [go_sem, B4, B5, B6, B7, B8, B9, Ba, Ay, Az, AA, hrf79, hrl80] <;> omega), by first | with_reducible rfl | with_reducible assumption | omega | (simp -implicitDefEqProofs (disch := omega) [go_sem, B4, B5, B6, B7, B8, B9, Ba, Ay, Az, AA, hrf79, hrl80] <;> omega), ?_, ?_, ?_, ?_, ?_, ?_, ?_, ?_, ?_, ?_⟩ <;> first | with_reducible rfl | with_reducible assumption | (simp -implicitDefEqProofs (disch := omega) [go_sem, B4, B5, B6, B7, B8, B9, Ba, Ay, Az, AA, hrf79, hrl80] <;> omega)
           ·intro c75 h
            try simp (disch := omega) at c75
            refine vcK ?_; simp -implicitDefEqProofs only [go_sem]; have e63 := Option.some.inj h; subst e63; have hy63 := hret63 _ rfl; refine hc63 _ _ ?_; refine .same ⟨n65, v64, hy63, by exact A7 he63, by first | with_reducible rfl | with_reducible assumption | omega | (simp -implicitDefEqProofs (disch := omega) [go_sem, B4, B5, B6, B7, B8, B9, Ba, Ay, Az, AA] <;> omega), by first | with_reducible rfl | with_reducible assumption | omega | (simp -implicitDefEqProofs (disch := omega) [go_sem, B4, B5, B6, B7, B8, B9, Ba, Ay, Az, AA] <;> omega), by first | with_reducible rfl | with_reducible assumption | omega | (simp -implicitDefEqProofs (disch := omega) [go_sem, B4, B5, B6, B7, B8, B9, Ba, Ay, Az, AA] <;> omega), by first | with_reducible rfl | with_reducible assumption | omega | (simp -implicitDefEqProofs (disch := omega) [go_sem, B4, B5, B6, B7, B8, B9, Ba, Ay, Az, AA] <;> omega), by first | with_reducible rfl | with_reducible assumption | omega | (simp -implicitDefEqProofs (disch := omega) [go_sem, B4, B5, B6, B7, B8, B9, Ba, Ay, Az, AA] <;> omega), ?_, ?_, ?_, ?_, ?_, ?_, ?_, ?_, ?_⟩ <;> first | with_reducible rfl | with_reducible assumption | (simp -implicitDefEqProofs (disch := omega) [go_sem, B4, B5, B6, B7, B8, B9, Ba, Ay, Az, AA] <;> omega)
        ·intro c54 h
         try simp (disch := omega) at c54
         refine vcK ?_; simp -implicitDefEqProofs only [go_sem]; have e28 := Option.some.inj h; subst e28; have hy28 := hret28 _ rfl; refine hc28 _ _ ?_; refine .same ⟨v29, hy28, by exact A7 he28, by first | with_reducible rfl | with_reducible assumption | omega | (simp -implicitDefEqProofs (disch := omega) [go_sem, Dt, Du, Dv, Dw, Cp] <;> omega), ?_, ?_, ?_⟩ <;> first | with_reducible rfl | with_reducible assumption | (simp -implicitDefEqProofs (disch := omega) [go_sem, Dt, Du, Dv, Dw, Cp] <;> omega)
end Go.Idl
namespace Go.Idl
open Go
set_option maxRecDepth 100000
theorem Qb : ∀ (n : Nat) (acc : Str), acc.length + n ≤ 1000000000000000000 → AY (fun v : Int × (List UInt8) => He v.1 v.2) ((n : Int), acc) = some (Lib.decDigits n ++ acc) := by
 intro n
 induction n using Nat.strongRecOn with
 | _ n ih =>
  intro acc h; have hm : ((n : Int)).tmod 10 = ((n % 10 : Nat) : Int) := by rw [Int.tmod_eq_emod_of_nonneg (by omega)]; omega
  have hd : ((n : Int)).tdiv 10 = ((n / 10 : Nat) : Int) := by rw [Int.tdiv_eq_ediv_of_nonneg (by omega)]; omega
  have hw : IntKind.i64.wrap (48 + ((n % 10 : Nat) : Int)) = ((48 + n % 10 : Nat) : Int) := by rw [wrap_i64 (by omega) (by omega)]; omega
  have hw8 : IntKind.u8.wrap ((48 + n % 10 : Nat) : Int) = ((48 + n % 10 : Nat) : Int) := wrap_u8 (by omega) (by omega); have hwd : IntKind.i64.wrap ((n / 10 : Nat) : Int) = ((n / 10 : Nat) : Int) := wrap_i64 (by omega) (by omega); have hs : He (n : Int) acc = some (if n < 10 then .inr ([UInt8.ofNat (48 + n % 10)] ++ acc) else .inl (((n / 10 : Nat) : Int), [UInt8.ofNat (48 + n % 10)] ++ acc)) := by
   unfold He; rw [hm, hd, hw, hw8, hwd, Int.toNat_natCast, Ab (by omega), Ab (by simp only [List.length_cons, List.length_nil]; omega)]; by_cases hn : n < 10
   ·rw [if_pos hn, if_pos (by omega)]
   ·rw [if_neg hn, if_neg (by omega)]
  rw [Lib.decDigits]; by_cases hn : n < 10
  ·rw [if_pos hn] at hs; rw [dif_pos hn, show n % 10 = n by omega] at *; exact B3 hs
  ·rw [if_neg hn] at hs; rw [dif_neg hn, CL (s := ((n : Int), acc)) hs, ih (n / 10) (by omega) _ (by simp; omega)]; simp
theorem UF (n : Nat) (h : n ≤ 1000000000) : F25 (n : Int) = some (Lib.decDigits n) := by
 unfold F25; rw [Qb n [] (by simp; omega)]; simp
theorem KO (n : Nat) : ∀ (s : Str) (k : Nat), (upN n k s).length = s.length
  | [], _ => rfl
  | x :: s, k => by simp only [upN, List.length_cons, KO n s]
theorem Sk (n : Nat) (hn : n ≤ 1000) : ∀ (s P : Str), (P ++ s).length ≤ 1000000 → AY (fun (s : (List UInt8) × Int) => EU (n : Int) s.1 s.2) (P ++ s, (P.length : Int)) = some (P ++ upN n P.length s)
  | [], P, h => by
    refine B3 ?_
    show EU (n : Int) (P ++ []) (P.length : Int) = _
    unfold EU
    rw [if_neg (by simp)]
    rfl
  | x :: s, P, h => by
    have hl : (P ++ x :: s).length = P.length + s.length + 1 := by simp; omega
    rw [hl] at h
    have hg : (P ++ x :: s).getD P.length 0 = x := by simp
    have hx := x.toNat_lt
    have hset : ∀ y : UInt8, (P ++ x :: s).set P.length y = (P ++ [y]) ++ s := fun y => by
      rw [List.set_append_right _ _ (by omega), Nat.sub_self]
      simp
    have hmod : (IntKind.i64.wrap ((P.length : Int) + (n : Int))).tmod 2 = (((P.length + n) % 2 : Nat) : Int) := by
      rw [wrap_i64 (by omega) (by omega), Int.tmod_eq_emod_of_nonneg (by omega)]
      omega
    have step : EU (n : Int) (P ++ x :: s) (P.length : Int) = some (.inl ((P ++ [if (P.length + n) % 2 = 0 then upB x else x]) ++ s, ((P.length + 1 : Nat) : Int))) := by
      have keep : P ++ x :: s = (P ++ [x]) ++ s := by simp
      unfold EU
      rw [if_pos (by omega), Ab (by omega), Int.toNat_natCast, hg, Cb (by omega), hmod]
      unfold upB
      by_cases c1 : 97 ≤ x.toNat
      case neg =>
        rw [if_neg (by omega), if_neg (show ¬ (97 ≤ x.toNat ∧ x.toNat ≤ 122) from fun e => c1 e.1), ite_self, keep]
      by_cases c2 : x.toNat ≤ 122
      case neg =>
        rw [if_pos (by omega), if_neg (by omega), if_neg (show ¬ (97 ≤ x.toNat ∧ x.toNat ≤ 122) from fun e => c2 e.2), ite_self, keep]
      rw [if_pos (by omega), if_pos (by omega), if_pos (show 97 ≤ x.toNat ∧ x.toNat ≤ 122 from ⟨c1, c2⟩)]
      by_cases c3 : (P.length + n) % 2 = 0
      · have hw : IntKind.u8.wrap ((x.toNat : Int) - 32) = ((x.toNat - 32 : Nat) : Int) := by rw [wrap_u8 (by omega) (by omega)]; omega
        rw [if_pos (by omega), if_pos c3, hw, Ab (by omega), Int.toNat_natCast, hset]
      · rw [if_neg (by omega), if_neg c3, keep]
    have ih := Sk n hn s (P ++ [if (P.length + n) % 2 = 0 then upB x else x]) (by simp; omega)
    have e1 : (P ++ [if (P.length + n) % 2 = 0 then upB x else x]).length = P.length + 1 := by simp
    rw [e1] at ih
    refine (CL step).trans (ih.trans ?_)
    simp only [upN, List.append_assoc]
    rfl
abbrev Jm (n : Nat) (h : Hd) : Str := Ei n h ++ [13, 10]
theorem RB (q : S42) (n : Nat) (s0 : Str) (hn : n ≤ 1000) (hl : q.A9.length ≤ 20) (hb : ∀ x ∈ q.A9, x.fName.length ≤ 300 ∧ x.A6.length ≤ 300) (h0 : s0.length ≤ 1000) :
    ∀ (k i : Nat) (acc : Str), q.A9.length - i ≤ k → i ≤ q.A9.length → acc.length ≤ 1000 + i * 1000 →
    AY (fun (s : (List UInt8) × Int) => Ek q (n : Int) s.1 s.2) (acc, (i : Int)) = some (acc ++ ((Cj (q.A9.map toH) n).drop i).flatMap (Jm n)) := by
 have hrl : (Cj (q.A9.map toH) n).length = q.A9.length := by rw [LJ, List.length_map]
 have done : ∀ (i : Nat) (acc : Str), q.A9.length ≤ i → AY (fun (s : (List UInt8) × Int) => Ek q (n : Int) s.1 s.2) (acc, (i : Int)) = some (acc ++ ((Cj (q.A9.map toH) n).drop i).flatMap (Jm n)) := fun i acc hi => by
  rw [List.drop_eq_nil_of_le (by omega)]; refine B3 ?_; show Ek q (n : Int) acc (i : Int) = _; unfold Ek; rw [if_neg (by omega)]; simp
 intro k
 induction k with
 | zero =>
  intro i acc hk hi _; exact done i acc (by omega)
 | succ k ih =>
  intro i acc hk hi ha; by_cases hlt : i < q.A9.length
  case neg => exact done i acc (by omega)
  have hmod : (IntKind.i64.wrap ((i : Int) + (n : Int))).tmod (q.A9.length : Int) = (((i + n) % q.A9.length : Nat) : Int) := by
   rw [wrap_i64 (by omega) (by omega), Int.tmod_eq_emod_of_nonneg (by omega)]; simp only [Int.natCast_emod, Int.natCast_add]
  have hm : (i + n) % q.A9.length < q.A9.length := Nat.mod_lt _ (by omega); have hget : (Cj (q.A9.map toH) n)[i]? = some (toH (q.A9[(i + n) % q.A9.length]'hm)) := by
   rw [LK (by rw [List.length_map]; exact hlt), List.length_map, List.getElem?_map, List.getElem?_eq_getElem hm]; rfl
  have hcons : (Cj (q.A9.map toH) n).drop i = toH (q.A9[(i + n) % q.A9.length]'hm) :: (Cj (q.A9.map toH) n).drop (i + 1) := by
   rw [List.drop_eq_getElem_cons (by omega)]; rw [List.getElem?_eq_getElem (by omega)] at hget; rw [Option.some.inj hget]
  have hbh := hb (q.A9[(i + n) % q.A9.length]'hm) (List.getElem_mem hm); generalize q.A9[(i + n) % q.A9.length]'hm = x at hget hcons hbh; have hgx : q.A9.getD ((i + n) % q.A9.length) S55.zero = x := by
   have := hget; rw [LK (by rw [List.length_map]; exact hlt), List.length_map, List.getElem?_map, List.getElem?_eq_getElem hm] at this; rw [getD_some hm]; have := Option.some.inj this; obtain ⟨a, b⟩ := x; simp only [toH, Prod.mk.injEq] at this; cases hq : q.A9[(i + n) % q.A9.length] with
   | mk c d =>
    rw [hq] at this; simp only at this; rw [this.1, this.2]
  have hup := Sk n hn x.fName [] (by rw [List.nil_append]; omega); simp only [List.nil_append, List.length_nil] at hup; have hul := KO n x.fName 0; have hol : (Jm n (toH x)).length = x.fName.length + x.A6.length + 5 := by simp [Jm, Ei, hul]; omega
  have step : Ek q (n : Int) acc (i : Int) = some (.inl (acc ++ Jm n (toH x), ((i + 1 : Nat) : Int))) := by
   unfold Ek; rw [if_pos (by omega), Ab (by omega), hmod, Ab (by omega), Int.toNat_natCast, hgx, Ab (by omega)]; refine Eq.trans (congrArg (fun z => Option.bind z _) hup) ?_; rw [Option.bind_some]; unfold KN; rw [hmod, Int.toNat_natCast, hgx, Cb (by omega), Ab (by omega), Ab (by simp only [List.length_append, List.length_cons, List.length_nil]; omega), Ab (by simp only [List.length_append, List.length_cons, List.length_nil]; omega), Ab (by simp only [List.length_append, List.length_cons, List.length_nil]; omega)]; congr 3; simp [Jm, Ei]
  rw [hcons, List.flatMap_cons, ← List.append_assoc]; exact (CL step).trans (ih (i + 1) _ (by omega) (by omega) (by rw [List.length_append, hol]; omega))
theorem LX {f : Hd → Str} : ∀ (l : List Hd), (∀ x ∈ l, (f x).length ≤ 605) → (l.flatMap f).length ≤ l.length * 605
  | [], _ => by simp
  | x :: l, h => by
    have h1 := h x (List.mem_cons_self ..)
    have h2 := LX l fun y hy => h y (List.mem_cons_of_mem _ hy)
    rw [List.flatMap_cons, List.length_append, List.length_cons]
    omega
theorem WJ (q : S42) (a : Int) (hm : q.Ah.length ≤ 1000000000000000 ∧ q.Ax.length ≤ 1000000000000000) : F8 q a = some (.ok true) := by
 unfold F8; rw [Uq, Option.bind_some]; by_cases h0 : J2 q.A9 q.Al = true
 case neg => rw [if_pos h0, Ds JY]
 rw [if_neg (fun e => e h0)]; obtain ⟨hs, h3, h4, h5⟩ := KK h0; rw [wrap_i64 (by omega) (by omega)]; by_cases h1 : (400 : Int) < (q.Ah.length : Int) + (q.Ax.length : Int)
 ·rw [if_pos h1, Ds JY]
 rw [if_neg h1, UA q (by omega) (by omega) hs, Option.bind_some, decide_eq_true (show q.Al.length ≤ 60000 by omega), Bool.and_true]; by_cases hr : (BS q.Ah && C_ q.Ax && Li (q.A9.map toH)) = true
 case neg => rw [if_pos hr, Ds JY]
 rw [if_neg (fun e => e hr)]; by_cases ha0 : a < 0
 ·rw [if_pos ha0, Ds JY]
 by_cases ha1 : (1000 : Int) < a
 ·rw [if_neg ha0, if_pos ha1, Ds JY]
 obtain ⟨n, rfl⟩ : ∃ n : Nat, a = n := ⟨a.toNat, by omega⟩; rw [if_neg ha0, if_neg ha1]; simp only [Bool.and_eq_true] at hr; have hl12 : ∀ (s t : Str) (u : Nat), s.length = u → (s ++ t).length = u + t.length := fun s t u h => by rw [List.length_append, h]
 rw [Ab (by simp only [List.length_cons, List.length_nil]; omega), Ab (by simp only [List.length_append, List.length_cons, List.length_nil]; omega), Ab (by simp only [List.length_append, List.length_cons, List.length_nil]; omega)]; have hloop := RB q n ((((q.Ah ++ ([32] : Str)) ++ q.Ax) ++ ([32, 72, 84, 84, 80, 47, 49, 46, 49, 13, 10] : Str))) (by omega) h3 h5 (by simp only [List.length_append, List.length_cons, List.length_nil]; omega) _ 0 _ (Nat.le_refl _) (Nat.zero_le _) (by simp only [List.length_append, List.length_cons, List.length_nil]; omega : ((((q.Ah ++ ([32] : Str)) ++ q.Ax) ++ ([32, 72, 84, 84, 80, 47, 49, 46, 49, 13, 10] : Str))).length ≤ 1000 + 0 * 1000); refine Eq.trans (congrArg (fun z => Option.bind z _) hloop) ?_; rw [Option.bind_some, List.drop_zero]; have hfl : ((Cj (q.A9.map toH) n).flatMap (Jm n)).length ≤ 20 * 605 := by
  have := LX (f := Jm n) (Cj (q.A9.map toH) n) fun x hx => by
   obtain ⟨y, hy, rfl⟩ := List.mem_map.1 (Gv.1 hx); have := h5 y hy; simp only [Jm, Ei, List.length_append, KO, List.length_cons, List.length_nil]; omega
  rw [LJ, List.length_map] at this; omega
 have hd9 := Gu (n := q.Al.length) (by omega); generalize hF : (Cj (q.A9.map toH) n).flatMap (Jm n) = F at hfl; have hord : DS q.Ah q.Ax (q.A9.map toH) q.Al n = (((q.Ah ++ ([32] : Str)) ++ q.Ax) ++ ([32, 72, 84, 84, 80, 47, 49, 46, 49, 13, 10] : Str)) ++ F ++ ((if q.Al = [] then [] else Gw q.Al.length ++ [13, 10]) ++ 13 :: 10 :: q.Al) := by
  unfold DS; rw [show (Cj (q.A9.map toH) n).flatMap (fun h => Ei n h ++ [13, 10]) = F from hF]; simp [Dz]
 have hread := MV (n := n) hr.1.1 hr.1.2 (by rw [Oe _ _ (by omega : q.Al.length ≤ 60000)]; exact hr.2); have e20 : F20 (DS q.Ah q.Ax (q.A9.map toH) q.Al n) = some (.ok (q, 0)) := by
  rw [Uz _ (by
    rw [hord]
    split <;> simp only [Gw, PJ, List.length_append, List.length_cons, List.length_nil] <;> omega)]
  unfold LR; rw [hread]; simp only [Rt]
 have last : ∀ s : Str, s ++ 13 :: 10 :: q.Al = DS q.Ah q.Ax (q.A9.map toH) q.Al n → s.length ≤ 100000 → Hf q s = some (.ok true) := fun s hs1 hs2 => by
  have e : (s ++ ([13, 10] : Str)) ++ q.Al = DS q.Ah q.Ax (q.A9.map toH) q.Al n := by rw [← hs1]; simp
  unfold Hf; rw [Ab (by simp only [List.length_cons, List.length_nil]; omega), Ab (by simp only [List.length_append, List.length_cons, List.length_nil]; omega), Ab (by simp only [List.length_append, List.length_cons, List.length_nil]; omega), e, Ds e20]; simp only; rw [if_pos trivial, Uo q q (by omega), Option.bind_some, if_pos (by simp), Ds JY]
 unfold KM; by_cases hb0 : q.Al = []
 ·rw [if_neg (by rw [hb0]; simp)]; refine last _ ?_ (by simp only [List.length_append, List.length_cons, List.length_nil]; omega); rw [hord, if_pos hb0, List.nil_append]
 ·have : 0 < q.Al.length := List.length_pos_iff.2 hb0; rw [if_pos (by omega), Ab (by simp only [List.length_append, List.length_cons, List.length_nil]; omega), UF _ (by omega), Option.bind_some, Ab (by simp only [List.length_append, List.length_cons, List.length_nil]; omega), Ab (by simp only [List.length_append, List.length_cons, List.length_nil]; omega)]; refine last _ ?_ (by simp only [List.length_append, List.length_cons, List.length_nil]; omega); rw [hord, if_neg hb0]; simp [Gw, PJ]
end Go.Idl
namespace Go.Proofs.YtdgfbojdppohnaaGreatDoor
open Go Go.ChangeShapes Go.WideShapes Go.ChangeAt Go.RowKit Go.Idl
section
variable {w : World} {Hh : Type} {enc : TypeId × Value → Hh}
theorem WK : RdZ Tryz.prog w enc 9 fun is => ∃ s : List UInt8, s.length ≤ reachBytes ∧ is = [.v (str s)] := N1 Tryz.underlying9
def Yx (a : S42) : Prop := a.Ah.length ≤ 1000000000000000 ∧ a.Ax.length ≤ 1000000000000000
theorem WL : RdZ Tryz.prog w enc 43 fun is => ∃ a : { a : S42 // Yx a }, is = cQ a.1 := by
 refine (LV (w := w) (enc := enc) Tryz.underlying43 (by rw [GO, N8, QK, QL]) rfl (by rw [GO]) (by rw [GO]) (by rw [GO, N8]) WK WK Yu Ys).mono ?_
 rintro is ⟨i0, i1, i2, i3, ⟨k, hk, rfl⟩, ⟨x, hx, rfl⟩, ⟨d, rfl⟩, ⟨b, rfl⟩, rfl⟩
 have hr := reachBytes_lt; have e : (2 : Nat) ^ 47 = 140737488355328 := by decide
 rw [e] at hr; exact ⟨⟨⟨k, x, d, b⟩, by show k.length ≤ _; omega, by show x.length ≤ _; omega⟩, rfl⟩
end
end Go.Proofs.YtdgfbojdppohnaaGreatDoor
namespace Go.Proofs.YtdgfbojdppohnaaGreatDoor
open Go Go.ChangeShapes Go.WideShapes Go.ChangeAt Go.RowKit Go.Idl
set_option maxRecDepth 100000 in
theorem Hg (os : Os) (started : os.Started) (H : Type) (enc : TypeId × Value → H) :
    ReturnsInHanded {} Tryz.checked os 8 .any (fun w args => (Rows.httpOrderSpec.pre enc Tryz.prog Tryz.f8 [] false w args ∧ laidMetH Tryz.prog Gy w) ∧ sizedMet enc Tryz.prog Tryz.f8 (OpenSpec.ofChange Rows.httpOrderSpec) false w args)
      (Rows.httpOrderSpec.post enc Tryz.prog Tryz.f8 false true false false) := by
 refine H6 (C := Tryz.checked) (X := fun w _ => laidMetH Tryz.prog Gy w) (fun _ _ _ hh h => h.of_heap hh) Rz started (by kernel_rfl) Tryz.func8
  (ChangeSpec.witness_shaped (enc := enc) (C := Tryz.checked) (os := os) (X := fun w _ => laidMetH Tryz.prog Gy w) false (World.laidAll Tryz.prog os Gy) #[.agg #[.string ⟨#[]⟩, .string ⟨#[]⟩, .slice none 0 0, .slice none 0 0], .int .i64 0] 8 (World.laidAll_os _ _ _) (LW os) (by kernel_rfl) (by kernel_rfl) (by kernel_rfl) (Og os _)) ?_
 intro W base args ds gs before hval0 hW hwt hL hshape; have hval : ∀ (j : Nat) t v, Tryz.f8.params[j]? = some t → args[j]? = some v → Value.okWide Tryz.prog W .any base t v := hval0; have hW' := hW; obtain ⟨p, q, hA0, hV, rfl, hfz, hnd⟩ := hW; have hA : DataW.TrodAll enc Tryz.prog W 0 (fun _ => true) true Tryz.f8.params.toList args.toList ds p := hA0; rw [Tryz.params8] at hA hval; obtain ⟨v0, v1, d0, d1, p0, p1, rfl, rfl, rfl, h0, h1⟩ := trodAll_two hA; obtain ⟨rfl, rfl⟩ := trodVars_none hV; simp only [List.append_nil] at hW'; have hlt := hW'.lt; have hwt' : (DataW.weightsEach Tryz.prog [43, 3] [d0, d1]).all (· ≤ reachBytes) = true := hwt; obtain ⟨cs0, rfl, _⟩ := okWide_struct Tryz.underlying43 (hval 0 43 v0 rfl rfl); obtain ⟨n1, rfl, _⟩ := okWide_int Tryz.underlying3 (hval 1 3 v1 rfl rfl); obtain ⟨is0, ⟨x0, rfl⟩, r0⟩ := WL.agg h0 hwt' (k := 0) rfl rfl; obtain ⟨i1, ⟨x1, e1⟩, r1⟩ := rd3.one rfl h1 hwt' (k := 1) rfl rfl; simp only [List.cons.injEq, and_true] at e1; subst e1; obtain ⟨vs, hvs, hvok⟩ := Oh hL hshape
 have hcall := (WI (H := HV vs) (K := fun e _ => e = .ret (.v (.bool true))) x0.1 x1 hvok (WJ x0.1 x1 x0.2)  (fun _ h => by cases h) (fun v h => by cases h; rfl)).run W g0 #[.agg cs0, .int .i64 n1] (Yq W vs hvs) ⟨rfl, fun j x i hx hi => by
   match j, hx, hi with
   | 0, hx, hi => simp at hx hi; subst hx; subst hi; exact r0
   | 1, hx, hi => simp at hx hi; subst hx; subst hi; exact r1
   | j + 2, hx, hi => simp at hx⟩
 refine hcall.mono ?_
 rintro e W' ⟨ie, g', H', hm, _, hre, rfl⟩
 have hb := Jh hm; obtain ⟨rfl⟩ : e = .returned (.bool true) := by
  cases hre with
  | ret x i h => rw [h.v_eq]
 refine ⟨_, rfl, ?_⟩; refine ⟨_, _, _, [], p0 ++ p1, [], hW', trodAll_mk1 (shut_bool Tryz.underlying4 _), ?_, ?_, hb.frame _, fun h => by cases h⟩
 ·have hl0 : ∀ x ∈ p0, x.block < W.heap.size := fun x hx => hlt x (by simp [hx]); have hl1 : ∀ x ∈ p1, x.block < W.heap.size := fun x hx => hlt x (by simp [hx]); have k0 := Below.trod J9 (by kernel_rfl) (of_decide_eq_true (by kernel_rfl)) h0 hb hl0; have k1 := Below.trod J9 (by kernel_rfl) (of_decide_eq_true (by kernel_rfl)) h1 hb hl1; exact ⟨p0, p1, k0, ⟨p1, [], k1, rfl, by simp⟩, by simp⟩
 ·rfl
theorem Jn : Rows.HttpOrderSaid :=
  OpenClaim.holds_of_wide 8 Tryz.f8 rfl rfl rfl rfl rfl rfl rfl ⟨rfl, rfl, rfl, rfl, rfl⟩ rfl rfl rfl rfl rfl (by kernel_rfl) Tryz.func8 (by kernel_rfl)
    (of_decide_eq_true (by kernel_rfl)) (by unfold Func.isWrapper; first | (rw [if_pos (by decide +kernel)]; kernel_rfl) | (rw [if_neg (by decide +kernel)]; exact ⟨rfl, rfl⟩))
    (fun os started H enc _ => Hg os started H enc)
theorem httpOrder_holds : Rows.HttpOrderCardSaid :=
  Claim7.holds_tied_plain_at .later [] [.data, .data, .data, .data, .sentinel, .sentinel, .pinned] true (true, "663d7417cfa5581ae58ce8d2d6daa051cc224b06a548bf6383bd50ff79baa317") true
    Jn (fun _ h => by cases h) (by kernel_rfl) (fun _ h => by cases h) httpOrder_row_tie rfl ⟨rfl, rfl⟩ (by kernel_rfl) rfl
    (fun f fn hf hfn => by
      obtain rfl : f = 8 := Option.some.inj ((show Tryz.prog.funcNamed "cardcase/cardcaselaw12.HttpOrder" = some 8 by kernel_rfl).symm.trans hf) |>.symm
      obtain rfl : fn = Tryz.f8 := (Option.some.inj (Tryz.func8.symm.trans hfn)).symm
      exact ⟨by kernel_rfl, fun j t ht => by
        rw [Tryz.params8] at ht
        have hm : t ∈ [43, 3] := by simpa using Array.mem_of_getElem? ht
        have hall : ([43, 3].all fun u => !Tryz.prog.wantsStandIn u) = true := by kernel_rfl
        exact (show Tryz.prog.wantsStandIn t = false by simpa using List.all_eq_true.1 hall t hm)⟩)
    (by kernel_rfl)
end Go.Proofs.YtdgfbojdppohnaaGreatDoor
