/- The request, the reply of any bytes, or that they are of none: the saying of the case law 12 Part 7. Conditions: none. -/
import Derived.Test.YtdgfbojdppohnaaGreatDoorPartF
import Derived.Lib.IndexMore
import Derived.Ground.NamesProg
import Derived.Shelf.LaysM
import Derived.Shelf.Strings.Cut
import Derived.Test.YtdgfbojdppohnaaGreatDoorProg
import Derived.SizedLaws
import Derived.Handed
import Derived.ChangeSame
import Derived.Test.YtdgfbojdppohnaaGreatDoorRows
import Derived.Test.YtdgfbojdppohnaaGreatDoorTie
import Derived.Test.YtdgfbojdppohnaaGreatDoorCards
import Derived.LaidMore
import Derived.Carry
import Derived.Stop.Joined
import Derived.SevenTiedAt
import Derived.Stop.LaidErr
import Derived.Lib.LaidTab
import Derived.Lay
import Derived.MakeChecks
set_option linter.unusedSimpArgs false
set_option linter.unusedVariables false
namespace Go.Idl
open Go Go.Proofs.Tryz
noncomputable def HR (a0 : List UInt8) (x3 : (List UInt8) × Int) (v11 : Int) (v15 : Int) : Option (S42 × Bool) :=
 if (x3.1.length : Int) ≤ v15 then (some (((⟨[], [], [], []⟩ : S42), false))) else (gd (0 ≤ (IntKind.i64.wrap (v15 + 1))) (gd (IntKind.i64.wrap (v15 + 1) ≤ x3.1.length) (if ¬ (x3.1.drop (IntKind.i64.wrap (v15 + 1)).toNat) = ([72, 84, 84, 80, 47, 49, 46, 49]) then (some (((⟨[], [], [], []⟩ : S42), false))) else (gd (0 ≤ v11) (gd (v11 ≤ x3.1.length) ((F47 (x3.1.take v11.toNat)).bind fun (x24 : Bool) => if ¬ (x24 = true) then (some (((⟨[], [], [], []⟩ : S42), false))) else (gd (0 ≤ (IntKind.i64.wrap (v11 + 1))) (gd (IntKind.i64.wrap (v11 + 1) ≤ v15) (gd (v15 ≤ x3.1.length) ((F48 ((x3.1.take v15.toNat).drop (IntKind.i64.wrap (v11 + 1)).toNat)).bind fun (x29 : Bool) => if ¬ (x29 = true) then (some (((⟨[], [], [], []⟩ : S42), false))) else ((F54 a0 x3.2).bind fun (x33 : (List S55) × (List UInt8) × Bool) => if ¬ (x33.2.2 = true) then (some (((⟨[], [], [], []⟩ : S42), false))) else (some (((⟨(x3.1.take v11.toNat), (x3.1.take v15.toNat).drop (IntKind.i64.wrap (v11 + 1)).toNat, x33.1, x33.2.1⟩ : S42), true))))))))))))))
noncomputable def D0 (x3 : (List UInt8) × Int) (v14 : Int) : Option (Int ⊕ Int) :=
 if v14 < (x3.1.length : Int) then (gd (0 ≤ v14 ∧ v14 < x3.1.length) (if ¬ (((x3.1.getD v14.toNat 0).toNat : Int)) = 32 then (some (.inl (IntKind.i64.wrap (v14 + 1)))) else (some (.inr v14)))) else (some (.inr v14))
noncomputable def LL (a0 : List UInt8) (x3 : (List UInt8) × Int) (v11 : Int) : Option (S42 × Bool) :=
 (AH (fun (s : Int) => D0 x3 s) (IntKind.i64.wrap (v11 + 1))).bind fun (e : Int) => HR a0 x3 v11 e
noncomputable def LM (x3 : (List UInt8) × Int) (v10 : Int) : Option (Int ⊕ Int) :=
 if v10 < (x3.1.length : Int) then (gd (0 ≤ v10 ∧ v10 < x3.1.length) (if ¬ (((x3.1.getD v10.toNat 0).toNat : Int)) = 32 then (some (.inl (IntKind.i64.wrap (v10 + 1)))) else (some (.inr v10)))) else (some (.inr v10))
noncomputable def F23 (a0 : List UInt8) : Option (S42 × Bool) :=
 (F53 a0 0).bind fun (x3 : (List UInt8) × Int) => if x3.2 < 0 then (some (((⟨[], [], [], []⟩ : S42), false))) else ((AH (fun (s : Int) => LM x3 s) 0).bind fun (e : Int) => LL a0 x3 e)
set_option maxHeartbeats 8000000 in
set_option pp.deepTerms false in
set_option maxRecDepth 60000 in
theorem Vh {H : A3} {K : AB → A3 → Prop} (a0 : List UInt8) {r : S42 × Bool} (h : F23 a0 = some r) (hK : K (.ret (.tu [.ag ([.v (str r.1.AI), .v (str r.1.Bw), .sl 2 (r.1.Ax.map fun x => [.v (str x.fName), .v (str x.A8)]), .sl 1 (r.1.AT.map fun x => [.v (.int .u8 x.toNat)])]), .v (.bool r.2)])) H) : A6 prog 23 [.sl 1 (a0.map fun x => [.v (.int .u8 x.toNat)])] H K := by
 refine Ae (N := 94) func23 (by kernel_rfl) rfl (by kernel_rfl) (by kernel_rfl) fun cb hcb hw hbd hnb => ?_; clear hbd hnb; subst hcb; unfold F23 at h; refine A2 fun cb hc1 => ?_; refine vcK ?_
 try simp -implicitDefEqProofs (disch := omega) [go_sem, bdP]
 subst hc1; refine A2 fun cb hc2 => ?_; refine vcK ?_
 try simp -implicitDefEqProofs (disch := omega) [go_sem, bdP]
 obtain ⟨x3, hx3, h⟩ := A5 h; refine A6.eqA (args' := [.sl 1 (a0.map fun x => [.v (.int .u8 x.toNat)]), .v (.int .i64 0)]) (by first | with_reducible rfl | (simp -implicitDefEqProofs (disch := omega) [go_sem, bdP] <;> omega)) (Ka a0 0 hx3 ?_)
 try simp -implicitDefEqProofs (disch := omega) [go_sem, bdP]
 subst hc2; refine A2 fun cb hc4 => ?_; refine A2 fun cb hc5 => ?_; refine vcK ?_
 try simp -implicitDefEqProofs (disch := omega) [go_sem, bdP]
 subst hc5; refine Ac h (by first | with_reducible rfl | (simp -implicitDefEqProofs (disch := omega) [go_sem, bdP] <;> omega)) rfl ?_ ?_
 ·intro c6 h
  try simp (disch := omega) at c6
  refine A2 fun cb hc7 => ?_; refine vcK ?_
  try simp -implicitDefEqProofs (disch := omega) [go_sem, bdP]
  subst hc7; refine vcK ?_; simp -implicitDefEqProofs only [go_sem]; have er := Option.some.inj h; subst er
  try simp -implicitDefEqProofs (disch := omega) [go_sem, bdP]
  refine Az (J := H) (r' := _) (Ext.CK (by exact A9 (Ext.refl hw))) (by first | with_reducible rfl | (simp -implicitDefEqProofs (disch := omega) [go_sem, bdP] <;> omega)) (.wk _ (.tu [.ag ([.v (str []), .v (str []), .sl 2 (([] : List S55).map fun x => [.v (str x.fName), .v (str x.A8)]), .sl 1 (([] : List UInt8).map fun x => [.v (.int .u8 x.toNat)])]), .v (.bool false)]) (by repeat (first | exact WkL.nil | refine WkL.cons ?_ ?_ | exact Wk.refl _ | exact Wk.nil _ | refine Wk.agL ?_ | refine Wk.tuL ?_ | (refine Wk.eqv ?_; focus (simp -implicitDefEqProofs (disch := omega) [go_sem, str]; done)))) (by first | exact nbA | exact BJ | exact Bu)) hK
 ·intro c6 h
  try simp (disch := omega) at c6
  refine vcK ?_; simp -implicitDefEqProofs only [go_sem]; subst hc4; refine A2 fun cb hc8 => ?_; refine vcK ?_
  try simp -implicitDefEqProofs (disch := omega) [go_sem, bdP]
  subst hc8; obtain ⟨y9, hl9q, hk9⟩ := A5 h; refine Dj (fun tm' H' => ∃ v11 : Int, v11 = y9 ∧ Ext H H' ∧ H.next + 1 ≤ H'.next ∧ tm' 0 = .sl 1 (a0.map fun x => [.v (.int .u8 x.toNat)]) ∧ tm' 2 = .p H.next 0 ∧ tm' 4 = .v (str x3.1) ∧ tm' 5 = .v (.int .i64 x3.2) ∧ tm' 6 = .v (.int .i64 v11) ∧ H'.obj H.next = some (.cells ([.v (str []), .v (str []), .v (.slice none 0 0), .v (.slice none 0 0)]))) ?_ fun cb hc9 => ?_
  ·rintro tm9e H9e ⟨v11, rfl, he9e, hl9e, t0_9e, t2_9e, t4_9e, t5_9e, t6_9e, ob0_9e⟩
   have h : LL a0 x3 v11 = some r := hk9; unfold LL at h; refine A2 fun cb hc12 => ?_; refine vcK ?_
   try simp -implicitDefEqProofs (disch := omega) [go_sem, bdP, t0_9e, t2_9e, t4_9e, t5_9e, t6_9e, ob0_9e]
   subst hc12; obtain ⟨y13, hl13q, hk13⟩ := A5 h; refine Dj (fun tm' H' => ∃ v15 : Int, v15 = y13 ∧ H9e = H' ∧ tm' 0 = .sl 1 (a0.map fun x => [.v (.int .u8 x.toNat)]) ∧ tm' 2 = .p H.next 0 ∧ tm' 4 = .v (str x3.1) ∧ tm' 5 = .v (.int .i64 x3.2) ∧ tm' 6 = .v (.int .i64 v11) ∧ tm' 7 = .v (.int .i64 v15)) ?_ fun cb hc13 => ?_
   ·rintro tm13e H13e ⟨v15, rfl, rfl, t0_13e, t2_13e, t4_13e, t5_13e, t6_13e, t7_13e⟩
    have h : HR a0 x3 v11 v15 = some r := hk13; unfold HR at h; refine A2 fun cb hc16 => ?_; refine A2 fun cb hc17 => ?_; refine vcK ?_
    try simp -implicitDefEqProofs (disch := omega) [go_sem, bdP, t0_13e, t2_13e, t4_13e, t5_13e, t6_13e, t7_13e, ob0_9e]
    refine A7 h (by first | with_reducible rfl | (simp -implicitDefEqProofs (disch := omega) [go_sem, bdP, t0_13e, t2_13e, t4_13e, t5_13e, t6_13e, t7_13e, ob0_9e] <;> omega)) ?_ ?_
    ·intro c41 h
     try simp (disch := omega) at c41
     try simp -implicitDefEqProofs (disch := omega) [go_sem, bdP, t0_13e, t2_13e, t4_13e, t5_13e, t6_13e, t7_13e, ob0_9e]
     subst hc17; refine As (by first | with_reducible rfl | (simp -implicitDefEqProofs (disch := omega) [go_sem, bdP, t0_13e, t2_13e, t4_13e, t5_13e, t6_13e, t7_13e, ob0_9e] <;> omega)) rfl ?_; refine A2 fun cb hc18 => ?_; refine vcK ?_
     try simp -implicitDefEqProofs (disch := omega) [go_sem, bdP, t0_13e, t2_13e, t4_13e, t5_13e, t6_13e, t7_13e, ob0_9e]
     subst hc18; refine vcK ?_; simp -implicitDefEqProofs only [go_sem]; have er := Option.some.inj h; subst er
     try simp -implicitDefEqProofs (disch := omega) [go_sem, bdP, t0_13e, t2_13e, t4_13e, t5_13e, t6_13e, t7_13e, ob0_9e]
     refine Az (J := H) (r' := _) (Ext.CK (by exact A9 he9e)) (by first | with_reducible rfl | (simp -implicitDefEqProofs (disch := omega) [go_sem, bdP, t0_13e, t2_13e, t4_13e, t5_13e, t6_13e, t7_13e, ob0_9e] <;> omega)) (.wk _ (.tu [.ag ([.v (str []), .v (str []), .sl 2 (([] : List S55).map fun x => [.v (str x.fName), .v (str x.A8)]), .sl 1 (([] : List UInt8).map fun x => [.v (.int .u8 x.toNat)])]), .v (.bool false)]) (by repeat (first | exact WkL.nil | refine WkL.cons ?_ ?_ | exact Wk.refl _ | exact Wk.nil _ | refine Wk.agL ?_ | refine Wk.tuL ?_ | (refine Wk.eqv ?_; focus (simp -implicitDefEqProofs (disch := omega) [go_sem, str]; done)))) (by first | exact nbA | exact BJ | exact Bu)) hK
    ·intro c41 h
     try simp (disch := omega) at c41
     obtain ⟨g19, h⟩ := Ab.1 h
     try simp (disch := omega) at g19
     obtain ⟨g20, h⟩ := Ab.1 h
     try simp (disch := omega) at g20
     try simp -implicitDefEqProofs (disch := omega) [go_sem] at g19
     try simp -implicitDefEqProofs (disch := omega) [go_sem] at g20
     try simp -implicitDefEqProofs (disch := omega) [go_sem, bdP, t0_13e, t2_13e, t4_13e, t5_13e, t6_13e, t7_13e, ob0_9e]
     refine A7 h (by first | with_reducible rfl | (simp -implicitDefEqProofs (disch := omega) [go_sem, bdP, t0_13e, t2_13e, t4_13e, t5_13e, t6_13e, t7_13e, ob0_9e] <;> omega)) ?_ ?_
     ·intro c40 h
      try simp (disch := omega) at c40
      try simp -implicitDefEqProofs (disch := omega) [go_sem, bdP, t0_13e, t2_13e, t4_13e, t5_13e, t6_13e, t7_13e, ob0_9e]
      subst hc17; refine As (by first | with_reducible rfl | (simp -implicitDefEqProofs (disch := omega) [go_sem, bdP, t0_13e, t2_13e, t4_13e, t5_13e, t6_13e, t7_13e, ob0_9e] <;> omega)) rfl ?_; refine A2 fun cb hc21 => ?_; refine vcK ?_
      try simp -implicitDefEqProofs (disch := omega) [go_sem, bdP, t0_13e, t2_13e, t4_13e, t5_13e, t6_13e, t7_13e, ob0_9e]
      subst hc21; refine vcK ?_; simp -implicitDefEqProofs only [go_sem]; have er := Option.some.inj h; subst er
      try simp -implicitDefEqProofs (disch := omega) [go_sem, bdP, t0_13e, t2_13e, t4_13e, t5_13e, t6_13e, t7_13e, ob0_9e]
      refine Az (J := H) (r' := _) (Ext.CK (by exact A9 he9e)) (by first | with_reducible rfl | (simp -implicitDefEqProofs (disch := omega) [go_sem, bdP, t0_13e, t2_13e, t4_13e, t5_13e, t6_13e, t7_13e, ob0_9e] <;> omega)) (.wk _ (.tu [.ag ([.v (str []), .v (str []), .sl 2 (([] : List S55).map fun x => [.v (str x.fName), .v (str x.A8)]), .sl 1 (([] : List UInt8).map fun x => [.v (.int .u8 x.toNat)])]), .v (.bool false)]) (by repeat (first | exact WkL.nil | refine WkL.cons ?_ ?_ | exact Wk.refl _ | exact Wk.nil _ | refine Wk.agL ?_ | refine Wk.tuL ?_ | (refine Wk.eqv ?_; focus (simp -implicitDefEqProofs (disch := omega) [go_sem, str]; done)))) (by first | exact nbA | exact BJ | exact Bu)) hK
     ·intro c40 h
      try simp (disch := omega) at c40
      obtain ⟨g22, h⟩ := Ab.1 h
      try simp (disch := omega) at g22
      obtain ⟨g23, h⟩ := Ab.1 h
      try simp (disch := omega) at g23
      try simp -implicitDefEqProofs (disch := omega) [go_sem, bdP, t0_13e, t2_13e, t4_13e, t5_13e, t6_13e, t7_13e, ob0_9e]
      obtain ⟨x24, hx24, h⟩ := A5 h; refine A6.eqA (args' := [.v (str (x3.1.take v11.toNat))]) (by first | with_reducible rfl | (simp -implicitDefEqProofs (disch := omega) [go_sem, bdP, t0_13e, t2_13e, t4_13e, t5_13e, t6_13e, t7_13e, ob0_9e] <;> omega)) (V8 (x3.1.take v11.toNat) hx24 ?_)
      try simp -implicitDefEqProofs (disch := omega) [go_sem, bdP, t0_13e, t2_13e, t4_13e, t5_13e, t6_13e, t7_13e, ob0_9e]
      refine A7 h (by first | with_reducible rfl | (simp -implicitDefEqProofs (disch := omega) [go_sem, bdP, t0_13e, t2_13e, t4_13e, t5_13e, t6_13e, t7_13e, ob0_9e] <;> omega)) ?_ ?_
      ·intro c39 h
       try simp (disch := omega) at c39
       try simp -implicitDefEqProofs (disch := omega) [go_sem, bdP, t0_13e, t2_13e, t4_13e, t5_13e, t6_13e, t7_13e, ob0_9e]
       subst hc17; refine As (by first | with_reducible rfl | (simp -implicitDefEqProofs (disch := omega) [go_sem, bdP, t0_13e, t2_13e, t4_13e, t5_13e, t6_13e, t7_13e, ob0_9e] <;> omega)) rfl ?_; refine A2 fun cb hc25 => ?_; refine vcK ?_
       try simp -implicitDefEqProofs (disch := omega) [go_sem, bdP, t0_13e, t2_13e, t4_13e, t5_13e, t6_13e, t7_13e, ob0_9e]
       subst hc25; refine vcK ?_; simp -implicitDefEqProofs only [go_sem]; have er := Option.some.inj h; subst er
       try simp -implicitDefEqProofs (disch := omega) [go_sem, bdP, t0_13e, t2_13e, t4_13e, t5_13e, t6_13e, t7_13e, ob0_9e]
       refine Az (J := H) (r' := _) (Ext.CK (by exact A9 he9e)) (by first | with_reducible rfl | (simp -implicitDefEqProofs (disch := omega) [go_sem, bdP, t0_13e, t2_13e, t4_13e, t5_13e, t6_13e, t7_13e, ob0_9e] <;> omega)) (.wk _ (.tu [.ag ([.v (str []), .v (str []), .sl 2 (([] : List S55).map fun x => [.v (str x.fName), .v (str x.A8)]), .sl 1 (([] : List UInt8).map fun x => [.v (.int .u8 x.toNat)])]), .v (.bool false)]) (by repeat (first | exact WkL.nil | refine WkL.cons ?_ ?_ | exact Wk.refl _ | exact Wk.nil _ | refine Wk.agL ?_ | refine Wk.tuL ?_ | (refine Wk.eqv ?_; focus (simp -implicitDefEqProofs (disch := omega) [go_sem, str]; done)))) (by first | exact nbA | exact BJ | exact Bu)) hK
      ·intro c39 h
       try simp (disch := omega) at c39
       obtain ⟨g26, h⟩ := Ab.1 h
       try simp (disch := omega) at g26
       obtain ⟨g27, h⟩ := Ab.1 h
       try simp (disch := omega) at g27
       obtain ⟨g28, h⟩ := Ab.1 h
       try simp (disch := omega) at g28
       try simp -implicitDefEqProofs (disch := omega) [go_sem] at g26
       try simp -implicitDefEqProofs (disch := omega) [go_sem] at g27
       try simp -implicitDefEqProofs (disch := omega) [go_sem, bdP, t0_13e, t2_13e, t4_13e, t5_13e, t6_13e, t7_13e, ob0_9e]
       obtain ⟨x29, hx29, h⟩ := A5 h; refine A6.eqA (args' := [.v (str ((x3.1.take v15.toNat).drop (IntKind.i64.wrap (v11 + 1)).toNat))]) (by first | with_reducible rfl | (simp -implicitDefEqProofs (disch := omega) [go_sem, bdP, t0_13e, t2_13e, t4_13e, t5_13e, t6_13e, t7_13e, ob0_9e] <;> omega)) (V9 ((x3.1.take v15.toNat).drop (IntKind.i64.wrap (v11 + 1)).toNat) hx29 ?_)
       try simp -implicitDefEqProofs (disch := omega) [go_sem, bdP, t0_13e, t2_13e, t4_13e, t5_13e, t6_13e, t7_13e, ob0_9e]
       subst hc17; refine Ac h (by first | with_reducible rfl | (simp -implicitDefEqProofs (disch := omega) [go_sem, bdP, t0_13e, t2_13e, t4_13e, t5_13e, t6_13e, t7_13e, ob0_9e] <;> omega)) rfl ?_ ?_
       ·intro c30 h
        try simp (disch := omega) at c30
        refine A2 fun cb hc31 => ?_; refine vcK ?_
        try simp -implicitDefEqProofs (disch := omega) [go_sem, bdP, t0_13e, t2_13e, t4_13e, t5_13e, t6_13e, t7_13e, ob0_9e]
        subst hc31; refine vcK ?_; simp -implicitDefEqProofs only [go_sem]; have er := Option.some.inj h; subst er
        try simp -implicitDefEqProofs (disch := omega) [go_sem, bdP, t0_13e, t2_13e, t4_13e, t5_13e, t6_13e, t7_13e, ob0_9e]
        refine Az (J := H) (r' := _) (Ext.CK (by exact A9 he9e)) (by first | with_reducible rfl | (simp -implicitDefEqProofs (disch := omega) [go_sem, bdP, t0_13e, t2_13e, t4_13e, t5_13e, t6_13e, t7_13e, ob0_9e] <;> omega)) (.wk _ (.tu [.ag ([.v (str []), .v (str []), .sl 2 (([] : List S55).map fun x => [.v (str x.fName), .v (str x.A8)]), .sl 1 (([] : List UInt8).map fun x => [.v (.int .u8 x.toNat)])]), .v (.bool false)]) (by repeat (first | exact WkL.nil | refine WkL.cons ?_ ?_ | exact Wk.refl _ | exact Wk.nil _ | refine Wk.agL ?_ | refine Wk.tuL ?_ | (refine Wk.eqv ?_; focus (simp -implicitDefEqProofs (disch := omega) [go_sem, str]; done)))) (by first | exact nbA | exact BJ | exact Bu)) hK
       ·intro c30 h
        try simp (disch := omega) at c30
        refine vcK ?_; simp -implicitDefEqProofs only [go_sem]; subst hc16; refine A2 fun cb hc32 => ?_; refine vcK ?_
        try simp -implicitDefEqProofs (disch := omega) [go_sem, bdP, t0_13e, t2_13e, t4_13e, t5_13e, t6_13e, t7_13e, ob0_9e]
        obtain ⟨x33, hx33, h⟩ := A5 h; refine A6.eqA (args' := [.sl 1 (a0.map fun x => [.v (.int .u8 x.toNat)]), .v (.int .i64 x3.2)]) (by first | with_reducible rfl | (simp -implicitDefEqProofs (disch := omega) [go_sem, bdP, t0_13e, t2_13e, t4_13e, t5_13e, t6_13e, t7_13e, ob0_9e] <;> omega)) (QL a0 x3.2 hx33 ?_)
        try simp -implicitDefEqProofs (disch := omega) [go_sem, bdP, t0_13e, t2_13e, t4_13e, t5_13e, t6_13e, t7_13e, ob0_9e]
        subst hc32; refine A2 fun cb hc34 => ?_; refine A2 fun cb hc35 => ?_; refine vcK ?_
        try simp -implicitDefEqProofs (disch := omega) [go_sem, bdP, t0_13e, t2_13e, t4_13e, t5_13e, t6_13e, t7_13e, ob0_9e]
        subst hc35; refine Ac h (by first | with_reducible rfl | (simp -implicitDefEqProofs (disch := omega) [go_sem, bdP, t0_13e, t2_13e, t4_13e, t5_13e, t6_13e, t7_13e, ob0_9e] <;> omega)) rfl ?_ ?_
        ·intro c36 h
         try simp (disch := omega) at c36
         refine A2 fun cb hc37 => ?_; refine vcK ?_
         try simp -implicitDefEqProofs (disch := omega) [go_sem, bdP, t0_13e, t2_13e, t4_13e, t5_13e, t6_13e, t7_13e, ob0_9e]
         subst hc37; refine vcK ?_; simp -implicitDefEqProofs only [go_sem]; have er := Option.some.inj h; subst er
         try simp -implicitDefEqProofs (disch := omega) [go_sem, bdP, t0_13e, t2_13e, t4_13e, t5_13e, t6_13e, t7_13e, ob0_9e]
         refine Az (J := H) (r' := _) (Ext.CK (by exact A9 he9e)) (by first | with_reducible rfl | (simp -implicitDefEqProofs (disch := omega) [go_sem, bdP, t0_13e, t2_13e, t4_13e, t5_13e, t6_13e, t7_13e, ob0_9e] <;> omega)) (.wk _ (.tu [.ag ([.v (str []), .v (str []), .sl 2 (([] : List S55).map fun x => [.v (str x.fName), .v (str x.A8)]), .sl 1 (([] : List UInt8).map fun x => [.v (.int .u8 x.toNat)])]), .v (.bool false)]) (by repeat (first | exact WkL.nil | refine WkL.cons ?_ ?_ | exact Wk.refl _ | exact Wk.nil _ | refine Wk.agL ?_ | refine Wk.tuL ?_ | (refine Wk.eqv ?_; focus (simp -implicitDefEqProofs (disch := omega) [go_sem, str]; done)))) (by first | exact nbA | exact BJ | exact Bu)) hK
        ·intro c36 h
         try simp (disch := omega) at c36
         refine vcK ?_; simp -implicitDefEqProofs only [go_sem]; subst hc34; refine A2 fun cb hc38 => ?_; refine Ck [] [0, 1, 2, 3, 4, 5, 6, 7, 8, 9, 10, 11, 12] (by kernel_rfl) (by kernel_rfl) (fun _ _ _ _ h => h) ?_
         try simp -implicitDefEqProofs (disch := omega) [go_sem, bdP, t0_13e, t2_13e, t4_13e, t5_13e, t6_13e, t7_13e, ob0_9e]
         subst hc38; refine vcK ?_; simp -implicitDefEqProofs only [go_sem]; have er := Option.some.inj h; subst er
         try simp -implicitDefEqProofs (disch := omega) [go_sem, bdP, t0_13e, t2_13e, t4_13e, t5_13e, t6_13e, t7_13e, ob0_9e]
         refine A4 (by exact A9 he9e) (by first | with_reducible rfl | (simp -implicitDefEqProofs (disch := omega) [go_sem, bdP, t0_13e, t2_13e, t4_13e, t5_13e, t6_13e, t7_13e, ob0_9e] <;> omega)) nbA hK
   ·refine Ai ?_; refine AF (fun (s : Int) tm' H' => H9e = H' ∧ tm' 0 = .sl 1 (a0.map fun x => [.v (.int .u8 x.toNat)]) ∧ tm' 2 = .p H.next 0 ∧ tm' 4 = .v (str x3.1) ∧ tm' 5 = .v (.int .i64 x3.2) ∧ tm' 6 = .v (.int .i64 v11) ∧ tm' 7 = .v (.int .i64 s)) hl13q ?_ ?_
    ·refine .same ⟨rfl, ?_, ?_, ?_, ?_, ?_, ?_⟩ <;> first | with_reducible rfl | with_reducible assumption | (simp -implicitDefEqProofs (disch := omega) [go_sem, bdP, t0_9e, t2_9e, t4_9e, t5_9e, t6_9e, ob0_9e] <;> omega)
    ·rintro I13 hI13 v14 x13 tm13 H13 ⟨rfl, Bx, Gu, Gv, Gw, Gx, By⟩ h hret13
     replace h : D0 x3 v14 = some x13 := h; unfold D0 at h; refine A2 fun cb hc42 => ?_; refine A2 fun cb hc43 => ?_; refine vcK ?_
     try simp -implicitDefEqProofs (disch := omega) [go_sem, bdP, Bx, Gu, Gv, Gw, Gx, By, ob0_9e]
     refine A7 h (by first | with_reducible rfl | (simp -implicitDefEqProofs (disch := omega) [go_sem, bdP, Bx, Gu, Gv, Gw, Gx, By, ob0_9e] <;> omega)) ?_ ?_
     ·intro c46 h
      try simp (disch := omega) at c46
      obtain ⟨g44, h⟩ := Ab.1 h
      try simp (disch := omega) at g44
      try simp -implicitDefEqProofs (disch := omega) [go_sem, bdP, Bx, Gu, Gv, Gw, Gx, By, ob0_9e]
      subst hc43; refine Ac h (by first | with_reducible rfl | (simp -implicitDefEqProofs (disch := omega) [go_sem, bdP, Bx, Gu, Gv, Gw, Gx, By, ob0_9e] <;> omega)) rfl ?_ ?_
      ·intro c45 h
       try simp (disch := omega) at c45
       refine vcK ?_; simp -implicitDefEqProofs only [go_sem]; subst hc42; refine Ai ?_; refine vcK ?_
       try simp -implicitDefEqProofs (disch := omega) [go_sem, bdP, Bx, Gu, Gv, Gw, Gx, By, ob0_9e]
       have e13 := Option.some.inj h; subst e13; refine Au hI13 (IntKind.i64.wrap (v14 + 1)) ?_; refine .same ⟨rfl, ?_, ?_, ?_, ?_, ?_, ?_⟩ <;> first | with_reducible rfl | with_reducible assumption | (simp -implicitDefEqProofs (disch := omega) [go_sem, bdP, Bx, Gu, Gv, Gw, Gx, By, ob0_9e] <;> omega)
      ·intro c45 h
       try simp (disch := omega) at c45
       refine vcK ?_; simp -implicitDefEqProofs only [go_sem]; have e13 := Option.some.inj h; subst e13; have hy13 := hret13 _ rfl; refine hc13 _ _ ?_; refine .same ⟨v14, hy13, rfl, ?_, ?_, ?_, ?_, ?_, ?_⟩ <;> first | with_reducible rfl | with_reducible assumption | (simp -implicitDefEqProofs (disch := omega) [go_sem, bdP, Bx, Gu, Gv, Gw, Gx, By, ob0_9e] <;> omega)
     ·intro c46 h
      try simp (disch := omega) at c46
      try simp -implicitDefEqProofs (disch := omega) [go_sem, bdP, Bx, Gu, Gv, Gw, Gx, By, ob0_9e]
      subst hc43; refine AG (by first | with_reducible rfl | (simp -implicitDefEqProofs (disch := omega) [go_sem, bdP, Bx, Gu, Gv, Gw, Gx, By, ob0_9e] <;> omega)) rfl ?_; refine vcK ?_; simp -implicitDefEqProofs only [go_sem]; have e13 := Option.some.inj h; subst e13; have hy13 := hret13 _ rfl; refine hc13 _ _ ?_; refine .same ⟨v14, hy13, rfl, ?_, ?_, ?_, ?_, ?_, ?_⟩ <;> first | with_reducible rfl | with_reducible assumption | (simp -implicitDefEqProofs (disch := omega) [go_sem, bdP, Bx, Gu, Gv, Gw, Gx, By, ob0_9e] <;> omega)
  ·refine Ai ?_; refine AF (fun (s : Int) tm' H' => Ext H H' ∧ H.next + 1 ≤ H'.next ∧ tm' 0 = .sl 1 (a0.map fun x => [.v (.int .u8 x.toNat)]) ∧ tm' 2 = .p H.next 0 ∧ tm' 4 = .v (str x3.1) ∧ tm' 5 = .v (.int .i64 x3.2) ∧ tm' 6 = .v (.int .i64 s) ∧ H'.obj H.next = some (.cells ([.v (str []), .v (str []), .v (.slice none 0 0), .v (.slice none 0 0)]))) hl9q ?_ ?_
   ·refine .same ⟨by exact A9 (Ext.refl hw), by first | with_reducible rfl | with_reducible assumption | omega | (simp -implicitDefEqProofs (disch := omega) [go_sem, bdP] <;> omega), ?_, ?_, ?_, ?_, ?_, ?_⟩ <;> first | with_reducible rfl | with_reducible assumption | (simp -implicitDefEqProofs (disch := omega) [go_sem, bdP] <;> omega)
   ·rintro I9 hI9 v10 x9 tm9 H9 ⟨he9, hl9, Iq, Ir, Is, It, Iu, E_⟩ h hret9
    replace h : LM x3 v10 = some x9 := h; unfold LM at h; refine A2 fun cb hc47 => ?_; refine A2 fun cb hc48 => ?_; refine vcK ?_
    try simp -implicitDefEqProofs (disch := omega) [go_sem, bdP, Iq, Ir, Is, It, Iu, E_]
    refine A7 h (by first | with_reducible rfl | (simp -implicitDefEqProofs (disch := omega) [go_sem, bdP, Iq, Ir, Is, It, Iu, E_] <;> omega)) ?_ ?_
    ·intro c51 h
     try simp (disch := omega) at c51
     obtain ⟨g49, h⟩ := Ab.1 h
     try simp (disch := omega) at g49
     try simp -implicitDefEqProofs (disch := omega) [go_sem, bdP, Iq, Ir, Is, It, Iu, E_]
     subst hc48; refine Ac h (by first | with_reducible rfl | (simp -implicitDefEqProofs (disch := omega) [go_sem, bdP, Iq, Ir, Is, It, Iu, E_] <;> omega)) rfl ?_ ?_
     ·intro c50 h
      try simp (disch := omega) at c50
      refine vcK ?_; simp -implicitDefEqProofs only [go_sem]; subst hc47; refine Ai ?_; refine vcK ?_
      try simp -implicitDefEqProofs (disch := omega) [go_sem, bdP, Iq, Ir, Is, It, Iu, E_]
      have e9 := Option.some.inj h; subst e9; refine Au hI9 (IntKind.i64.wrap (v10 + 1)) ?_; refine .same ⟨by exact A9 he9, by first | with_reducible rfl | with_reducible assumption | omega | (simp -implicitDefEqProofs (disch := omega) [go_sem, bdP, Iq, Ir, Is, It, Iu, E_] <;> omega), ?_, ?_, ?_, ?_, ?_, ?_⟩ <;> first | with_reducible rfl | with_reducible assumption | (simp -implicitDefEqProofs (disch := omega) [go_sem, bdP, Iq, Ir, Is, It, Iu, E_] <;> omega)
     ·intro c50 h
      try simp (disch := omega) at c50
      refine vcK ?_; simp -implicitDefEqProofs only [go_sem]; have e9 := Option.some.inj h; subst e9; have hy9 := hret9 _ rfl; refine hc9 _ _ ?_; refine .same ⟨v10, hy9, by exact A9 he9, by first | with_reducible rfl | with_reducible assumption | omega | (simp -implicitDefEqProofs (disch := omega) [go_sem, bdP, Iq, Ir, Is, It, Iu, E_] <;> omega), ?_, ?_, ?_, ?_, ?_, ?_⟩ <;> first | with_reducible rfl | with_reducible assumption | (simp -implicitDefEqProofs (disch := omega) [go_sem, bdP, Iq, Ir, Is, It, Iu, E_] <;> omega)
    ·intro c51 h
     try simp (disch := omega) at c51
     try simp -implicitDefEqProofs (disch := omega) [go_sem, bdP, Iq, Ir, Is, It, Iu, E_]
     subst hc48; refine AG (by first | with_reducible rfl | (simp -implicitDefEqProofs (disch := omega) [go_sem, bdP, Iq, Ir, Is, It, Iu, E_] <;> omega)) rfl ?_; refine vcK ?_; simp -implicitDefEqProofs only [go_sem]; have e9 := Option.some.inj h; subst e9; have hy9 := hret9 _ rfl; refine hc9 _ _ ?_; refine .same ⟨v10, hy9, by exact A9 he9, by first | with_reducible rfl | with_reducible assumption | omega | (simp -implicitDefEqProofs (disch := omega) [go_sem, bdP, Iq, Ir, Is, It, Iu, E_] <;> omega), ?_, ?_, ?_, ?_, ?_, ?_⟩ <;> first | with_reducible rfl | with_reducible assumption | (simp -implicitDefEqProofs (disch := omega) [go_sem, bdP, Iq, Ir, Is, It, Iu, E_] <;> omega)
end Go.Idl
namespace Go.Idl
open Go Go.Proofs.Tryz
noncomputable def GV (a0 : List UInt8) (x3 : (List UInt8) × Int) : Option (S25 × Bool) :=
 gd (9 < x3.1.length) (gd (10 < x3.1.length) (gd (11 < x3.1.length) ((F54 a0 x3.2).bind fun (x10 : (List S55) × (List UInt8) × Bool) => if ¬ (x10.2.2 = true) then (some (((⟨0, [], []⟩ : S25), false))) else (if (IntKind.i64.wrap ((IntKind.i64.wrap ((IntKind.i64.wrap ((IntKind.i64.wrap (100 * (IntKind.i64.wrap ((IntKind.i64.wrap (((x3.1.getD 9 0).toNat : Int))) - 48)))) + (IntKind.i64.wrap (10 * (IntKind.i64.wrap ((IntKind.i64.wrap (((x3.1.getD 10 0).toNat : Int))) - 48)))))) + (IntKind.i64.wrap (((x3.1.getD 11 0).toNat : Int))))) - 48)) < 100 then (some (((⟨0, [], []⟩ : S25), false))) else (if 599 < (IntKind.i64.wrap ((IntKind.i64.wrap ((IntKind.i64.wrap ((IntKind.i64.wrap (100 * (IntKind.i64.wrap ((IntKind.i64.wrap (((x3.1.getD 9 0).toNat : Int))) - 48)))) + (IntKind.i64.wrap (10 * (IntKind.i64.wrap ((IntKind.i64.wrap (((x3.1.getD 10 0).toNat : Int))) - 48)))))) + (IntKind.i64.wrap (((x3.1.getD 11 0).toNat : Int))))) - 48)) then (some (((⟨0, [], []⟩ : S25), false))) else (some (((⟨IntKind.i64.wrap ((IntKind.i64.wrap ((IntKind.i64.wrap ((IntKind.i64.wrap (100 * (IntKind.i64.wrap ((IntKind.i64.wrap (((x3.1.getD 9 0).toNat : Int))) - 48)))) + (IntKind.i64.wrap (10 * (IntKind.i64.wrap ((IntKind.i64.wrap (((x3.1.getD 10 0).toNat : Int))) - 48)))))) + (IntKind.i64.wrap (((x3.1.getD 11 0).toNat : Int))))) - 48), x10.1, x10.2.1⟩ : S25), true))))))))
noncomputable def F24 (a0 : List UInt8) : Option (S25 × Bool) :=
 (F53 a0 0).bind fun (x3 : (List UInt8) × Int) => if x3.2 < 0 then (some (((⟨0, [], []⟩ : S25), false))) else (if (x3.1.length : Int) < 12 then (some (((⟨0, [], []⟩ : S25), false))) else (gd (0 ≤ 9) (gd (9 ≤ x3.1.length) (if ¬ (x3.1.take 9) = ([72, 84, 84, 80, 47, 49, 46, 49, 32]) then (some (((⟨0, [], []⟩ : S25), false))) else (gd (9 ≤ 12) (gd (12 ≤ x3.1.length) ((F55 ((x3.1.take 12).drop 9) 48 57).bind fun (x29 : Bool) => if ¬ (x29 = true) then (some (((⟨0, [], []⟩ : S25), false))) else (if 12 < (x3.1.length : Int) then (gd (12 < x3.1.length) (if ¬ (((x3.1.getD 12 0).toNat : Int)) = 32 then (some (((⟨0, [], []⟩ : S25), false))) else ((F55 (x3.1.drop 12) 32 126).bind fun (x33 : Bool) => if ¬ (x33 = true) then (some (((⟨0, [], []⟩ : S25), false))) else (GV a0 x3)))) else (GV a0 x3)))))))))
set_option maxHeartbeats 8000000 in
set_option pp.deepTerms false in
set_option maxRecDepth 60000 in
theorem Vi {H : A3} {K : AB → A3 → Prop} (a0 : List UInt8) {r : S25 × Bool} (h : F24 a0 = some r) (hK : K (.ret (.tu [.ag ([.v (.int .i64 r.1.CP), .sl 2 (r.1.Ax.map fun x => [.v (str x.fName), .v (str x.A8)]), .sl 1 (r.1.AT.map fun x => [.v (.int .u8 x.toNat)])]), .v (.bool r.2)])) H) : A6 prog 24 [.sl 1 (a0.map fun x => [.v (.int .u8 x.toNat)])] H K := by
 refine Ae (N := 92) func24 (by kernel_rfl) rfl (by kernel_rfl) (by kernel_rfl) fun cb hcb hw hbd hnb => ?_; clear hbd hnb; subst hcb; unfold F24 at h; refine A2 fun cb hc1 => ?_; refine vcK ?_
 try simp -implicitDefEqProofs (disch := omega) [go_sem, bdP]
 subst hc1; refine A2 fun cb hc2 => ?_; refine vcK ?_
 try simp -implicitDefEqProofs (disch := omega) [go_sem, bdP]
 obtain ⟨x3, hx3, h⟩ := A5 h; refine A6.eqA (args' := [.sl 1 (a0.map fun x => [.v (.int .u8 x.toNat)]), .v (.int .i64 0)]) (by first | with_reducible rfl | (simp -implicitDefEqProofs (disch := omega) [go_sem, bdP] <;> omega)) (Ka a0 0 hx3 ?_)
 try simp -implicitDefEqProofs (disch := omega) [go_sem, bdP]
 subst hc2; refine Dj (fun tm' H' => Ext H H' ∧ H.next + 1 ≤ H'.next ∧ tm' 0 = .sl 1 (a0.map fun x => [.v (.int .u8 x.toNat)]) ∧ tm' 2 = .p H.next 0 ∧ tm' 4 = .v (str x3.1) ∧ tm' 5 = .v (.int .i64 x3.2) ∧ H'.obj H.next = some (.cells ([.v (.int .i64 0), .v (.slice none 0 0), .v (.slice none 0 0)])) ∧ GV a0 x3 = some r) ?_ fun cb hc4 => ?_
 ·rintro tm4 H4 ⟨he4, hl4, An, Cn, DG, DH, CA, h⟩
  unfold GV at h; refine A2 fun cb hc5 => ?_; refine Ck [] [0, 1, 2, 3, 4, 5, 6, 7, 8, 9, 10, 11, 12, 13, 14, 15, 16, 17, 18] (by kernel_rfl) (by kernel_rfl) (fun _ _ _ _ h => h) ?_; obtain ⟨g6, h⟩ := Ab.1 h
  try simp (disch := omega) at g6
  obtain ⟨g7, h⟩ := Ab.1 h
  try simp (disch := omega) at g7
  obtain ⟨g8, h⟩ := Ab.1 h
  try simp (disch := omega) at g8
  try simp -implicitDefEqProofs (disch := omega) [go_sem, bdP, An, Cn, DG, DH, CA]
  subst hc5; refine A2 fun cb hc9 => ?_; refine vcK ?_
  try simp -implicitDefEqProofs (disch := omega) [go_sem, bdP, An, Cn, DG, DH, CA]
  obtain ⟨x10, hx10, h⟩ := A5 h; refine A6.eqA (args' := [.sl 1 (a0.map fun x => [.v (.int .u8 x.toNat)]), .v (.int .i64 x3.2)]) (by first | with_reducible rfl | (simp -implicitDefEqProofs (disch := omega) [go_sem, bdP, An, Cn, DG, DH, CA] <;> omega)) (QL a0 x3.2 hx10 ?_)
  try simp -implicitDefEqProofs (disch := omega) [go_sem, bdP, An, Cn, DG, DH, CA]
  subst hc9; refine A2 fun cb hc11 => ?_; refine A2 fun cb hc12 => ?_; refine vcK ?_
  try simp -implicitDefEqProofs (disch := omega) [go_sem, bdP, An, Cn, DG, DH, CA]
  refine A7 h (by first | with_reducible rfl | (simp -implicitDefEqProofs (disch := omega) [go_sem, bdP, An, Cn, DG, DH, CA] <;> omega)) ?_ ?_
  ·intro c20 h
   try simp (disch := omega) at c20
   try simp -implicitDefEqProofs (disch := omega) [go_sem, bdP, An, Cn, DG, DH, CA]
   subst hc12; refine As (by first | with_reducible rfl | (simp -implicitDefEqProofs (disch := omega) [go_sem, bdP, An, Cn, DG, DH, CA] <;> omega)) rfl ?_; refine A2 fun cb hc13 => ?_; refine vcK ?_
   try simp -implicitDefEqProofs (disch := omega) [go_sem, bdP, An, Cn, DG, DH, CA]
   subst hc13; refine vcK ?_; simp -implicitDefEqProofs only [go_sem]; have er := Option.some.inj h; subst er
   try simp -implicitDefEqProofs (disch := omega) [go_sem, bdP, An, Cn, DG, DH, CA]
   refine Az (J := H) (r' := _) (Ext.CK (by exact A9 he4)) (by first | with_reducible rfl | (simp -implicitDefEqProofs (disch := omega) [go_sem, bdP, An, Cn, DG, DH, CA] <;> omega)) (.wk _ (.tu [.ag ([.v (.int .i64 0), .sl 2 (([] : List S55).map fun x => [.v (str x.fName), .v (str x.A8)]), .sl 1 (([] : List UInt8).map fun x => [.v (.int .u8 x.toNat)])]), .v (.bool false)]) (by repeat (first | exact WkL.nil | refine WkL.cons ?_ ?_ | exact Wk.refl _ | exact Wk.nil _ | refine Wk.agL ?_ | refine Wk.tuL ?_ | (refine Wk.eqv ?_; focus (simp -implicitDefEqProofs (disch := omega) [go_sem, str]; done)))) (by first | exact nbA | exact BJ | exact Bu)) hK
  ·intro c20 h
   try simp (disch := omega) at c20
   try simp -implicitDefEqProofs (disch := omega) [go_sem, bdP, An, Cn, DG, DH, CA]
   refine A7 h (by first | with_reducible rfl | (simp -implicitDefEqProofs (disch := omega) [go_sem, bdP, An, Cn, DG, DH, CA] <;> omega)) ?_ ?_
   ·intro c19 h
    try simp (disch := omega) at c19
    try simp -implicitDefEqProofs (disch := omega) [go_sem, bdP, An, Cn, DG, DH, CA]
    subst hc12; refine As (by first | with_reducible rfl | (simp -implicitDefEqProofs (disch := omega) [go_sem, bdP, An, Cn, DG, DH, CA] <;> omega)) rfl ?_; refine A2 fun cb hc14 => ?_; refine vcK ?_
    try simp -implicitDefEqProofs (disch := omega) [go_sem, bdP, An, Cn, DG, DH, CA]
    subst hc14; refine vcK ?_; simp -implicitDefEqProofs only [go_sem]; have er := Option.some.inj h; subst er
    try simp -implicitDefEqProofs (disch := omega) [go_sem, bdP, An, Cn, DG, DH, CA]
    refine Az (J := H) (r' := _) (Ext.CK (by exact A9 he4)) (by first | with_reducible rfl | (simp -implicitDefEqProofs (disch := omega) [go_sem, bdP, An, Cn, DG, DH, CA] <;> omega)) (.wk _ (.tu [.ag ([.v (.int .i64 0), .sl 2 (([] : List S55).map fun x => [.v (str x.fName), .v (str x.A8)]), .sl 1 (([] : List UInt8).map fun x => [.v (.int .u8 x.toNat)])]), .v (.bool false)]) (by repeat (first | exact WkL.nil | refine WkL.cons ?_ ?_ | exact Wk.refl _ | exact Wk.nil _ | refine Wk.agL ?_ | refine Wk.tuL ?_ | (refine Wk.eqv ?_; focus (simp -implicitDefEqProofs (disch := omega) [go_sem, str]; done)))) (by first | exact nbA | exact BJ | exact Bu)) hK
   ·intro c19 h
    try simp (disch := omega) at c19
    try simp -implicitDefEqProofs (disch := omega) [go_sem, bdP, An, Cn, DG, DH, CA]
    subst hc12; refine Ac h (by first | with_reducible rfl | (simp -implicitDefEqProofs (disch := omega) [go_sem, bdP, An, Cn, DG, DH, CA] <;> omega)) rfl ?_ ?_
    ·intro c15 h
     try simp (disch := omega) at c15
     refine A2 fun cb hc16 => ?_; refine vcK ?_
     try simp -implicitDefEqProofs (disch := omega) [go_sem, bdP, An, Cn, DG, DH, CA]
     subst hc16; refine vcK ?_; simp -implicitDefEqProofs only [go_sem]; have er := Option.some.inj h; subst er
     try simp -implicitDefEqProofs (disch := omega) [go_sem, bdP, An, Cn, DG, DH, CA]
     refine Az (J := H) (r' := _) (Ext.CK (by exact A9 he4)) (by first | with_reducible rfl | (simp -implicitDefEqProofs (disch := omega) [go_sem, bdP, An, Cn, DG, DH, CA] <;> omega)) (.wk _ (.tu [.ag ([.v (.int .i64 0), .sl 2 (([] : List S55).map fun x => [.v (str x.fName), .v (str x.A8)]), .sl 1 (([] : List UInt8).map fun x => [.v (.int .u8 x.toNat)])]), .v (.bool false)]) (by repeat (first | exact WkL.nil | refine WkL.cons ?_ ?_ | exact Wk.refl _ | exact Wk.nil _ | refine Wk.agL ?_ | refine Wk.tuL ?_ | (refine Wk.eqv ?_; focus (simp -implicitDefEqProofs (disch := omega) [go_sem, str]; done)))) (by first | exact nbA | exact BJ | exact Bu)) hK
    ·intro c15 h
     try simp (disch := omega) at c15
     refine vcK ?_; simp -implicitDefEqProofs only [go_sem]; subst hc11; refine A2 fun cb hc17 => ?_; refine vcK ?_
     try simp -implicitDefEqProofs (disch := omega) [go_sem, bdP, An, Cn, DG, DH, CA]
     subst hc17; refine A2 fun cb hc18 => ?_; refine vcK ?_
     try simp -implicitDefEqProofs (disch := omega) [go_sem, bdP, An, Cn, DG, DH, CA]
     subst hc18; refine vcK ?_; simp -implicitDefEqProofs only [go_sem]; have er := Option.some.inj h; subst er
     try simp -implicitDefEqProofs (disch := omega) [go_sem, bdP, An, Cn, DG, DH, CA]
     refine A4 (by exact A9 he4) (by first | with_reducible rfl | (simp -implicitDefEqProofs (disch := omega) [go_sem, bdP, An, Cn, DG, DH, CA] <;> omega)) nbA hK
 ·refine A2 fun cb hc21 => ?_; refine vcK ?_
  try simp -implicitDefEqProofs (disch := omega) [go_sem, bdP]
  refine A7 h (by first | with_reducible rfl | (simp -implicitDefEqProofs (disch := omega) [go_sem, bdP] <;> omega)) ?_ ?_
  ·intro c41 h
   try simp (disch := omega) at c41
   try simp -implicitDefEqProofs (disch := omega) [go_sem, bdP]
   subst hc21; refine As (by first | with_reducible rfl | (simp -implicitDefEqProofs (disch := omega) [go_sem, bdP] <;> omega)) rfl ?_; refine A2 fun cb hc22 => ?_; refine vcK ?_
   try simp -implicitDefEqProofs (disch := omega) [go_sem, bdP]
   subst hc22; refine vcK ?_; simp -implicitDefEqProofs only [go_sem]; have er := Option.some.inj h; subst er
   try simp -implicitDefEqProofs (disch := omega) [go_sem, bdP]
   refine Az (J := H) (r' := _) (Ext.CK (by exact A9 (Ext.refl hw))) (by first | with_reducible rfl | (simp -implicitDefEqProofs (disch := omega) [go_sem, bdP] <;> omega)) (.wk _ (.tu [.ag ([.v (.int .i64 0), .sl 2 (([] : List S55).map fun x => [.v (str x.fName), .v (str x.A8)]), .sl 1 (([] : List UInt8).map fun x => [.v (.int .u8 x.toNat)])]), .v (.bool false)]) (by repeat (first | exact WkL.nil | refine WkL.cons ?_ ?_ | exact Wk.refl _ | exact Wk.nil _ | refine Wk.agL ?_ | refine Wk.tuL ?_ | (refine Wk.eqv ?_; focus (simp -implicitDefEqProofs (disch := omega) [go_sem, str]; done)))) (by first | exact nbA | exact BJ | exact Bu)) hK
  ·intro c41 h
   try simp (disch := omega) at c41
   try simp -implicitDefEqProofs (disch := omega) [go_sem, bdP]
   refine A7 h (by first | with_reducible rfl | (simp -implicitDefEqProofs (disch := omega) [go_sem, bdP] <;> omega)) ?_ ?_
   ·intro c40 h
    try simp (disch := omega) at c40
    try simp -implicitDefEqProofs (disch := omega) [go_sem, bdP]
    subst hc21; refine As (by first | with_reducible rfl | (simp -implicitDefEqProofs (disch := omega) [go_sem, bdP] <;> omega)) rfl ?_; refine A2 fun cb hc23 => ?_; refine vcK ?_
    try simp -implicitDefEqProofs (disch := omega) [go_sem, bdP]
    subst hc23; refine vcK ?_; simp -implicitDefEqProofs only [go_sem]; have er := Option.some.inj h; subst er
    try simp -implicitDefEqProofs (disch := omega) [go_sem, bdP]
    refine Az (J := H) (r' := _) (Ext.CK (by exact A9 (Ext.refl hw))) (by first | with_reducible rfl | (simp -implicitDefEqProofs (disch := omega) [go_sem, bdP] <;> omega)) (.wk _ (.tu [.ag ([.v (.int .i64 0), .sl 2 (([] : List S55).map fun x => [.v (str x.fName), .v (str x.A8)]), .sl 1 (([] : List UInt8).map fun x => [.v (.int .u8 x.toNat)])]), .v (.bool false)]) (by repeat (first | exact WkL.nil | refine WkL.cons ?_ ?_ | exact Wk.refl _ | exact Wk.nil _ | refine Wk.agL ?_ | refine Wk.tuL ?_ | (refine Wk.eqv ?_; focus (simp -implicitDefEqProofs (disch := omega) [go_sem, str]; done)))) (by first | exact nbA | exact BJ | exact Bu)) hK
   ·intro c40 h
    try simp (disch := omega) at c40
    obtain ⟨g24, h⟩ := Ab.1 h
    try simp (disch := omega) at g24
    obtain ⟨g25, h⟩ := Ab.1 h
    try simp (disch := omega) at g25
    try simp -implicitDefEqProofs (disch := omega) [go_sem, bdP]
    refine A7 h (by first | with_reducible rfl | (simp -implicitDefEqProofs (disch := omega) [go_sem, bdP] <;> omega)) ?_ ?_
    ·intro c39 h
     try simp (disch := omega) at c39
     try simp -implicitDefEqProofs (disch := omega) [go_sem, bdP]
     subst hc21; refine As (by first | with_reducible rfl | (simp -implicitDefEqProofs (disch := omega) [go_sem, bdP] <;> omega)) rfl ?_; refine A2 fun cb hc26 => ?_; refine vcK ?_
     try simp -implicitDefEqProofs (disch := omega) [go_sem, bdP]
     subst hc26; refine vcK ?_; simp -implicitDefEqProofs only [go_sem]; have er := Option.some.inj h; subst er
     try simp -implicitDefEqProofs (disch := omega) [go_sem, bdP]
     refine Az (J := H) (r' := _) (Ext.CK (by exact A9 (Ext.refl hw))) (by first | with_reducible rfl | (simp -implicitDefEqProofs (disch := omega) [go_sem, bdP] <;> omega)) (.wk _ (.tu [.ag ([.v (.int .i64 0), .sl 2 (([] : List S55).map fun x => [.v (str x.fName), .v (str x.A8)]), .sl 1 (([] : List UInt8).map fun x => [.v (.int .u8 x.toNat)])]), .v (.bool false)]) (by repeat (first | exact WkL.nil | refine WkL.cons ?_ ?_ | exact Wk.refl _ | exact Wk.nil _ | refine Wk.agL ?_ | refine Wk.tuL ?_ | (refine Wk.eqv ?_; focus (simp -implicitDefEqProofs (disch := omega) [go_sem, str]; done)))) (by first | exact nbA | exact BJ | exact Bu)) hK
    ·intro c39 h
     try simp (disch := omega) at c39
     obtain ⟨g27, h⟩ := Ab.1 h
     try simp (disch := omega) at g27
     obtain ⟨g28, h⟩ := Ab.1 h
     try simp (disch := omega) at g28
     try simp -implicitDefEqProofs (disch := omega) [go_sem, bdP]
     obtain ⟨x29, hx29, h⟩ := A5 h; refine A6.eqA (args' := [.v (str ((x3.1.take 12).drop 9)), .v (.int .u8 48), .v (.int .u8 57)]) (by first | with_reducible rfl | (simp -implicitDefEqProofs (disch := omega) [go_sem, bdP] <;> omega)) (K9 ((x3.1.take 12).drop 9) 48 57 hx29 ?_)
     try simp -implicitDefEqProofs (disch := omega) [go_sem, bdP]
     refine A7 h (by first | with_reducible rfl | (simp -implicitDefEqProofs (disch := omega) [go_sem, bdP] <;> omega)) ?_ ?_
     ·intro c38 h
      try simp (disch := omega) at c38
      try simp -implicitDefEqProofs (disch := omega) [go_sem, bdP]
      subst hc21; refine As (by first | with_reducible rfl | (simp -implicitDefEqProofs (disch := omega) [go_sem, bdP] <;> omega)) rfl ?_; refine A2 fun cb hc30 => ?_; refine vcK ?_
      try simp -implicitDefEqProofs (disch := omega) [go_sem, bdP]
      subst hc30; refine vcK ?_; simp -implicitDefEqProofs only [go_sem]; have er := Option.some.inj h; subst er
      try simp -implicitDefEqProofs (disch := omega) [go_sem, bdP]
      refine Az (J := H) (r' := _) (Ext.CK (by exact A9 (Ext.refl hw))) (by first | with_reducible rfl | (simp -implicitDefEqProofs (disch := omega) [go_sem, bdP] <;> omega)) (.wk _ (.tu [.ag ([.v (.int .i64 0), .sl 2 (([] : List S55).map fun x => [.v (str x.fName), .v (str x.A8)]), .sl 1 (([] : List UInt8).map fun x => [.v (.int .u8 x.toNat)])]), .v (.bool false)]) (by repeat (first | exact WkL.nil | refine WkL.cons ?_ ?_ | exact Wk.refl _ | exact Wk.nil _ | refine Wk.agL ?_ | refine Wk.tuL ?_ | (refine Wk.eqv ?_; focus (simp -implicitDefEqProofs (disch := omega) [go_sem, str]; done)))) (by first | exact nbA | exact BJ | exact Bu)) hK
     ·intro c38 h
      try simp (disch := omega) at c38
      try simp -implicitDefEqProofs (disch := omega) [go_sem, bdP]
      refine A7 h (by first | with_reducible rfl | (simp -implicitDefEqProofs (disch := omega) [go_sem, bdP] <;> omega)) ?_ ?_
      ·intro c37 h
       try simp (disch := omega) at c37
       obtain ⟨g31, h⟩ := Ab.1 h
       try simp (disch := omega) at g31
       try simp -implicitDefEqProofs (disch := omega) [go_sem, bdP]
       refine A7 h (by first | with_reducible rfl | (simp -implicitDefEqProofs (disch := omega) [go_sem, bdP] <;> omega)) ?_ ?_
       ·intro c36 h
        try simp (disch := omega) at c36
        try simp -implicitDefEqProofs (disch := omega) [go_sem, bdP]
        subst hc21; refine As (by first | with_reducible rfl | (simp -implicitDefEqProofs (disch := omega) [go_sem, bdP] <;> omega)) rfl ?_; refine A2 fun cb hc32 => ?_; refine vcK ?_
        try simp -implicitDefEqProofs (disch := omega) [go_sem, bdP]
        subst hc32; refine vcK ?_; simp -implicitDefEqProofs only [go_sem]; have er := Option.some.inj h; subst er
        try simp -implicitDefEqProofs (disch := omega) [go_sem, bdP]
        refine Az (J := H) (r' := _) (Ext.CK (by exact A9 (Ext.refl hw))) (by first | with_reducible rfl | (simp -implicitDefEqProofs (disch := omega) [go_sem, bdP] <;> omega)) (.wk _ (.tu [.ag ([.v (.int .i64 0), .sl 2 (([] : List S55).map fun x => [.v (str x.fName), .v (str x.A8)]), .sl 1 (([] : List UInt8).map fun x => [.v (.int .u8 x.toNat)])]), .v (.bool false)]) (by repeat (first | exact WkL.nil | refine WkL.cons ?_ ?_ | exact Wk.refl _ | exact Wk.nil _ | refine Wk.agL ?_ | refine Wk.tuL ?_ | (refine Wk.eqv ?_; focus (simp -implicitDefEqProofs (disch := omega) [go_sem, str]; done)))) (by first | exact nbA | exact BJ | exact Bu)) hK
       ·intro c36 h
        try simp (disch := omega) at c36
        try simp -implicitDefEqProofs (disch := omega) [go_sem, bdP]
        obtain ⟨x33, hx33, h⟩ := A5 h; refine A6.eqA (args' := [.v (str (x3.1.drop 12)), .v (.int .u8 32), .v (.int .u8 126)]) (by first | with_reducible rfl | (simp -implicitDefEqProofs (disch := omega) [go_sem, bdP] <;> omega)) (K9 (x3.1.drop 12) 32 126 hx33 ?_)
        try simp -implicitDefEqProofs (disch := omega) [go_sem, bdP]
        subst hc21; refine Ac h (by first | with_reducible rfl | (simp -implicitDefEqProofs (disch := omega) [go_sem, bdP] <;> omega)) rfl ?_ ?_
        ·intro c34 h
         try simp (disch := omega) at c34
         refine A2 fun cb hc35 => ?_; refine vcK ?_
         try simp -implicitDefEqProofs (disch := omega) [go_sem, bdP]
         subst hc35; refine vcK ?_; simp -implicitDefEqProofs only [go_sem]; have er := Option.some.inj h; subst er
         try simp -implicitDefEqProofs (disch := omega) [go_sem, bdP]
         refine Az (J := H) (r' := _) (Ext.CK (by exact A9 (Ext.refl hw))) (by first | with_reducible rfl | (simp -implicitDefEqProofs (disch := omega) [go_sem, bdP] <;> omega)) (.wk _ (.tu [.ag ([.v (.int .i64 0), .sl 2 (([] : List S55).map fun x => [.v (str x.fName), .v (str x.A8)]), .sl 1 (([] : List UInt8).map fun x => [.v (.int .u8 x.toNat)])]), .v (.bool false)]) (by repeat (first | exact WkL.nil | refine WkL.cons ?_ ?_ | exact Wk.refl _ | exact Wk.nil _ | refine Wk.agL ?_ | refine Wk.tuL ?_ | (refine Wk.eqv ?_; focus (simp -implicitDefEqProofs (disch := omega) [go_sem, str]; done)))) (by first | exact nbA | exact BJ | exact Bu)) hK
        ·intro c34 h
         try simp (disch := omega) at c34
         refine vcK ?_; simp -implicitDefEqProofs only [go_sem]; refine hc4 _ _ ?_; refine .same ⟨by exact A9 (Ext.refl hw), by first | with_reducible rfl | with_reducible assumption | omega | (simp -implicitDefEqProofs (disch := omega) [go_sem, bdP] <;> omega), ?_, ?_, ?_, ?_, ?_, h⟩ <;> first | with_reducible rfl | with_reducible assumption | (simp -implicitDefEqProofs (disch := omega) [go_sem, bdP] <;> omega)
      ·intro c37 h
       try simp (disch := omega) at c37
       try simp -implicitDefEqProofs (disch := omega) [go_sem, bdP]
       subst hc21; refine AG (by first | with_reducible rfl | (simp -implicitDefEqProofs (disch := omega) [go_sem, bdP] <;> omega)) rfl ?_; refine vcK ?_; simp -implicitDefEqProofs only [go_sem]; refine hc4 _ _ ?_; refine .same ⟨by exact A9 (Ext.refl hw), by first | with_reducible rfl | with_reducible assumption | omega | (simp -implicitDefEqProofs (disch := omega) [go_sem, bdP] <;> omega), ?_, ?_, ?_, ?_, ?_, h⟩ <;> first | with_reducible rfl | with_reducible assumption | (simp -implicitDefEqProofs (disch := omega) [go_sem, bdP] <;> omega)
noncomputable def F14 (a0 : S25) (a1 : S25) : Option Bool :=
 if a0.CP = a1.CP then ((F40 a0.Ax a1.Ax).bind fun (x3 : Bool) => if x3 = true then (some (decide (a0.AT = a1.AT))) else (some false)) else (some false)
set_option maxHeartbeats 8000000 in
set_option pp.deepTerms false in
set_option maxRecDepth 60000 in
theorem QM {H : A3} {K : AB → A3 → Prop} (a0 : S25) (a1 : S25) {r : Bool} (h : F14 a0 a1 = some r) (hK : K (.ret (.v (.bool r))) H) : A6 prog 14 [.ag ([.v (.int .i64 a0.CP), .sl 2 (a0.Ax.map fun x => [.v (str x.fName), .v (str x.A8)]), .sl 1 (a0.AT.map fun x => [.v (.int .u8 x.toNat)])]), .ag ([.v (.int .i64 a1.CP), .sl 2 (a1.Ax.map fun x => [.v (str x.fName), .v (str x.A8)]), .sl 1 (a1.AT.map fun x => [.v (.int .u8 x.toNat)])])] H K := by
 refine Ae (N := 26) func14 (by kernel_rfl) rfl (by kernel_rfl) (by kernel_rfl) fun cb hcb hw hbd hnb => ?_; clear hbd hnb; subst hcb; unfold F14 at h; refine A2 fun cb hc1 => ?_; refine vcK ?_
 try simp -implicitDefEqProofs (disch := omega) [go_sem]
 subst hc1; refine A2 fun cb hc2 => ?_; refine vcK ?_
 try simp -implicitDefEqProofs (disch := omega) [go_sem]
 refine A7 h (by first | with_reducible rfl | (simp -implicitDefEqProofs (disch := omega) [go_sem] <;> omega)) ?_ ?_
 ·intro c5 h
  try simp (disch := omega) at c5
  try simp -implicitDefEqProofs (disch := omega) [go_sem]
  obtain ⟨x3, hx3, h⟩ := A5 h; refine A6.eqA (args' := [.sl 2 (a0.Ax.map fun x => [.v (str x.fName), .v (str x.A8)]), .sl 2 (a1.Ax.map fun x => [.v (str x.fName), .v (str x.A8)])]) (by first | with_reducible rfl | (simp -implicitDefEqProofs (disch := omega) [go_sem] <;> omega)) (QJ a0.Ax a1.Ax hx3 ?_)
  try simp -implicitDefEqProofs (disch := omega) [go_sem]
  refine A7 h (by first | with_reducible rfl | (simp -implicitDefEqProofs (disch := omega) [go_sem] <;> omega)) ?_ ?_
  ·intro c4 h
   try simp (disch := omega) at c4
   try simp -implicitDefEqProofs (disch := omega) [go_sem]
   subst hc2; refine vcK ?_; simp -implicitDefEqProofs only [go_sem]; have er := Option.some.inj h; subst er
   try simp -implicitDefEqProofs (disch := omega) [go_sem]
   refine A4 (by exact A9 (Ext.refl hw)) (by first | with_reducible rfl | (simp -implicitDefEqProofs (disch := omega) [go_sem] <;> omega)) nbA hK
  ·intro c4 h
   try simp (disch := omega) at c4
   try simp -implicitDefEqProofs (disch := omega) [go_sem]
   subst hc2; refine vcK ?_; simp -implicitDefEqProofs only [go_sem]; have er := Option.some.inj h; subst er
   try simp -implicitDefEqProofs (disch := omega) [go_sem]
   refine A4 (by exact A9 (Ext.refl hw)) (by first | with_reducible rfl | (simp -implicitDefEqProofs (disch := omega) [go_sem] <;> omega)) nbA hK
 ·intro c5 h
  try simp (disch := omega) at c5
  try simp -implicitDefEqProofs (disch := omega) [go_sem]
  subst hc2; refine vcK ?_; simp -implicitDefEqProofs only [go_sem]; have er := Option.some.inj h; subst er
  try simp -implicitDefEqProofs (disch := omega) [go_sem]
  refine A4 (by exact A9 (Ext.refl hw)) (by first | with_reducible rfl | (simp -implicitDefEqProofs (disch := omega) [go_sem] <;> omega)) nbA hK
noncomputable def Iv (y13 : S25 × Int) (x17 : S25 × Bool) : Option (Except Unit (Bool)) :=
 if (decide (y13.2 = 0)) = x17.2 then (if x17.2 = true then ((F14 y13.1 x17.1).bind fun (x20 : Bool) => if x20 = true then ((F9 ).bind fun (x21 : Except Unit (Bool)) => orP x21 (fun (ex21 : Unit) => some (.error ex21)) (fun (y22 : Bool) => some (.ok y22))) else (some (.ok false))) else (if y13.2 = 220 then ((F14 y13.1 x17.1).bind fun (x24 : Bool) => if x24 = true then ((F9 ).bind fun (x25 : Except Unit (Bool)) => orP x25 (fun (ex25 : Unit) => some (.error ex25)) (fun (y26 : Bool) => some (.ok y26))) else (some (.ok false))) else (some (.ok false)))) else (some (.ok false))
noncomputable def F7 (a0 : List UInt8) : Option (Except Unit (Bool)) :=
 if 4000 < (a0.length : Int) then ((F9 ).bind fun (x6 : Except Unit (Bool)) => orP x6 (fun (ex6 : Unit) => some (.error ex6)) (fun (y7 : Bool) => some (.ok y7))) else ((F20 a0).bind fun (x9 : Except Unit (S42 × Int)) => orP x9 (fun (ex9 : Unit) => some (.error ex9)) (fun (y10 : S42 × Int) => (F11 a0).bind fun (x12 : Except Unit (S25 × Int)) => orP x12 (fun (ex12 : Unit) => some (.error ex12)) (fun (y13 : S25 × Int) => (F23 a0).bind fun (x15 : S42 × Bool) => (F24 a0).bind fun (x17 : S25 × Bool) => if ¬ (decide (y10.2 = 0)) = x15.2 then (some (.ok false)) else (if ¬ (x15.2 = true) then (if ¬ y10.2 = 220 then (some (.ok false)) else ((F22 y10.1 x15.1).bind fun (x34 : Bool) => if ¬ (x34 = true) then (some (.ok false)) else (Iv y13 x17))) else ((F22 y10.1 x15.1).bind fun (x38 : Bool) => if ¬ (x38 = true) then (some (.ok false)) else (Iv y13 x17))))))
set_option maxHeartbeats 8000000 in
set_option pp.deepTerms false in
set_option maxRecDepth 60000 in
theorem XJ {H : A3} {K : AB → A3 → Prop} (a0 : List UInt8) (hV : VOK prog H) {r : Except Unit (Bool)} (h : F7 a0 = some r) (hP : ∀ e, r = .error e → K (.pan (CX e)) H) (hK : ∀ v : Bool, r = .ok v → K (.ret (.v (.bool v))) H) : A6 prog 7 [.sl 1 (a0.map fun x => [.v (.int .u8 x.toNat)])] H K := by
 refine Ae (N := 72) func7 (by kernel_rfl) rfl (by kernel_rfl) (by kernel_rfl) fun cb hcb hw hbd hnb => ?_; clear hbd hnb; subst hcb; unfold F7 at h; refine A2 fun cb hc1 => ?_; refine vcK ?_
 try simp -implicitDefEqProofs (disch := omega) [go_sem]
 subst hc1; refine A2 fun cb hc2 => ?_; refine A2 fun cb hc3 => ?_; refine vcK ?_
 try simp -implicitDefEqProofs (disch := omega) [go_sem]
 subst hc3; refine Ac h (by first | with_reducible rfl | (simp -implicitDefEqProofs (disch := omega) [go_sem] <;> omega)) rfl ?_ ?_
 ·intro c4 h
  try simp (disch := omega) at c4
  refine A2 fun cb hc5 => ?_; refine vcK ?_
  try simp -implicitDefEqProofs (disch := omega) [go_sem]
  obtain ⟨x6, hx6, h⟩ := A5 h; refine A6.eqA (args' := []) (by first | with_reducible rfl | (simp -implicitDefEqProofs (disch := omega) [go_sem] <;> omega)) (QE  (by first | exact hV.of rfl | exact hV.of ((Ext.refl hw)).sn | exact hV.of (Ext.sn (H := H) (by exact A9 (Ext.refl hw))) | exact (VOK.of hV rfl).tok | exact (VOK.of hV ((Ext.refl hw)).sn).tok | exact (VOK.of hV (Ext.sn (H := H) (by exact A9 (Ext.refl hw)))).tok) hx6 ?_ ?_)
  ·intro ex6 qx6; subst qx6; replace h := Bj h; have er := Option.some.inj h; subst er
   try simp -implicitDefEqProofs (disch := omega) [go_sem]
   exact C4 (by exact BW (Ext.refl hw)) (Dl.refl _) (hP _ rfl)
  intro y7 qx6; subst qx6; replace h := Bt h
  try simp -implicitDefEqProofs (disch := omega) [go_sem]
  subst hc5; refine vcK ?_; simp -implicitDefEqProofs only [go_sem]; have er := Option.some.inj h; subst er
  try simp -implicitDefEqProofs (disch := omega) [go_sem]
  refine A4 (by exact A9 (Ext.refl hw)) (by first | with_reducible rfl | (simp -implicitDefEqProofs (disch := omega) [go_sem] <;> omega)) nbA (hK _ rfl)
 ·intro c4 h
  try simp (disch := omega) at c4
  refine vcK ?_; simp -implicitDefEqProofs only [go_sem]; subst hc2; refine A2 fun cb hc8 => ?_; refine vcK ?_
  try simp -implicitDefEqProofs (disch := omega) [go_sem]
  obtain ⟨x9, hx9, h⟩ := A5 h; refine A6.eqA (args' := [.sl 1 (a0.map fun x => [.v (.int .u8 x.toNat)])]) (by first | with_reducible rfl | (simp -implicitDefEqProofs (disch := omega) [go_sem] <;> omega)) (Vd a0 (by first | exact hV.of rfl | exact hV.of ((Ext.refl hw)).sn | exact hV.of (Ext.sn (H := H) (by exact A9 (Ext.refl hw))) | exact (VOK.of hV rfl).tok | exact (VOK.of hV ((Ext.refl hw)).sn).tok | exact (VOK.of hV (Ext.sn (H := H) (by exact A9 (Ext.refl hw)))).tok) hx9 ?_ ?_)
  ·intro ex9 qx9; subst qx9; replace h := Bj h; have er := Option.some.inj h; subst er
   try simp -implicitDefEqProofs (disch := omega) [go_sem]
   exact C4 (by exact BW (Ext.refl hw)) (Dl.refl _) (hP _ rfl)
  intro y10 qx9; subst qx9; replace h := Bt h
  try simp -implicitDefEqProofs (disch := omega) [go_sem]
  subst hc8; refine A2 fun cb hc11 => ?_; refine vcK ?_
  try simp -implicitDefEqProofs (disch := omega) [go_sem]
  obtain ⟨x12, hx12, h⟩ := A5 h; refine A6.eqA (args' := [.sl 1 (a0.map fun x => [.v (.int .u8 x.toNat)])]) (by first | with_reducible rfl | (simp -implicitDefEqProofs (disch := omega) [go_sem] <;> omega)) (QD a0 (by first | exact hV.of rfl | exact hV.of ((Ext.refl hw)).sn | exact hV.of (Ext.sn (H := H) (by exact A9 (Ext.refl hw))) | exact (VOK.of hV rfl).tok | exact (VOK.of hV ((Ext.refl hw)).sn).tok | exact (VOK.of hV (Ext.sn (H := H) (by exact A9 (Ext.refl hw)))).tok) hx12 ?_ ?_)
  ·intro ex12 qx12; subst qx12; replace h := Bj h; have er := Option.some.inj h; subst er
   try simp -implicitDefEqProofs (disch := omega) [go_sem]
   exact C4 (by exact BW (Ext.refl hw)) (Dl.refl _) (hP _ rfl)
  intro y13 qx12; subst qx12; replace h := Bt h
  try simp -implicitDefEqProofs (disch := omega) [go_sem]
  subst hc11; refine A2 fun cb hc14 => ?_; refine vcK ?_
  try simp -implicitDefEqProofs (disch := omega) [go_sem]
  obtain ⟨x15, hx15, h⟩ := A5 h; refine A6.eqA (args' := [.sl 1 (a0.map fun x => [.v (.int .u8 x.toNat)])]) (by first | with_reducible rfl | (simp -implicitDefEqProofs (disch := omega) [go_sem] <;> omega)) (Vh a0 hx15 ?_)
  try simp -implicitDefEqProofs (disch := omega) [go_sem]
  subst hc14; refine A2 fun cb hc16 => ?_; refine vcK ?_
  try simp -implicitDefEqProofs (disch := omega) [go_sem]
  obtain ⟨x17, hx17, h⟩ := A5 h; refine A6.eqA (args' := [.sl 1 (a0.map fun x => [.v (.int .u8 x.toNat)])]) (by first | with_reducible rfl | (simp -implicitDefEqProofs (disch := omega) [go_sem] <;> omega)) (Vi a0 hx17 ?_)
  try simp -implicitDefEqProofs (disch := omega) [go_sem]
  subst hc16; refine Dj (fun tm' H' => Ext H H' ∧ H.next + 4 ≤ H'.next ∧ tm' 5 = .p (H.next + 1) 0 ∧ tm' 6 = .v (.int .i64 y13.2) ∧ tm' 9 = .p (H.next + 3) 0 ∧ tm' 10 = .v (.bool x17.2) ∧ H'.obj H.next = some (.cells ([.v (str y10.1.AI), .v (str y10.1.Bw), .sl 2 (y10.1.Ax.map fun x => [.v (str x.fName), .v (str x.A8)]), .sl 1 (y10.1.AT.map fun x => [.v (.int .u8 x.toNat)])])) ∧ H'.obj (H.next + 1) = some (.cells ([.v (.int .i64 y13.1.CP), .sl 2 (y13.1.Ax.map fun x => [.v (str x.fName), .v (str x.A8)]), .sl 1 (y13.1.AT.map fun x => [.v (.int .u8 x.toNat)])])) ∧ H'.obj (H.next + 2) = some (.cells ([.v (str x15.1.AI), .v (str x15.1.Bw), .sl 2 (x15.1.Ax.map fun x => [.v (str x.fName), .v (str x.A8)]), .sl 1 (x15.1.AT.map fun x => [.v (.int .u8 x.toNat)])])) ∧ H'.obj (H.next + 3) = some (.cells ([.v (.int .i64 x17.1.CP), .sl 2 (x17.1.Ax.map fun x => [.v (str x.fName), .v (str x.A8)]), .sl 1 (x17.1.AT.map fun x => [.v (.int .u8 x.toNat)])])) ∧ Iv y13 x17 = some r) ?_ fun cb hc18 => ?_
  ·rintro tm18 H18 ⟨he18, hl18, BI, Ag, Ah, Aa, B7, B8, B9, Ba, h⟩
   unfold Iv at h; refine A2 fun cb hc19 => ?_; refine vcK ?_
   try simp -implicitDefEqProofs (disch := omega) [go_sem, BI, Ag, Ah, Aa, B7, B8, B9, Ba]
   refine A7 h (by first | with_reducible rfl | (simp -implicitDefEqProofs (disch := omega) [go_sem, BI, Ag, Ah, Aa, B7, B8, B9, Ba] <;> omega)) ?_ ?_
   ·intro c30 h
    try simp (disch := omega) at c30
    try simp -implicitDefEqProofs (disch := omega) [go_sem, BI, Ag, Ah, Aa, B7, B8, B9, Ba]
    refine A7 h (by first | with_reducible rfl | (simp -implicitDefEqProofs (disch := omega) [go_sem, BI, Ag, Ah, Aa, B7, B8, B9, Ba] <;> omega)) ?_ ?_
    ·intro c29 h
     try simp (disch := omega) at c29
     try simp -implicitDefEqProofs (disch := omega) [go_sem, BI, Ag, Ah, Aa, B7, B8, B9, Ba]
     obtain ⟨x20, hx20, h⟩ := A5 h; refine A6.eqA (args' := [.ag ([.v (.int .i64 y13.1.CP), .sl 2 (y13.1.Ax.map fun x => [.v (str x.fName), .v (str x.A8)]), .sl 1 (y13.1.AT.map fun x => [.v (.int .u8 x.toNat)])]), .ag ([.v (.int .i64 x17.1.CP), .sl 2 (x17.1.Ax.map fun x => [.v (str x.fName), .v (str x.A8)]), .sl 1 (x17.1.AT.map fun x => [.v (.int .u8 x.toNat)])])]) (by first | with_reducible rfl | (simp -implicitDefEqProofs (disch := omega) [go_sem, BI, Ag, Ah, Aa, B7, B8, B9, Ba] <;> omega)) (QM y13.1 x17.1 hx20 ?_)
     try simp -implicitDefEqProofs (disch := omega) [go_sem, BI, Ag, Ah, Aa, B7, B8, B9, Ba]
     refine A7 h (by first | with_reducible rfl | (simp -implicitDefEqProofs (disch := omega) [go_sem, BI, Ag, Ah, Aa, B7, B8, B9, Ba] <;> omega)) ?_ ?_
     ·intro c23 h
      try simp (disch := omega) at c23
      try simp -implicitDefEqProofs (disch := omega) [go_sem, BI, Ag, Ah, Aa, B7, B8, B9, Ba]
      obtain ⟨x21, hx21, h⟩ := A5 h; refine A6.eqA (args' := []) (by first | with_reducible rfl | (simp -implicitDefEqProofs (disch := omega) [go_sem, BI, Ag, Ah, Aa, B7, B8, B9, Ba] <;> omega)) (QE  (by first | exact hV.of rfl | exact hV.of (he18).sn | exact hV.of (Ext.sn (H := H) (by exact A9 he18)) | exact (VOK.of hV rfl).tok | exact (VOK.of hV (he18).sn).tok | exact (VOK.of hV (Ext.sn (H := H) (by exact A9 he18))).tok) hx21 ?_ ?_)
      ·intro ex21 qx21; subst qx21; replace h := Bj h; have er := Option.some.inj h; subst er
       try simp -implicitDefEqProofs (disch := omega) [go_sem, BI, Ag, Ah, Aa, B7, B8, B9, Ba]
       exact C4 (by exact BW he18) (Dl.refl _) (hP _ rfl)
      intro y22 qx21; subst qx21; replace h := Bt h
      try simp -implicitDefEqProofs (disch := omega) [go_sem, BI, Ag, Ah, Aa, B7, B8, B9, Ba]
      subst hc19; refine vcK ?_; simp -implicitDefEqProofs only [go_sem]; have er := Option.some.inj h; subst er
      try simp -implicitDefEqProofs (disch := omega) [go_sem, BI, Ag, Ah, Aa, B7, B8, B9, Ba]
      refine A4 (by exact A9 he18) (by first | with_reducible rfl | (simp -implicitDefEqProofs (disch := omega) [go_sem, BI, Ag, Ah, Aa, B7, B8, B9, Ba] <;> omega)) nbA (hK _ rfl)
     ·intro c23 h
      try simp (disch := omega) at c23
      try simp -implicitDefEqProofs (disch := omega) [go_sem, BI, Ag, Ah, Aa, B7, B8, B9, Ba]
      subst hc19; refine vcK ?_; simp -implicitDefEqProofs only [go_sem]; have er := Option.some.inj h; subst er
      try simp -implicitDefEqProofs (disch := omega) [go_sem, BI, Ag, Ah, Aa, B7, B8, B9, Ba]
      refine A4 (by exact A9 he18) (by first | with_reducible rfl | (simp -implicitDefEqProofs (disch := omega) [go_sem, BI, Ag, Ah, Aa, B7, B8, B9, Ba] <;> omega)) nbA (hK _ rfl)
    ·intro c29 h
     try simp (disch := omega) at c29
     try simp -implicitDefEqProofs (disch := omega) [go_sem, BI, Ag, Ah, Aa, B7, B8, B9, Ba]
     refine A7 h (by first | with_reducible rfl | (simp -implicitDefEqProofs (disch := omega) [go_sem, BI, Ag, Ah, Aa, B7, B8, B9, Ba] <;> omega)) ?_ ?_
     ·intro c28 h
      try simp (disch := omega) at c28
      try simp -implicitDefEqProofs (disch := omega) [go_sem, BI, Ag, Ah, Aa, B7, B8, B9, Ba]
      obtain ⟨x24, hx24, h⟩ := A5 h; refine A6.eqA (args' := [.ag ([.v (.int .i64 y13.1.CP), .sl 2 (y13.1.Ax.map fun x => [.v (str x.fName), .v (str x.A8)]), .sl 1 (y13.1.AT.map fun x => [.v (.int .u8 x.toNat)])]), .ag ([.v (.int .i64 x17.1.CP), .sl 2 (x17.1.Ax.map fun x => [.v (str x.fName), .v (str x.A8)]), .sl 1 (x17.1.AT.map fun x => [.v (.int .u8 x.toNat)])])]) (by first | with_reducible rfl | (simp -implicitDefEqProofs (disch := omega) [go_sem, BI, Ag, Ah, Aa, B7, B8, B9, Ba] <;> omega)) (QM y13.1 x17.1 hx24 ?_)
      try simp -implicitDefEqProofs (disch := omega) [go_sem, BI, Ag, Ah, Aa, B7, B8, B9, Ba]
      refine A7 h (by first | with_reducible rfl | (simp -implicitDefEqProofs (disch := omega) [go_sem, BI, Ag, Ah, Aa, B7, B8, B9, Ba] <;> omega)) ?_ ?_
      ·intro c27 h
       try simp (disch := omega) at c27
       try simp -implicitDefEqProofs (disch := omega) [go_sem, BI, Ag, Ah, Aa, B7, B8, B9, Ba]
       obtain ⟨x25, hx25, h⟩ := A5 h; refine A6.eqA (args' := []) (by first | with_reducible rfl | (simp -implicitDefEqProofs (disch := omega) [go_sem, BI, Ag, Ah, Aa, B7, B8, B9, Ba] <;> omega)) (QE  (by first | exact hV.of rfl | exact hV.of (he18).sn | exact hV.of (Ext.sn (H := H) (by exact A9 he18)) | exact (VOK.of hV rfl).tok | exact (VOK.of hV (he18).sn).tok | exact (VOK.of hV (Ext.sn (H := H) (by exact A9 he18))).tok) hx25 ?_ ?_)
       ·intro ex25 qx25; subst qx25; replace h := Bj h; have er := Option.some.inj h; subst er
        try simp -implicitDefEqProofs (disch := omega) [go_sem, BI, Ag, Ah, Aa, B7, B8, B9, Ba]
        exact C4 (by exact BW he18) (Dl.refl _) (hP _ rfl)
       intro y26 qx25; subst qx25; replace h := Bt h
       try simp -implicitDefEqProofs (disch := omega) [go_sem, BI, Ag, Ah, Aa, B7, B8, B9, Ba]
       subst hc19; refine vcK ?_; simp -implicitDefEqProofs only [go_sem]; have er := Option.some.inj h; subst er
       try simp -implicitDefEqProofs (disch := omega) [go_sem, BI, Ag, Ah, Aa, B7, B8, B9, Ba]
       refine A4 (by exact A9 he18) (by first | with_reducible rfl | (simp -implicitDefEqProofs (disch := omega) [go_sem, BI, Ag, Ah, Aa, B7, B8, B9, Ba] <;> omega)) nbA (hK _ rfl)
      ·intro c27 h
       try simp (disch := omega) at c27
       try simp -implicitDefEqProofs (disch := omega) [go_sem, BI, Ag, Ah, Aa, B7, B8, B9, Ba]
       subst hc19; refine vcK ?_; simp -implicitDefEqProofs only [go_sem]; have er := Option.some.inj h; subst er
       try simp -implicitDefEqProofs (disch := omega) [go_sem, BI, Ag, Ah, Aa, B7, B8, B9, Ba]
       refine A4 (by exact A9 he18) (by first | with_reducible rfl | (simp -implicitDefEqProofs (disch := omega) [go_sem, BI, Ag, Ah, Aa, B7, B8, B9, Ba] <;> omega)) nbA (hK _ rfl)
     ·intro c28 h
      try simp (disch := omega) at c28
      try simp -implicitDefEqProofs (disch := omega) [go_sem, BI, Ag, Ah, Aa, B7, B8, B9, Ba]
      subst hc19; refine vcK ?_; simp -implicitDefEqProofs only [go_sem]; have er := Option.some.inj h; subst er
      try simp -implicitDefEqProofs (disch := omega) [go_sem, BI, Ag, Ah, Aa, B7, B8, B9, Ba]
      refine A4 (by exact A9 he18) (by first | with_reducible rfl | (simp -implicitDefEqProofs (disch := omega) [go_sem, BI, Ag, Ah, Aa, B7, B8, B9, Ba] <;> omega)) nbA (hK _ rfl)
   ·intro c30 h
    try simp (disch := omega) at c30
    try simp -implicitDefEqProofs (disch := omega) [go_sem, BI, Ag, Ah, Aa, B7, B8, B9, Ba]
    subst hc19; refine vcK ?_; simp -implicitDefEqProofs only [go_sem]; have er := Option.some.inj h; subst er
    try simp -implicitDefEqProofs (disch := omega) [go_sem, BI, Ag, Ah, Aa, B7, B8, B9, Ba]
    refine A4 (by exact A9 he18) (by first | with_reducible rfl | (simp -implicitDefEqProofs (disch := omega) [go_sem, BI, Ag, Ah, Aa, B7, B8, B9, Ba] <;> omega)) nbA (hK _ rfl)
  ·refine A2 fun cb hc31 => ?_; refine vcK ?_
   try simp -implicitDefEqProofs (disch := omega) [go_sem]
   refine A7 h (by first | with_reducible rfl | (simp -implicitDefEqProofs (disch := omega) [go_sem] <;> omega)) ?_ ?_
   ·intro c42 h
    try simp (disch := omega) at c42
    try simp -implicitDefEqProofs (disch := omega) [go_sem]
    subst hc31; refine As (by first | with_reducible rfl | (simp -implicitDefEqProofs (disch := omega) [go_sem] <;> omega)) rfl ?_; refine A2 fun cb hc32 => ?_; refine vcK ?_
    try simp -implicitDefEqProofs (disch := omega) [go_sem]
    subst hc32; refine vcK ?_; simp -implicitDefEqProofs only [go_sem]; have er := Option.some.inj h; subst er
    try simp -implicitDefEqProofs (disch := omega) [go_sem]
    refine A4 (by exact A9 (Ext.refl hw)) (by first | with_reducible rfl | (simp -implicitDefEqProofs (disch := omega) [go_sem] <;> omega)) nbA (hK _ rfl)
   ·intro c42 h
    try simp (disch := omega) at c42
    try simp -implicitDefEqProofs (disch := omega) [go_sem]
    refine A7 h (by first | with_reducible rfl | (simp -implicitDefEqProofs (disch := omega) [go_sem] <;> omega)) ?_ ?_
    ·intro c41 h
     try simp (disch := omega) at c41
     try simp -implicitDefEqProofs (disch := omega) [go_sem]
     refine A7 h (by first | with_reducible rfl | (simp -implicitDefEqProofs (disch := omega) [go_sem] <;> omega)) ?_ ?_
     ·intro c37 h
      try simp (disch := omega) at c37
      try simp -implicitDefEqProofs (disch := omega) [go_sem]
      subst hc31; refine As (by first | with_reducible rfl | (simp -implicitDefEqProofs (disch := omega) [go_sem] <;> omega)) rfl ?_; refine A2 fun cb hc33 => ?_; refine vcK ?_
      try simp -implicitDefEqProofs (disch := omega) [go_sem]
      subst hc33; refine vcK ?_; simp -implicitDefEqProofs only [go_sem]; have er := Option.some.inj h; subst er
      try simp -implicitDefEqProofs (disch := omega) [go_sem]
      refine A4 (by exact A9 (Ext.refl hw)) (by first | with_reducible rfl | (simp -implicitDefEqProofs (disch := omega) [go_sem] <;> omega)) nbA (hK _ rfl)
     ·intro c37 h
      try simp (disch := omega) at c37
      try simp -implicitDefEqProofs (disch := omega) [go_sem]
      obtain ⟨x34, hx34, h⟩ := A5 h; refine A6.eqA (args' := [.ag ([.v (str y10.1.AI), .v (str y10.1.Bw), .sl 2 (y10.1.Ax.map fun x => [.v (str x.fName), .v (str x.A8)]), .sl 1 (y10.1.AT.map fun x => [.v (.int .u8 x.toNat)])]), .ag ([.v (str x15.1.AI), .v (str x15.1.Bw), .sl 2 (x15.1.Ax.map fun x => [.v (str x.fName), .v (str x.A8)]), .sl 1 (x15.1.AT.map fun x => [.v (.int .u8 x.toNat)])])]) (by first | with_reducible rfl | (simp -implicitDefEqProofs (disch := omega) [go_sem] <;> omega)) (QK y10.1 x15.1 hx34 ?_)
      try simp -implicitDefEqProofs (disch := omega) [go_sem]
      subst hc31; refine Ac h (by first | with_reducible rfl | (simp -implicitDefEqProofs (disch := omega) [go_sem] <;> omega)) rfl ?_ ?_
      ·intro c35 h
       try simp (disch := omega) at c35
       refine A2 fun cb hc36 => ?_; refine vcK ?_
       try simp -implicitDefEqProofs (disch := omega) [go_sem]
       subst hc36; refine vcK ?_; simp -implicitDefEqProofs only [go_sem]; have er := Option.some.inj h; subst er
       try simp -implicitDefEqProofs (disch := omega) [go_sem]
       refine A4 (by exact A9 (Ext.refl hw)) (by first | with_reducible rfl | (simp -implicitDefEqProofs (disch := omega) [go_sem] <;> omega)) nbA (hK _ rfl)
      ·intro c35 h
       try simp (disch := omega) at c35
       refine vcK ?_; simp -implicitDefEqProofs only [go_sem]; refine hc18 _ _ ?_; refine .same ⟨by exact A9 (Ext.refl hw), by first | with_reducible rfl | with_reducible assumption | omega | (simp -implicitDefEqProofs (disch := omega) [go_sem] <;> omega), ?_, ?_, ?_, ?_, ?_, ?_, ?_, ?_, h⟩ <;> first | with_reducible rfl | with_reducible assumption | (simp -implicitDefEqProofs (disch := omega) [go_sem] <;> omega)
    ·intro c41 h
     try simp (disch := omega) at c41
     try simp -implicitDefEqProofs (disch := omega) [go_sem]
     obtain ⟨x38, hx38, h⟩ := A5 h; refine A6.eqA (args' := [.ag ([.v (str y10.1.AI), .v (str y10.1.Bw), .sl 2 (y10.1.Ax.map fun x => [.v (str x.fName), .v (str x.A8)]), .sl 1 (y10.1.AT.map fun x => [.v (.int .u8 x.toNat)])]), .ag ([.v (str x15.1.AI), .v (str x15.1.Bw), .sl 2 (x15.1.Ax.map fun x => [.v (str x.fName), .v (str x.A8)]), .sl 1 (x15.1.AT.map fun x => [.v (.int .u8 x.toNat)])])]) (by first | with_reducible rfl | (simp -implicitDefEqProofs (disch := omega) [go_sem] <;> omega)) (QK y10.1 x15.1 hx38 ?_)
     try simp -implicitDefEqProofs (disch := omega) [go_sem]
     subst hc31; refine Ac h (by first | with_reducible rfl | (simp -implicitDefEqProofs (disch := omega) [go_sem] <;> omega)) rfl ?_ ?_
     ·intro c39 h
      try simp (disch := omega) at c39
      refine A2 fun cb hc40 => ?_; refine vcK ?_
      try simp -implicitDefEqProofs (disch := omega) [go_sem]
      subst hc40; refine vcK ?_; simp -implicitDefEqProofs only [go_sem]; have er := Option.some.inj h; subst er
      try simp -implicitDefEqProofs (disch := omega) [go_sem]
      refine A4 (by exact A9 (Ext.refl hw)) (by first | with_reducible rfl | (simp -implicitDefEqProofs (disch := omega) [go_sem] <;> omega)) nbA (hK _ rfl)
     ·intro c39 h
      try simp (disch := omega) at c39
      refine vcK ?_; simp -implicitDefEqProofs only [go_sem]; refine hc18 _ _ ?_; refine .same ⟨by exact A9 (Ext.refl hw), by first | with_reducible rfl | with_reducible assumption | omega | (simp -implicitDefEqProofs (disch := omega) [go_sem] <;> omega), ?_, ?_, ?_, ?_, ?_, ?_, ?_, ?_, h⟩ <;> first | with_reducible rfl | with_reducible assumption | (simp -implicitDefEqProofs (disch := omega) [go_sem] <;> omega)
end Go.Idl
namespace Go.Idl
open Go Go.Lib
def Fo : Str := [72, 84, 84, 80, 47, 49, 46, 49]
def BX (a b : Nat) (s : Str) : Bool := s.all fun x => decide (a ≤ x.toNat ∧ x.toNat ≤ b)
def DN (s : Str) : Bool := decide (1 ≤ s.length ∧ s.length ≤ 20) && BX 65 90 s
def Gy (s : Str) : Bool := decide (1 ≤ s.length ∧ s.length ≤ 200) && decide (s.getD 0 0 = 47) && BX 33 126 s
def C5 (l : List Str) : Str := l.flatMap fun s => s ++ [13, 10]
def EE (h : Hd) : Str := h.1 ++ 58 :: 32 :: h.2
def QN (n : Nat) : Str := CU ++ 58 :: 32 :: decDigits n
def J4 (first : Str) (l : List Hd) (last : Str) : Str := C5 (first :: (l.map EE ++ [last, []]))
def Em (m p : Str) (l : List Hd) (b : Str) : Str := J4 (m ++ 32 :: (p ++ 32 :: Fo)) l (QN b.length) ++ b
def FW (s : Str) : Option (Str × Str) :=
  (Cu s 32).bind fun a => (Cu a.2 32).bind fun b => if b.2 = Fo ∧ DN a.1 = true ∧ Gy b.1 = true then some (a.1, b.1) else none
def FX (r : Str) : Bool := decide (r = []) || decide (r.getD 0 0 = 32) && BX 32 126 r
noncomputable def Du (s : Str) : Option Nat :=
  if s.take 9 = Fo ++ [32] ∧ 12 ≤ s.length then (DY ((s.drop 9).take 3)).bind fun n => if 100 ≤ n ∧ n ≤ 599 ∧ FX (s.drop 12) = true then some n else none else none
theorem J5 {a b : Nat} {s : Str} : BX a b s = true ↔ ∀ x ∈ s, a ≤ x.toNat ∧ x.toNat ≤ b := by simp [BX]
theorem XK {c : Nat} (h : 100 ≤ c ∧ c ≤ 599) : decDigits c = [UInt8.ofNat (48 + c / 100), UInt8.ofNat (48 + c / 10 % 10), UInt8.ofNat (48 + c % 10)] := by
 rw [decDigits, dif_neg (by omega), decDigits, dif_neg (by omega), decDigits, dif_pos (by omega)]; rw [Nat.div_div_eq_div_mul]; rfl
theorem P5 {α : Type} {first : Str → Option α} {f : Str} {x : α} (hf : ∀ y ∈ f, y ≠ 13) (hx : first f = some x) (L : List (Str × Hd)) (s : Str) (hL : ∀ y ∈ L, y.1 ≠ [] ∧ (∀ x ∈ y.1, x ≠ 13) ∧ O7 y.1 = some y.2) (hd : BV (L.map (·.2))) :
    CY first (f ++ 13 :: 10 :: (L.flatMap (fun y => y.1 ++ [13, 10]) ++ 13 :: 10 :: s)) = (EV (L.map (·.2)) s).bind fun r => if r.2 = [] ∧ D5 (AX (CD (L.map (·.2)))) r.1 = true then some (x, AX (CD (L.map (·.2))), r.1) else none := by
 unfold CY; rw [Ii _ _ hf, Option.bind_some]; simp only [hx, Option.bind_some]; rw [HB L [] s hL (by simpa using hd), Option.bind_some]; simp
theorem ML {n : Nat} (h : n ≤ 1000000000) : (decDigits n).length ≤ 200 := by
 have : ∀ (k n : Nat), n < 10 ^ (k + 1) → (decDigits n).length ≤ k + 1 := by
  intro k
  induction k with
  | zero => intro n h; rw [decDigits, dif_pos (by simpa using h)]; simp
  | succ k ih =>
   intro n h; rw [decDigits]; split
   ·simp
   ·have := ih (n / 10) (by rw [Nat.pow_succ] at h; omega); simp; omega
 have := this 9 n (by omega); omega
theorem K_ {l : List Hd} {n : Str} (h : ∀ y ∈ l, y.1 ≠ n) : Cg l n = none := by
 unfold Cg; rw [List.find?_eq_none.2 (by simpa using h)]; rfl
theorem Kb : CU ≠ D3 := by decide
end Go.Idl
namespace Go.Idl
open Go Go.Lib
end Go.Idl
namespace Go.Idl
open Go
theorem Bq {i : Nat} (h : i < 9223372036854775807) : IntKind.i64.wrap ((i : Int) + 1) = ((i + 1 : Nat) : Int) := by
 rw [wrap_i64 (by omega) (by omega)]; rfl
theorem Gd {ρ : Type} {step : Int → Option (Int ⊕ ρ)} {Post : ρ → Prop} (n : Nat) (Inv : Nat → Prop) (h0 : Inv 0)
    (hs : ∀ i : Nat, i < n → Inv i → (step i = some (.inl ((i + 1 : Nat) : Int)) ∧ Inv (i + 1)) ∨ ∃ r, step i = some (.inr r) ∧ Post r)
    (hf : Inv n → ∃ r, step n = some (.inr r) ∧ Post r) : ∃ r, AH step 0 = some r ∧ Post r := by
 refine KN (fun s : Int => ∃ i : Nat, i ≤ n ∧ s = (i : Int) ∧ Inv i) (fun s : Int => n - s.toNat) ?_ ⟨0, Nat.zero_le _, rfl, h0⟩
 rintro s ⟨i, hi, rfl, hI⟩
 by_cases h : i < n
 ·rcases hs i h hI with ⟨h1, h2⟩ | h1
  ·exact .inl ⟨_, h1, ⟨i + 1, h, rfl, h2⟩, by simp; omega⟩
  ·exact .inr h1
 ·have e : i = n := by omega
  subst e; exact .inr (hf hI)
theorem GW {σ ρ : Type} {step : σ × Int → Option ((σ × Int) ⊕ ρ)} {Post : ρ → Prop} (n : Nat) (Inv : Nat → σ → Prop) {a : σ} (h0 : Inv 0 a)
    (hs : ∀ (i : Nat) (a : σ), i < n → Inv i a → (∃ a', step (a, (i : Int)) = some (.inl (a', ((i + 1 : Nat) : Int))) ∧ Inv (i + 1) a') ∨ ∃ r, step (a, (i : Int)) = some (.inr r) ∧ Post r)
    (hf : ∀ a, Inv n a → ∃ r, step (a, (n : Int)) = some (.inr r) ∧ Post r) : ∃ r, AH step (a, 0) = some r ∧ Post r := by
 refine KN (fun s : σ × Int => ∃ i : Nat, i ≤ n ∧ s.2 = (i : Int) ∧ Inv i s.1) (fun s : σ × Int => n - s.2.toNat) ?_ ⟨0, Nat.zero_le _, rfl, h0⟩
 rintro ⟨a, s⟩ ⟨i, hi, hs2, hI⟩
 simp only at hs2 hI; subst hs2; by_cases h : i < n
 ·rcases hs i a h hI with ⟨a', h1, h2⟩ | h1
  ·exact .inl ⟨_, h1, ⟨i + 1, h, rfl, h2⟩, by simp; omega⟩
  ·exact .inr h1
 ·have e : i = n := by omega
  subst e; exact .inr (hf a hI)
theorem getD_some {α : Type} {l : List α} {i : Nat} (h : i < l.length) (d : α) : l.getD i d = l[i] := by simp [h]
end Go.Idl
namespace Go.Idl
open Go
def En {α ρ : Type} (f : Nat → α → Option ρ) (d : ρ) : Nat → List α → ρ
  | _, [] => d
  | i, x :: l => match f i x with
    | none => En f d (i + 1) l
    | some r => r
def LN {α σ ρ : Type} (f : Nat → σ → α → σ ⊕ ρ) (fin : σ → ρ) : Nat → σ → List α → ρ
  | _, a, [] => fin a
  | i, a, x :: l => match f i a x with
    | .inl a' => LN f fin (i + 1) a' l
    | .inr r => r
theorem Eo {α ρ : Type} {f : Nat → α → Option ρ} {d : ρ} {i : Nat} {x : α} {l : List α} : En f d i (x :: l) = match f i x with
    | none => En f d (i + 1) l
    | some r => r := rfl
theorem L0 {α σ ρ : Type} {f : Nat → σ → α → σ ⊕ ρ} {fin : σ → ρ} {i : Nat} {a : σ} {x : α} {l : List α} : LN f fin i a (x :: l) = match f i a x with
    | .inl a' => LN f fin (i + 1) a' l
    | .inr r => r := rfl
theorem GX {α ρ : Type} (l : List α) {step : Int → Option (Int ⊕ ρ)} (f : Nat → α → Option ρ) (d : ρ) (hl : l.length ≤ 1000000000)
    (hs : ∀ (i : Nat) (h : i < l.length), step (i : Int) = some (match f i l[i] with | none => .inl (IntKind.i64.wrap ((i : Int) + 1)) | some r => .inr r))
    (hf : step (l.length : Int) = some (.inr d)) : AH step 0 = some (En f d 0 l) := by
 obtain ⟨r, h1, h2⟩ := Gd (step := step) (Post := fun r => r = En f d 0 l) l.length (fun i => En f d i (l.drop i) = En f d 0 l) (by simp)
  (fun i hi hI => by
    rw [hs i hi]
    rw [List.drop_eq_getElem_cons hi] at hI
    rw [Eo] at hI
    cases hfi : f i l[i] with
    | none =>
      rw [hfi] at hI
      rw [Bq (by omega)]
      exact .inl ⟨rfl, hI⟩
    | some r =>
      rw [hfi] at hI
      exact .inr ⟨r, rfl, hI⟩)
  (fun hI => ⟨d, hf, by rw [List.drop_length] at hI; exact hI⟩)
 rw [h1, h2]
theorem P6 {α σ ρ : Type} (l : List α) {step : σ × Int → Option ((σ × Int) ⊕ ρ)} (f : Nat → σ → α → σ ⊕ ρ) (fin : σ → ρ) (Inv : Nat → σ → Prop) {a : σ} (hl : l.length ≤ 1000000000) (h0 : Inv 0 a)
    (hs : ∀ (i : Nat) (h : i < l.length) (a : σ), Inv i a → step (a, (i : Int)) = some (match f i a l[i] with | .inl a' => .inl (a', IntKind.i64.wrap ((i : Int) + 1)) | .inr r => .inr r))
    (hn : ∀ (i : Nat) (h : i < l.length) (a a' : σ), Inv i a → f i a l[i] = .inl a' → Inv (i + 1) a')
    (hf : ∀ a, Inv l.length a → step (a, (l.length : Int)) = some (.inr (fin a))) : AH step (a, 0) = some (LN f fin 0 a l) := by
 obtain ⟨r, h1, h2⟩ := GW (step := step) (Post := fun r => r = LN f fin 0 a l) l.length (fun i a' => Inv i a' ∧ LN f fin i a' (l.drop i) = LN f fin 0 a l) (a := a) ⟨h0, by simp⟩
  (fun i a' hi hI => by
    obtain ⟨hI, hR⟩ := hI
    rw [hs i hi a' hI]
    rw [List.drop_eq_getElem_cons hi] at hR
    rw [L0] at hR
    cases hfi : f i a' l[i] with
    | inl a2 =>
      rw [hfi] at hR
      rw [Bq (by omega)]
      exact .inl ⟨a2, rfl, hn i hi a' a2 hI hfi, hR⟩
    | inr r =>
      rw [hfi] at hR
      exact .inr ⟨r, rfl, hR⟩)
  (fun a' hI => ⟨_, hf a' hI.1, by have := hI.2; rw [List.drop_length] at this; exact this⟩)
 rw [h1, h2]
theorem Iw {α ρ : Type} (p : α → Bool) (bad good : ρ) : ∀ (l : List α) (i : Nat), En (fun _ x => if p x = true then none else some bad) good i l = if l.all p = true then good else bad
  | [], _ => by simp [En]
  | x :: l, i => by
    unfold En
    by_cases h : p x = true
    · rw [if_pos h]
      simp only [Iw p bad good l (i + 1), List.all_cons, h, Bool.true_and]
    · rw [if_neg h]
      have : (List.all (x :: l) p) = false := by simp [List.all_cons, Bool.eq_false_iff.2 h]
      simp [this]
end Go.Idl
namespace Go.Idl
open Go
theorem E9 {α : Type} (l : List α) (p : α → Bool) {step : Int → Option (Int ⊕ (Unit ⊕ Bool))} (hl : l.length ≤ 1000000000)
    (hs : ∀ (i : Nat) (h : i < l.length), step (i : Int) = some (if p l[i] = true then .inl (IntKind.i64.wrap ((i : Int) + 1)) else .inr (.inr false)))
    (hf : step (l.length : Int) = some (.inr (.inl ()))) : AH step 0 = some (if l.all p = true then .inl () else .inr false) := by
 rw [GX l (fun _ x => if p x = true then none else some (.inr false)) (.inl ()) hl (fun i h => by
   rw [hs i h]
   by_cases hp : p l[i] = true
   · simp [hp]
   · simp [hp]) hf, Iw]
theorem J6 {α ρ : Type} {f g : Nat → α → Option ρ} {d : ρ} : ∀ {l : List α} {k : Nat}, (∀ i x, k ≤ i → f i x = g i x) → En f d k l = En g d k l
  | [], _, _ => rfl
  | x :: l, k, h => by
    rw [Eo, Eo, h k x (Nat.le_refl _)]
    cases g k x with
    | none => exact J6 fun i x hi => h i x (by omega)
    | some r => rfl
theorem L1 {α : Type} (p : α → Bool) : ∀ (l : List α) (k : Nat), ∃ j : Int, 0 ≤ j ∧ En (fun i x => if p x = true then none else some (.inr (i : Int))) (.inl ()) k l = (if l.all p = true then (.inl () : Unit ⊕ Int) else .inr j)
  | [], k => ⟨0, by omega, by simp [En]⟩
  | x :: l, k => by
    rw [Eo]
    by_cases h : p x = true
    · obtain ⟨j, h1, h2⟩ := L1 p l (k + 1)
      exact ⟨j, h1, by simp only [h, if_true]; rw [h2]; simp [h]⟩
    · exact ⟨k, by omega, by simp [h]⟩
theorem LO (x : UInt8) (a b : Nat) : Kz (x.toNat : Int) (a : Int) (b : Int) = some (decide (a ≤ x.toNat ∧ x.toNat ≤ b)) := by
 unfold Kz; by_cases h : (a : Int) ≤ x.toNat
 ·rw [if_pos h]; congr 1; rw [decide_eq_decide]; omega
 ·rw [if_neg h, decide_eq_false (by omega)]
theorem SM (s : Str) (h : s.length ≤ 1000000) : Qo s = some (Ct s) := by
 unfold Qo
 rw [Ad (by omega), GX s (fun i x => if (Ei x || (decide (¬ i = 0) && DC x)) = true then none else some (.inr false)) (.inl ()) (by omega)
   (fun i hi => by
     simp only [HK]
     rw [if_pos (by omega), Ad (by omega), Int.toNat_natCast, getD_some hi]
     generalize s[i] = x
     have e1 : Kz (x.toNat : Int) 97 122 = _ := LO x 97 122
     have e2 : Kz (x.toNat : Int) 65 90 = _ := LO x 65 90
     have e3 : Kz (x.toNat : Int) 48 57 = _ := LO x 48 57
     rw [e1, e2, e3]
     simp only [Option.bind_some, decide_eq_true_eq]
     by_cases h1 : 97 ≤ x.toNat ∧ x.toNat ≤ 122
     · have : Ei x = true := by simp only [Ei, decide_eq_true_eq]; exact .inl h1
       simp [h1, this]
     · by_cases h2 : 65 ≤ x.toNat ∧ x.toNat ≤ 90
       · have : Ei x = true := by simp only [Ei, decide_eq_true_eq]; exact .inr h2
         simp [h1, h2, this]
       · have hl : Ei x = false := by simp only [Ei, decide_eq_false_iff_not]; omega
         rw [if_pos h1, if_pos h2]
         by_cases h0 : i = 0
         · subst h0
           simp [hl]
         · have h0' : ¬ ((i : Int) = 0) := by omega
           rw [if_neg h0']
           by_cases h3 : 48 ≤ x.toNat ∧ x.toNat ≤ 57
           · have : DC x = true := by simp only [DC, Bool.or_eq_true, decide_eq_true_eq]; exact .inr (.inl h3)
             simp [h3, this, h0]
           · rw [if_pos h3]
             by_cases h4 : (x.toNat : Int) = 45
             · have : DC x = true := by simp only [DC, Bool.or_eq_true, decide_eq_true_eq]; exact .inr (.inr (by omega))
               simp [h4, this, h0]
             · have : DC x = false := by simp only [DC, Bool.or_eq_false_iff, hl, decide_eq_false_iff_not, true_and]; omega
               rw [if_pos h4]
               simp [this, hl])
   (by simp only [HK]; rw [if_neg (by omega)])]
 unfold Ct; cases s with
 | nil => simp [En, HJ]
 | cons c t =>
  rw [Eo]; by_cases hc : Ei c = true
  ·have hw : DC c = true := by simp [DC, hc]
   simp only [hc, Bool.true_or, if_true]
   rw [J6 (g := fun _ x => if DC x = true then none else some (.inr false)) (fun i x hi => by
     have : ¬ i = 0 := by omega
     by_cases hx : Ei x = true
     · have : DC x = true := by simp [DC, hx]
       simp [hx, this]
     · simp [this, hx]), Iw]
   by_cases ha : t.all DC = true
   ·simp only [ha, if_true, Option.bind_some, Sum.elim_inl, HJ, List.all_cons, hw, Bool.and_true]; by_cases h2 : (1 : Int) ≤ (c :: t).length
    ·rw [if_pos h2]; simp; omega
    ·simp at h2; omega
   ·rw [if_neg ha]; simp [List.all_cons, Bool.eq_false_iff.2 ha]
  ·have hc' : Ei c = false := Bool.eq_false_iff.2 hc; simp [hc']
set_option maxHeartbeats 4000000 in
theorem QO (s : Str) (h : s.length ≤ 1000000) : F70 s = some (Ct s) := by
 have eL : ∀ x : UInt8, F99 (x.toNat : Int) = some (Ei x) := fun x => by
  unfold F99 Ei; by_cases h : (97 ≤ x.toNat ∧ x.toNat ≤ 122) ∨ (65 ≤ x.toNat ∧ x.toNat ≤ 90)
  ·rw [decide_eq_true h]
   repeat' split
   all_goals first | rfl | (exfalso; omega) | (congr 1; rw [decide_eq_true_eq]; omega)
  ·rw [decide_eq_false h]
   repeat' split
   all_goals first | rfl | (exfalso; omega) | (congr 1; rw [decide_eq_false_iff_not]; omega)
 unfold F70 Ct; by_cases h1 : (s.length : Int) < 1
 ·rw [if_pos h1, decide_eq_false (by omega)]; simp
 ·rw [if_neg h1]; by_cases h2 : (64 : Int) < s.length
  ·rw [if_pos h2, decide_eq_false (by omega)]; simp
  ·rw [if_neg h2, decide_eq_true (by omega), Ad (by omega), eL]; cases s with
   | nil => simp at h1
   | cons c t =>
    simp only [Option.bind_some, List.getD_cons_zero, Bool.true_and]; by_cases hc : Ei c = true
    ·rw [hc, if_neg (by simp), E9 (c :: t) DC (by omega)
       (fun i hi => by
         simp only [HQ]
         rw [if_pos (by omega), Ad (by omega), Int.toNat_natCast, getD_some hi, eL]
         generalize (c :: t)[i] = x
         simp only [Option.bind_some]
         by_cases hx : Ei x = true
         · have : DC x = true := by simp [DC, hx]
           rw [if_neg (by simpa using hx), if_pos this]
         · have hx' : Ei x = false := Bool.eq_false_iff.2 hx
           rw [if_pos hx]
           by_cases hw : (48 ≤ x.toNat ∧ x.toNat ≤ 57) ∨ x.toNat = 45
           · have : DC x = true := by simp only [DC, Bool.or_eq_true, decide_eq_true_eq]; exact .inr hw
             rw [if_pos this]
             repeat' split
             all_goals first | rfl | (exfalso; omega)
           · have : DC x = false := by simp only [DC, Bool.or_eq_false_iff, hx', decide_eq_false_iff_not, true_and]; exact hw
             rw [this]
             simp only [Bool.false_eq_true, if_false]
             repeat' split
             all_goals first | rfl | (exfalso; omega))
       (by simp only [HQ]; rw [if_neg (by omega)])]
     by_cases ha : (c :: t).all DC = true
     ·simp only [ha, if_true, Option.bind_some, Sum.elim_inl, Jk, Bool.and_true]
     ·rw [if_neg ha, Bool.eq_false_iff.2 ha]; simp
    ·have hc' : Ei c = false := Bool.eq_false_iff.2 hc; simp [hc']
def KA (x : Dm) : Bool := Ct x.fType && decide (x.fType.map D2 = x.fType) && decide (1 ≤ x.A8.length ∧ x.A8.length ≤ 200)
def LP (d : List Dm) : Bool := decide (d.length ≤ 16) && d.all KA
def XL (d : List Dm) : Prop := d.length ≤ 1000000 ∧ ∀ x, x ∈ d → x.fType.length ≤ 1000000 ∧ x.A8.length ≤ 1000000
theorem Iy (s : Str) (h : s.length ≤ 1000000) : F57 s = some (s.map D2) := Ad (by omega)
theorem SN (x : Dm) (h : x.fType.length ≤ 1000000 ∧ x.A8.length ≤ 1000000) : Qq x = some (KA x) := by
 unfold Qq KA; rw [SM _ h.1, Iy _ h.1]; simp only [Option.bind_some]; by_cases h1 : Ct x.fType = true
 ·rw [if_pos h1, h1]; by_cases h2 : x.fType.map D2 = x.fType
  ·rw [if_pos h2, decide_eq_true h2]; by_cases h3 : (1 : Int) ≤ x.A8.length
   ·rw [if_pos h3]; congr 1; simp only [Bool.true_and]; rw [decide_eq_decide]; omega
   ·rw [if_neg h3, decide_eq_false (p := 1 ≤ x.A8.length ∧ _) (by omega)]; rfl
  ·rw [if_neg h2, decide_eq_false h2]; simp
 ·rw [if_neg h1, Bool.eq_false_iff.2 h1]; simp
theorem SO (d : List Dm) (h : XL d) : Qr d = some (!d.all KA) := by
 unfold Qr SH; obtain ⟨j, hj, hf⟩ := L1 KA d 0
 rw [GX d (fun i x => if KA x = true then none else some (.inr (i : Int))) (.inl ()) (by have := h.1; omega)
   (fun i hi => by
     simp only [HL, SF]
     rw [if_pos (by omega), Ad (by omega), Int.toNat_natCast, getD_some hi, SN _ (h.2 _ (List.getElem_mem _))]
     simp only [Option.bind_some]
     cases KA d[i] <;> simp)
   (by simp only [HL]; rw [if_neg (by omega)]), hf]
 by_cases h1 : d.all KA = true
 ·rw [if_pos h1, h1]; simp [Jj]
 ·rw [if_neg h1, Bool.eq_false_iff.2 h1]; simp [hj]
theorem Vj (d : List Dm) (h : XL d) : F79 d = some (if LP d = true then 0 else 2) := by
 unfold F79 LP; by_cases h1 : (16 : Int) < d.length
 ·rw [if_pos h1, decide_eq_false (by omega)]; simp
 ·rw [if_neg h1, decide_eq_true (by omega)]; unfold SK; rw [SO d h]; simp only [Option.bind_some, Bool.not_not, Bool.true_and]; by_cases h2 : d.all KA = true
  ·rw [if_neg (by simpa using h2), if_pos h2]
  ·rw [if_pos h2, if_neg h2]
theorem MM {f : UInt8 → UInt8} : ∀ (l acc : Str) (k : Nat), LN (fun _ (a : Str) x => (.inl (a ++ [f x]) : Str ⊕ Str)) id k acc l = acc ++ l.map f
  | [], acc, _ => by simp [LN]
  | x :: l, acc, k => by
    rw [L0]
    simp only
    rw [MM l]
    simp
theorem NS (s : Str) (h : s.length ≤ 1000000) : F71 s = some (s.map D2) := by
 unfold F71; have key := P6 (l := s) (step := fun (s_1 : Str × Int) => Im s s_1.1 s_1.2) (fun _ (a : Str) x => (.inl (a ++ [D2 x]) : Str ⊕ Str)) id (fun i a => a.length = i) (a := []) (by omega) rfl
  (fun i hi a hI => by
    simp only [Im]
    rw [if_pos (by omega), Ad (by omega), Int.toNat_natCast, getD_some hi]
    generalize s[i] = x
    obtain ⟨e1, e2⟩ := HG x
    have hx := x.toNat_lt
    by_cases h1 : (65 : Int) ≤ x.toNat
    · rw [if_pos h1]
      by_cases h2 : (x.toNat : Int) ≤ 90
      · have hw : IntKind.u8.wrap ((x.toNat : Int) + 32) = (x.toNat : Int) + 32 := wrap_u8 (by omega) (by omega)
        have e3 := e1 ⟨h1, h2⟩
        rw [if_pos h2, hw, Ad (by omega), Ad (by simp; omega)]
        have e4 : ((x.toNat : Int) + 32).toNat = (D2 x).toNat := by omega
        rw [e4, UInt8.ofNat_toNat]
      · rw [if_neg h2, Ad (by omega), Ad (by simp; omega), Int.toNat_natCast, UInt8.ofNat_toNat, e2 (by omega)]
    · rw [if_neg h1, Ad (by omega), Ad (by simp; omega), Int.toNat_natCast, UInt8.ofNat_toNat, e2 (by omega)])
  (fun i hi a a' hI e => by cases e; simp [hI])
  (fun a hI => by simp only [Im]; rw [if_neg (by omega)]; rfl)
 rw [key, MM]; simp [LD]
theorem QS (s : Str) (h : s.length ≤ 1000000) : F56 s = some (Ct s) := by
 unfold F56; rw [Iy s h, Option.bind_some, Vj _ ⟨by simp, fun x hx => by rw [List.mem_singleton.1 hx]; simpa using h⟩, Option.bind_some]; have e : LP [(⟨s.map D2, [120]⟩ : Dm)] = Ct s := by
  have h1 := KS s; have h2 := Mo s; simp only [CI] at h1 h2; simp [LP, KA, h1]; intro _; simpa [Function.comp_def] using h2
 rw [e]; cases Ct s <;> simp
theorem F0 {a b : Nat} {s : Str} : s.all (fun x => decide (a ≤ x.toNat ∧ x.toNat ≤ b)) = BX a b s := rfl
theorem Vk (s : Str) (h : s.length ≤ 1000000000) : F34 s = some (BX 65 90 s) := by
 unfold F34
 rw [Ad (by omega), E9 s (fun x => decide (65 ≤ x.toNat ∧ x.toNat ≤ 90)) h
   (fun i hi => by
     simp only [K6, F73]
     rw [if_pos (by omega), Ad (by omega), Int.toNat_natCast, getD_some hi]
     generalize s[i] = x
     by_cases h1 : (65 : Int) ≤ x.toNat
     · rw [if_pos h1, Option.bind_some]
       by_cases h2 : (x.toNat : Int) ≤ 90
       · rw [if_neg (by simpa using h2), if_pos (by simp; omega)]
       · rw [if_pos (by simpa using h2), if_neg (by simp; omega)]
     · rw [if_neg h1, Option.bind_some, if_pos (by simp), if_neg (by simp; omega)])
   (by simp only [K6]; rw [if_neg (by omega)]), F0]
 cases BX 65 90 s <;> simp [Lz]
theorem QT (s : Str) (h : s.length ≤ 1000000000) : MH s = some (BX 33 126 s) := by
 unfold MH
 rw [Ad (by omega), E9 s (fun x => decide (33 ≤ x.toNat ∧ x.toNat ≤ 126)) h
   (fun i hi => by
     simp only [FN, F74]
     rw [if_pos (by omega), Ad (by omega), Int.toNat_natCast, getD_some hi]
     generalize s[i] = x
     by_cases h1 : (33 : Int) ≤ x.toNat
     · rw [if_pos h1, Option.bind_some]
       by_cases h2 : (x.toNat : Int) ≤ 126
       · rw [if_neg (by simpa using h2), if_pos (by simp; omega)]
       · rw [if_pos (by simpa using h2), if_neg (by simp; omega)]
     · rw [if_neg h1, Option.bind_some, if_pos (by simp), if_neg (by simp; omega)])
   (by simp only [FN]; rw [if_neg (by omega)]), F0]
 cases BX 33 126 s <;> simp [HI]
theorem QU (s : Str) (h : s.length ≤ 1000000000) : MI s = some (BX 32 126 s) := by
 unfold MI
 rw [Ad (by omega), E9 s (fun x => decide (32 ≤ x.toNat ∧ x.toNat ≤ 126)) h
   (fun i hi => by
     simp only [FO, F81]
     rw [if_pos (by omega), Ad (by omega), Int.toNat_natCast, getD_some hi]
     generalize s[i] = x
     by_cases h1 : (32 : Int) ≤ x.toNat
     · rw [if_pos h1, Option.bind_some]
       by_cases h2 : (x.toNat : Int) ≤ 126
       · rw [if_neg (by simpa using h2), if_pos (by simp; omega)]
       · rw [if_pos (by simpa using h2), if_neg (by simp; omega)]
     · rw [if_neg h1, Option.bind_some, if_pos (by simp), if_neg (by simp; omega)])
   (by simp only [FO]; rw [if_neg (by omega)]), F0]
 cases BX 32 126 s <;> simp [HM]
theorem QV (s : Str) (h : s.length ≤ 1000000000) : KZ s = some (BX 32 126 s) := by
 unfold KZ
 rw [Ad (by omega), E9 s (fun x => decide (32 ≤ x.toNat ∧ x.toNat ≤ 126)) h
   (fun i hi => by
     simp only [FQ, F35]
     rw [if_pos (by omega), Ad (by omega), Int.toNat_natCast, getD_some hi]
     generalize s[i] = x
     by_cases h1 : (32 : Int) ≤ x.toNat
     · rw [if_pos h1, Option.bind_some]
       by_cases h2 : (x.toNat : Int) ≤ 126
       · rw [if_neg (by simpa using h2), if_pos (by simp; omega)]
       · rw [if_pos (by simpa using h2), if_neg (by simp; omega)]
     · rw [if_neg h1, Option.bind_some, if_pos (by simp), if_neg (by simp; omega)])
   (by simp only [FQ]; rw [if_neg (by omega)]), F0]
 cases BX 32 126 s <;> simp [HP]
theorem Iz (s : Str) (a b : Nat) (h : s.length ≤ 1000000000) : F55 s (a : Int) (b : Int) = some (BX a b s) := by
 unfold F55
 rw [E9 s (fun x => decide (a ≤ x.toNat ∧ x.toNat ≤ b)) h
   (fun i hi => by
     simp only [K8]
     rw [if_pos (by omega), Ad (by omega), Int.toNat_natCast, getD_some hi]
     generalize s[i] = x
     by_cases h1 : (x.toNat : Int) < (a : Int)
     · rw [if_pos h1, if_neg (by simp; omega)]
     · rw [if_neg h1]
       by_cases h2 : (b : Int) < (x.toNat : Int)
       · rw [if_pos h2, if_neg (by simp; omega)]
       · rw [if_neg h2, if_pos (by simp; omega)])
   (by simp only [K8]; rw [if_neg (by omega)]), F0]
 cases BX a b s <;> simp [LC]
theorem QW (s : Str) (h : s.length ≤ 1000000000) : F45 s = some (DN s) := by
 unfold F45 DN; rw [Vk s h]; by_cases h1 : (1 : Int) ≤ s.length
 ·rw [if_pos h1]; by_cases h2 : (s.length : Int) ≤ 20
  ·rw [if_pos h2, decide_eq_true (by omega)]; simp
  ·rw [if_neg h2, decide_eq_false (by omega)]; simp
 ·rw [if_neg h1, decide_eq_false (by omega)]; simp
theorem Vl (s : Str) (h : s.length ≤ 1000000000) : F47 s = some (DN s) := by
 unfold F47 DN; have e := Iz s 65 90 h; rw [show F55 s 65 90 = _ from e]; by_cases h1 : (1 : Int) ≤ s.length
 ·rw [if_pos h1]; by_cases h2 : (s.length : Int) ≤ 20
  ·rw [if_pos h2, decide_eq_true (by omega)]; simp
  ·rw [if_neg h2, decide_eq_false (by omega)]; simp
 ·rw [if_neg h1, decide_eq_false (by omega)]; simp
theorem LQ {x : UInt8} : (x.toNat : Int) = 47 ↔ x = 47 := by
 constructor
 ·intro h; exact UInt8.toNat_inj.1 (by show x.toNat = 47; omega)
 ·rintro rfl; rfl
theorem D7 {x : UInt8} : (x.toNat : Int) = 32 ↔ x = 32 := by
 constructor
 ·intro h; exact UInt8.toNat_inj.1 (by show x.toNat = 32; omega)
 ·rintro rfl; rfl
theorem QX (s : Str) (h : s.length ≤ 1000000000) : F46 s = some (Gy s) := by
 unfold F46 Gy; rw [QT s h]; by_cases h1 : (1 : Int) ≤ s.length
 ·rw [if_pos h1]; by_cases h2 : (s.length : Int) ≤ 200
  ·rw [if_pos h2, Ad (by omega), decide_eq_true (p := 1 ≤ s.length ∧ _) (by omega)]; by_cases h3 : s.getD 0 0 = 47
   ·rw [if_pos (LQ.2 h3), decide_eq_true h3]; simp
   ·rw [if_neg (fun e => h3 (LQ.1 e)), decide_eq_false h3]; simp
  ·rw [if_neg h2, decide_eq_false (p := 1 ≤ s.length ∧ _) (by omega)]; simp
 ·rw [if_neg h1, decide_eq_false (p := 1 ≤ s.length ∧ _) (by omega)]; simp
theorem Vm (s : Str) (h : s.length ≤ 1000000000) : F48 s = some (Gy s) := by
 unfold F48 Gy; have e := Iz s 33 126 h; rw [show F55 s 33 126 = _ from e]; by_cases h1 : (1 : Int) ≤ s.length
 ·rw [if_pos h1]; by_cases h2 : (s.length : Int) ≤ 200
  ·rw [if_pos h2, Ad (by omega), decide_eq_true (p := 1 ≤ s.length ∧ _) (by omega)]; by_cases h3 : s.getD 0 0 = 47
   ·rw [if_pos (LQ.2 h3), decide_eq_true h3]; simp
   ·rw [if_neg (fun e => h3 (LQ.1 e)), decide_eq_false h3]; simp
  ·rw [if_neg h2, decide_eq_false (p := 1 ≤ s.length ∧ _) (by omega)]; simp
 ·rw [if_neg h1, decide_eq_false (p := 1 ≤ s.length ∧ _) (by omega)]; simp
theorem Ep {p : UInt8 → Bool} : ∀ {s : Str} {x : UInt8}, (s.dropWhile p).head? = some x → p x = false
  | [], x, h => by simp at h
  | y :: s, x, h => by
    rw [List.dropWhile_cons] at h
    split at h
    · exact Ep h
    · rename_i hy
      simp at h
      subst h
      simpa using hy
theorem EN {p : UInt8 → Bool} : ∀ {s : Str} {x : UInt8}, x ∈ s.takeWhile p → p x = true
  | [], x, h => by simp at h
  | y :: s, x, h => by
    rw [List.takeWhile_cons] at h
    split at h
    · rename_i hy
      rcases List.mem_cons.1 h with rfl | h
      · exact hy
      · exact EN h
    · simp at h
theorem Kc (p : UInt8 → Bool) (s : Str) : ∃ a m b, s = a ++ m ++ b ∧ (∀ x ∈ a, p x = true) ∧ (∀ x ∈ b, p x = true) ∧ (∀ x, m.head? = some x → p x = false) ∧ (∀ x, m.getLast? = some x → p x = false) := by
 refine ⟨s.takeWhile p, ((s.dropWhile p).reverse.dropWhile p).reverse, ((s.dropWhile p).reverse.takeWhile p).reverse, ?_, fun x hx => EN hx, fun x hx => EN (List.mem_reverse.1 hx), fun x hx => ?_, fun x hx => ?_⟩
 ·rw [List.append_assoc, ← List.reverse_append, List.takeWhile_append_dropWhile, List.reverse_reverse, List.takeWhile_append_dropWhile]
 ·have h1 : (s.dropWhile p) = ((s.dropWhile p).reverse.dropWhile p).reverse ++ ((s.dropWhile p).reverse.takeWhile p).reverse := by
   rw [← List.reverse_append, List.takeWhile_append_dropWhile, List.reverse_reverse]
  cases hm : ((s.dropWhile p).reverse.dropWhile p).reverse with
  | nil => rw [hm] at hx; cases hx
  | cons y m =>
   rw [hm] at hx h1; have : (s.dropWhile p).head? = some y := by rw [h1]; rfl
   simp at hx; subst hx; exact Ep this
 ·rw [List.getLast?_reverse] at hx; exact Ep hx
theorem Jm (cs a m b : Str) (ha : ∀ x ∈ a, cs.contains x = true) (hb : ∀ x ∈ b, cs.contains x = true) (h1 : ∀ x, m.head? = some x → cs.contains x = false) (h2 : ∀ x, m.getLast? = some x → cs.contains x = false) : Lib.trimS (a ++ m ++ b) cs = m := by
 unfold Lib.trimS Lib.trimLeftS Lib.trimRightS; rw [List.reverse_append, Cs _ _ (fun y hy => hb y (by simpa using hy))]; cases hs : m with
 | nil =>
  have : ∀ x ∈ a.reverse, cs.contains x = true := fun x hx => ha x (by simpa using hx); rw [List.append_nil]; have e : a.reverse.dropWhile (fun x => cs.contains x) = [] := by have := Cs (p := fun x => cs.contains x) a.reverse [] this; simpa using this
  rw [e]; rfl
 | cons y t =>
  rw [← hs, E5 (s := (a ++ m).reverse) (fun x hx => h2 x (by
    rw [List.head?_reverse] at hx
    rw [List.getLast?_append] at hx
    rw [hs] at hx ⊢
    simpa using hx)), List.reverse_reverse, Cs _ _ ha, E5 h1]
theorem P7 (s : Str) : Lib.trimS s [32, 9] = trimS s := by
 obtain ⟨a, m, b, e, h1, h2, h3, h4⟩ := Kc Cv s; have hc : ∀ x : UInt8, ([32, 9] : Str).contains x = Cv x := fun x => by rw [Bool.eq_iff_iff]; simp [Cv]
 rw [e, Mn a b m h1 h2 h3 h4]; exact Jm _ a m b (fun x hx => by rw [hc]; exact h1 x hx) (fun x hx => by rw [hc]; exact h2 x hx) (fun x hx => by rw [hc]; exact h3 x hx) (fun x hx => by rw [hc]; exact h4 x hx)
theorem QY (s : Str) : Lib.trimS s [32] = s ↔ s.head? ≠ some 32 ∧ s.getLast? ≠ some 32 := by
 have hc : ∀ x : UInt8, ([32] : Str).contains x = (x == 32) := fun x => by rw [Bool.eq_iff_iff]; simp
 constructor
 ·intro h; obtain ⟨a, m, b, e, h1, h2, h3, h4⟩ := Kc (fun x => x == 32) s; have := Jm [32] a m b (fun x hx => by rw [hc]; exact h1 x hx) (fun x hx => by rw [hc]; exact h2 x hx) (fun x hx => by rw [hc]; exact h3 x hx) (fun x hx => by rw [hc]; exact h4 x hx); rw [← e, h] at this; rw [this]; exact ⟨fun q => by have := h3 _ q; simp at this, fun q => by have := h4 _ q; simp at this⟩
 ·rintro ⟨h1, h2⟩
  have := Jm [32] [] s [] (by simp) (by simp) (fun x hx => by rw [hc]; simp; rintro rfl; exact h1 hx) (fun x hx => by rw [hc]; simp; rintro rfl; exact h2 hx); simpa using this
theorem Vn (s : Str) (h : s.length ≤ 1000000000) : F80 s [32] = some (Lib.trimS s [32]) := by
 unfold F80; rw [Ad (by omega), Ad ⟨by simp, by simp⟩]
theorem TA (s : Str) (h : s.length ≤ 1000000000) : F80 s [32, 9] = some (trimS s) := by
 unfold F80; rw [Ad (by omega), Ad ⟨by simp, by simp⟩, P7]
theorem QZ (s : Str) (h : s.length ≤ 1000000000) : F58 s = some (Cw s) := by
 unfold F58 Cw; rw [Vn s h, Option.bind_some, QU s h]; have e : s.all (fun x => decide (32 ≤ x.toNat ∧ x.toNat ≤ 126)) = BX 32 126 s := rfl; rw [e]; by_cases h1 : (s.length : Int) ≤ 200
 ·rw [if_pos h1, decide_eq_true (by omega)]; by_cases h2 : Lib.trimS s [32] = s
  ·obtain ⟨q1, q2⟩ := (QY s).1 h2; rw [if_pos h2, decide_eq_true q1, decide_eq_true q2]; simp
  ·rw [if_neg h2]; have := mt (QY s).2 h2; by_cases q1 : s.head? = some 32
   ·simp [q1]
   ·have q2 : s.getLast? = some 32 := Classical.byContradiction fun q => this ⟨q1, q⟩; simp [q2]
 ·rw [if_neg h1, decide_eq_false (by omega)]; simp
theorem Q_ (s : Str) (h : s.length ≤ 1000000000) : F72 s = some (Cw s) := by
 unfold F72 Cw; have e := Iz s 32 126 h; rw [show F55 s 32 126 = _ from e]; have e : s.all (fun x => decide (32 ≤ x.toNat ∧ x.toNat ≤ 126)) = BX 32 126 s := rfl; rw [e]; by_cases h1 : (s.length : Int) ≤ 200
 ·rw [if_pos h1, decide_eq_true (p := s.length ≤ 200) (by omega), Option.bind_some]; cases BX 32 126 s with
  | false => simp
  | true =>
   rw [if_pos rfl]; by_cases h2 : s = []
   ·subst h2; simp
   ·have hl : 0 < s.length := List.length_pos_iff.2 h2; rw [if_neg h2, Ad (by omega)]; have hh : s.head? = some (s.getD 0 0) := by rw [List.head?_eq_getElem?, List.getD_eq_getElem?_getD, List.getElem?_eq_getElem hl]; rfl
    have hw : IntKind.i64.wrap ((s.length : Int) - 1) = ((s.length - 1 : Nat) : Int) := by rw [wrap_i64 (by omega) (by omega)]; omega
    have hg : s.getLast? = some (s.getD (s.length - 1) 0) := by rw [List.getLast?_eq_getElem?, List.getD_eq_getElem?_getD, List.getElem?_eq_getElem (by omega)]; rfl
    rw [hh, hg, hw, Int.toNat_natCast]; by_cases q1 : s.getD 0 0 = 32
    ·rw [if_neg (by simpa using D7.2 q1), q1]; simp
    ·rw [if_pos (fun q => q1 (D7.1 q)), Ad (by omega)]; by_cases q2 : s.getD (s.length - 1) 0 = 32
     ·rw [decide_eq_false (by simpa using D7.2 q2), q2]; simp
     ·rw [decide_eq_true (p := ¬ _) (fun q => q2 (D7.1 q)), decide_eq_true (by simpa using q1), decide_eq_true (by simpa using q2)]; simp
 ·rw [if_neg h1, decide_eq_false (p := s.length ≤ 200) (by omega)]; simp
end Go.Idl
namespace Go.Idl
open Go
abbrev toH (x : S55) : Hd := (x.fName, x.A8)
theorem Jn (l : List S55) : (l.map toH).map toS = l := by
 rw [List.map_map]; have : (toS ∘ toH) = id := rfl; rw [this, List.map_id]
theorem D1 (l : List Hd) : (l.map toS).map toH = l := by
 rw [List.map_map]; have : (toH ∘ toS) = id := rfl; rw [this, List.map_id]
def okH (l : List Hd) : Bool := decide (C6 l) && l.all hdB
theorem MN (l : List Hd) : OW l = (okH l && decide (l.length ≤ 16)) := rfl
theorem L2 : ∀ (l : List Hd) (x : Hd), C6 (l ++ [x]) ↔ C6 l ∧ ∀ y, l.getLast? = some y → lt8 y.1 x.1 := by
 intro l x; rw [C6, List.pairwise_append]; constructor
 ·rintro ⟨h1, _, h3⟩
  exact ⟨h1, fun y hy => h3 y (List.mem_of_getLast? hy) x (by simp)⟩
 ·rintro ⟨h1, h2⟩
  refine ⟨h1, by simp, fun a ha b hb => ?_⟩; rw [List.mem_singleton.1 hb]; have hne : l ≠ [] := List.ne_nil_of_mem ha; have hlast := h2 _ (List.getLast?_eq_some_getLast hne); obtain ⟨i, hi, rfl⟩ := List.getElem_of_mem ha; rcases Nat.lt_or_ge i (l.length - 1) with q | q
  ·have hp := List.pairwise_iff_getElem.1 h1 i (l.length - 1) hi (by omega) q; rw [List.getLast_eq_getElem] at hlast; exact EW hp hlast
  ·have e : i = l.length - 1 := by omega
   subst e; rw [List.getLast_eq_getElem] at hlast; exact hlast
theorem R1 (l : List S55) (hl : l.length ≤ 1000000) (hb : ∀ x ∈ l, x.fName.length ≤ 1000000 ∧ x.A8.length ≤ 1000000) : AH (fun (s : Int) => FP l s) 0 = some (if okH (l.map toH) = true then .inl () else .inr false) := by
 obtain ⟨r, h1, h2⟩ := Gd (step := fun (s : Int) => FP l s) (Post := fun y => y = if okH (l.map toH) = true then .inl () else .inr false) l.length (fun i => C6 ((l.map toH).take i) ∧ ((l.map toH).take i).all hdB = true) (by simp [C6])
  (fun i hi hI => by
    obtain ⟨r1, r2⟩ := hI
    obtain ⟨n1, n2⟩ := hb l[i] (List.getElem_mem _)
    have hm : i < (l.map toH).length := by simpa using hi
    have hx : (l.map toH)[i] = toH l[i] := by simp
    have bad : (¬ (Ct l[i].fName = true) ∨ ¬ CI l[i].fName = l[i].fName ∨ ¬ (Cw l[i].A8 = true) ∨ l[i].fName = CU ∨ l[i].fName = D3) → okH (l.map toH) = false := fun h => by
      have : hdB (toH l[i]) = false := by
        unfold hdB toH
        rcases h with h | h | h | h | h
        · simp [Bool.eq_false_iff.2 h]
        · simp [h]
        · simp [Bool.eq_false_iff.2 h]
        · simp [h]
        · simp [h]
      unfold okH
      have : (l.map toH).all hdB = false := List.all_eq_false.2 ⟨_, List.getElem_mem hm, by rw [hx, this]; simp⟩
      rw [this, Bool.and_false]
    have e1 : FP l (i : Int) = if ¬ (Ct l[i].fName = true) then some (.inr (.inr false)) else if ¬ CI l[i].fName = l[i].fName then some (.inr (.inr false)) else if ¬ (Cw l[i].A8 = true) then some (.inr (.inr false)) else if l[i].fName = CU then some (.inr (.inr false)) else if l[i].fName = D3 then some (.inr (.inr false)) else if (0 : Int) < i then (if ¬ Op.bytesLess (l.getD (i - 1) S55.zero).fName l[i].fName = true then some (.inr (.inr false)) else some (.inl ((i + 1 : Nat) : Int))) else some (.inl ((i + 1 : Nat) : Int)) := by
      simp only [FP]
      rw [if_pos (by omega), Ad (by omega), Int.toNat_natCast, getD_some hi, QS _ n1, Option.bind_some, Iy _ n1, Option.bind_some, QZ _ (by omega), Option.bind_some]
      by_cases h0 : (0 : Int) < i
      · have hw : IntKind.i64.wrap ((i : Int) - 1) = ((i - 1 : Nat) : Int) := by rw [wrap_i64 (by omega) (by omega)]; omega
        rw [if_pos h0, if_pos h0, hw, Ad (by omega), Int.toNat_natCast, Bq (by omega)]
        rfl
      · rw [if_neg h0, if_neg h0, Bq (by omega)]
        rfl
    by_cases q1 : Ct l[i].fName = true
    case neg => exact .inr ⟨_, by rw [e1, if_pos q1], by rw [bad (.inl q1)]; rfl⟩
    by_cases q2 : CI l[i].fName = l[i].fName
    case neg => exact .inr ⟨_, by rw [e1, if_neg (by simpa using q1), if_pos q2], by rw [bad (.inr (.inl q2))]; rfl⟩
    by_cases q3 : Cw l[i].A8 = true
    case neg => exact .inr ⟨_, by rw [e1, if_neg (by simpa using q1), if_neg (by simpa using q2), if_pos q3], by rw [bad (.inr (.inr (.inl q3)))]; rfl⟩
    by_cases q4 : l[i].fName = CU
    case pos => exact .inr ⟨_, by rw [e1, if_neg (by simpa using q1), if_neg (by simpa using q2), if_neg (by simpa using q3), if_pos q4], by rw [bad (.inr (.inr (.inr (.inl q4))))]; rfl⟩
    by_cases q5 : l[i].fName = D3
    case pos => exact .inr ⟨_, by rw [e1, if_neg (by simpa using q1), if_neg (by simpa using q2), if_neg (by simpa using q3), if_neg q4, if_pos q5], by rw [bad (.inr (.inr (.inr (.inr q5))))]; rfl⟩
    rw [e1, if_neg (by simpa using q1), if_neg (by simpa using q2), if_neg (by simpa using q3), if_neg q4, if_neg q5]
    have hgood : hdB (toH l[i]) = true := by simp only [hdB, toH, Bool.and_eq_true, decide_eq_true_eq]; exact ⟨⟨⟨⟨q1, q2⟩, q3⟩, q4⟩, q5⟩
    have ha : ((l.map toH).take (i + 1)).all hdB = true := by
      rw [List.take_succ_eq_append_getElem hm, List.all_append, r2, hx]
      simp [hgood]
    by_cases h0 : (0 : Int) < i
    · rw [if_pos h0]
      have hi1 : i - 1 < l.length := by omega
      rw [getD_some hi1]
      by_cases q6 : Op.bytesLess l[i - 1].fName l[i].fName = true
      · rw [if_neg (by simpa using q6)]
        refine .inl ⟨rfl, ?_, ha⟩
        rw [List.take_succ_eq_append_getElem hm, hx]
        refine (L2 _ _).2 ⟨r1, fun y hy => ?_⟩
        rw [List.getLast?_take, if_neg (by omega)] at hy
        have : (l.map toH)[i - 1]? = some (toH l[i - 1]) := by simp [hi1]
        rw [this] at hy
        simp at hy
        rw [← hy]
        exact q6
      · rw [if_pos q6]
        refine .inr ⟨_, rfl, ?_⟩
        have : ¬ C6 (l.map toH) := fun h => by
          have := List.pairwise_iff_getElem.1 h (i - 1) i (by simpa using hi1) hm (by omega)
          simp only [List.getElem_map, toH] at this
          exact q6 this
        unfold okH
        rw [decide_eq_false this]; rfl
    · rw [if_neg h0]
      refine .inl ⟨rfl, ?_, ha⟩
      have : i = 0 := by omega
      subst this
      rw [List.take_succ_eq_append_getElem hm]
      simp [C6])
  (fun hI => by
    refine ⟨_, by simp only [FP]; rw [if_neg (by omega)], ?_⟩
    have hlen : (l.map toH).length = l.length := by simp
    rw [← hlen, List.take_length] at hI
    unfold okH
    rw [decide_eq_true hI.1, hI.2]; rfl)
 rw [h1, h2]
theorem R2 (l : List S55) (hl : l.length ≤ 1000000) (hb : ∀ x ∈ l, x.fName.length ≤ 1000000 ∧ x.A8.length ≤ 1000000) : AH (fun (s : Int) => FV l s) 0 = some (if okH (l.map toH) = true then .inl () else .inr false) := by
 obtain ⟨r, h1, h2⟩ := Gd (step := fun (s : Int) => FV l s) (Post := fun y => y = if okH (l.map toH) = true then .inl () else .inr false) l.length (fun i => C6 ((l.map toH).take i) ∧ ((l.map toH).take i).all hdB = true) (by simp [C6])
  (fun i hi hI => by
    obtain ⟨r1, r2⟩ := hI
    obtain ⟨n1, n2⟩ := hb l[i] (List.getElem_mem _)
    have hm : i < (l.map toH).length := by simpa using hi
    have hx : (l.map toH)[i] = toH l[i] := by simp
    have bad : (¬ (Ct l[i].fName = true) ∨ ¬ CI l[i].fName = l[i].fName ∨ ¬ (Cw l[i].A8 = true) ∨ l[i].fName = CU ∨ l[i].fName = D3) → okH (l.map toH) = false := fun h => by
      have : hdB (toH l[i]) = false := by
        unfold hdB toH
        rcases h with h | h | h | h | h
        · simp [Bool.eq_false_iff.2 h]
        · simp [h]
        · simp [Bool.eq_false_iff.2 h]
        · simp [h]
        · simp [h]
      unfold okH
      have : (l.map toH).all hdB = false := List.all_eq_false.2 ⟨_, List.getElem_mem hm, by rw [hx, this]; simp⟩
      rw [this, Bool.and_false]
    have e1 : FV l (i : Int) = if ¬ (Ct l[i].fName = true) then some (.inr (.inr false)) else if ¬ CI l[i].fName = l[i].fName then some (.inr (.inr false)) else if ¬ (Cw l[i].A8 = true) then some (.inr (.inr false)) else if l[i].fName = CU then some (.inr (.inr false)) else if l[i].fName = D3 then some (.inr (.inr false)) else if (0 : Int) < i then (if ¬ Op.bytesLess (l.getD (i - 1) S55.zero).fName l[i].fName = true then some (.inr (.inr false)) else some (.inl ((i + 1 : Nat) : Int))) else some (.inl ((i + 1 : Nat) : Int)) := by
      simp only [FV]
      rw [if_pos (by omega), Ad (by omega), Int.toNat_natCast, getD_some hi, QO _ n1, Option.bind_some, NS _ n1, Option.bind_some, Q_ _ (by omega), Option.bind_some]
      by_cases h0 : (0 : Int) < i
      · have hw : IntKind.i64.wrap ((i : Int) - 1) = ((i - 1 : Nat) : Int) := by rw [wrap_i64 (by omega) (by omega)]; omega
        rw [if_pos h0, if_pos h0, hw, Ad (by omega), Int.toNat_natCast, Bq (by omega)]
        rfl
      · rw [if_neg h0, if_neg h0, Bq (by omega)]
        rfl
    by_cases q1 : Ct l[i].fName = true
    case neg => exact .inr ⟨_, by rw [e1, if_pos q1], by rw [bad (.inl q1)]; rfl⟩
    by_cases q2 : CI l[i].fName = l[i].fName
    case neg => exact .inr ⟨_, by rw [e1, if_neg (by simpa using q1), if_pos q2], by rw [bad (.inr (.inl q2))]; rfl⟩
    by_cases q3 : Cw l[i].A8 = true
    case neg => exact .inr ⟨_, by rw [e1, if_neg (by simpa using q1), if_neg (by simpa using q2), if_pos q3], by rw [bad (.inr (.inr (.inl q3)))]; rfl⟩
    by_cases q4 : l[i].fName = CU
    case pos => exact .inr ⟨_, by rw [e1, if_neg (by simpa using q1), if_neg (by simpa using q2), if_neg (by simpa using q3), if_pos q4], by rw [bad (.inr (.inr (.inr (.inl q4))))]; rfl⟩
    by_cases q5 : l[i].fName = D3
    case pos => exact .inr ⟨_, by rw [e1, if_neg (by simpa using q1), if_neg (by simpa using q2), if_neg (by simpa using q3), if_neg q4, if_pos q5], by rw [bad (.inr (.inr (.inr (.inr q5))))]; rfl⟩
    rw [e1, if_neg (by simpa using q1), if_neg (by simpa using q2), if_neg (by simpa using q3), if_neg q4, if_neg q5]
    have hgood : hdB (toH l[i]) = true := by simp only [hdB, toH, Bool.and_eq_true, decide_eq_true_eq]; exact ⟨⟨⟨⟨q1, q2⟩, q3⟩, q4⟩, q5⟩
    have ha : ((l.map toH).take (i + 1)).all hdB = true := by
      rw [List.take_succ_eq_append_getElem hm, List.all_append, r2, hx]
      simp [hgood]
    by_cases h0 : (0 : Int) < i
    · rw [if_pos h0]
      have hi1 : i - 1 < l.length := by omega
      rw [getD_some hi1]
      by_cases q6 : Op.bytesLess l[i - 1].fName l[i].fName = true
      · rw [if_neg (by simpa using q6)]
        refine .inl ⟨rfl, ?_, ha⟩
        rw [List.take_succ_eq_append_getElem hm, hx]
        refine (L2 _ _).2 ⟨r1, fun y hy => ?_⟩
        rw [List.getLast?_take, if_neg (by omega)] at hy
        have : (l.map toH)[i - 1]? = some (toH l[i - 1]) := by simp [hi1]
        rw [this] at hy
        simp at hy
        rw [← hy]
        exact q6
      · rw [if_pos q6]
        refine .inr ⟨_, rfl, ?_⟩
        have : ¬ C6 (l.map toH) := fun h => by
          have := List.pairwise_iff_getElem.1 h (i - 1) i (by simpa using hi1) hm (by omega)
          simp only [List.getElem_map, toH] at this
          exact q6 this
        unfold okH
        rw [decide_eq_false this]; rfl
    · rw [if_neg h0]
      refine .inl ⟨rfl, ?_, ha⟩
      have : i = 0 := by omega
      subst this
      rw [List.take_succ_eq_append_getElem hm]
      simp [C6])
  (fun hI => by
    refine ⟨_, by simp only [FV]; rw [if_neg (by omega)], ?_⟩
    have hlen : (l.map toH).length = l.length := by simp
    rw [← hlen, List.take_length] at hI
    unfold okH
    rw [decide_eq_true hI.1, hI.2]; rfl)
 rw [h1, h2]
def IA (l : List S55) : Prop := l.length ≤ 1000000 ∧ ∀ x ∈ l, x.fName.length ≤ 1000000 ∧ x.A8.length ≤ 1000000
theorem NT (l : List S55) (b : Str) (h : IA l) : F27 l b = some (D5 (l.map toH) b) := by
 unfold F27; rw [R1 l h.1 h.2]; unfold D5; rw [MN]; cases okH (l.map toH) with
 | false => simp
 | true =>
  simp only [if_true, Option.bind_some, Sum.elim_inl, LB, List.length_map, Bool.true_and]; by_cases h1 : (l.length : Int) ≤ 16
  ·rw [if_pos h1, decide_eq_true (p := l.length ≤ 16) (by omega), Bool.true_and]; congr 1; rw [decide_eq_decide]; omega
  ·rw [if_neg h1, decide_eq_false (p := l.length ≤ 16) (by omega)]; rfl
theorem Vo (l : List S55) (h : IA l) : F44 l = some (OW (l.map toH)) := by
 unfold F44; rw [R2 l h.1 h.2, MN]; cases okH (l.map toH) with
 | false => simp
 | true =>
  simp only [if_true, Option.bind_some, Sum.elim_inl, LF, List.length_map, Bool.true_and]; congr 1; rw [decide_eq_decide]; omega
theorem Fp (a b : List Str) : C5 (a ++ b) = C5 a ++ C5 b := List.flatMap_append
theorem Ke (l : List Str) : l.length ≤ (C5 l).length := by
 induction l with
 | nil => simp
 | cons x l ih =>
  rw [show C5 (x :: l) = (x ++ [13, 10]) ++ C5 l from rfl, List.length_append, List.length_append]; simp only [List.length_cons, List.length_nil]; omega
theorem R3 (l : List Str) (h : (C5 l).length ≤ 1000000000) : AH (fun (s : (List UInt8) × Int) => El l s.1 s.2) ([], 0) = some (C5 l) := by
 have hlen : l.length ≤ 1000000000 := by
  have := Ke l; omega
 obtain ⟨r, h1, h2⟩ := GW (step := fun (s : (List UInt8) × Int) => El l s.1 s.2) (Post := fun y => y = C5 l) l.length (fun i a => a = C5 (l.take i)) (a := []) rfl
  (fun i a hi hI => by
    subst hI
    have ht := List.take_succ_eq_append_getElem hi
    have h3 : (C5 (l.take (i + 1))).length ≤ (C5 l).length := by
      conv => rhs; rw [← List.take_append_drop (i + 1) l, Fp]
      simp
    have e : C5 (l.take (i + 1)) = C5 (l.take i) ++ l[i] ++ [13, 10] := by
      rw [ht, Fp]; simp [C5]
    rw [e, List.length_append, List.length_append] at h3
    simp only [List.length_cons, List.length_nil] at h3
    refine .inl ⟨_, ?_, e.symm⟩
    simp only [El]
    rw [if_pos (by omega), Ad (by omega), Int.toNat_natCast, getD_some hi, Ad (by omega), Ad (by simp; omega), Bq (by omega)])
  (fun a hI => by
    subst hI
    refine ⟨_, by simp only [El]; rw [if_neg (by omega)], by rw [List.take_length]⟩)
 rw [h1, h2]
theorem R4 (l : List Str) (h : (C5 l).length ≤ 1000000000) : MJ l = some (C5 l) := by
 unfold MJ; rw [R3 l h]; rfl
theorem P8 (f : Str) (l : List Hd) (last : Str) (i : Nat) : (C5 (f :: ((l.take i).map EE))).length ≤ (J4 f l last).length := by
 unfold J4
 conv => rhs; rw [← List.take_append_drop i l, List.map_append, List.append_assoc, ← List.cons_append, Fp]
 simp
theorem Vp (f : Str) (l : List S55) (last : Str) (h : (J4 f (l.map toH) last).length ≤ 1000000000) : MK f l last = some (J4 f (l.map toH) last) := by
 have hl : l.length ≤ 1000000000 := by
  have := Ke (f :: ((l.map toH).map EE ++ [last, []])); unfold J4 at h; simp only [List.length_cons, List.length_append, List.length_map, List.length_nil] at this; omega
 unfold MK; obtain ⟨r, h1, h2⟩ := GW (step := fun (s : (List (List UInt8)) × Int) => EY l s.1 s.2) (Post := fun y => y = f :: (l.map toH).map EE) l.length (fun i a => a = f :: ((l.map toH).take i).map EE) (a := [f]) rfl
  (fun i a hi hI => by
    subst hI
    have hm : i < (l.map toH).length := by simpa using hi
    have ht := List.take_succ_eq_append_getElem hm
    have hx : (l.map toH)[i] = toH l[i] := by simp
    have h3 := P8 f (l.map toH) last (i + 1)
    rw [ht, hx] at h3
    have h4 : (EE (toH l[i])).length ≤ 1000000000 := by
      have e : C5 (f :: (((l.map toH).take i ++ [toH l[i]]).map EE)) = C5 (f :: ((l.map toH).take i).map EE) ++ (EE (toH l[i]) ++ [13, 10]) := by
        rw [List.map_append, ← List.cons_append, Fp]; simp [C5]
      rw [e] at h3
      simp at h3
      simp
      omega
    have eh : (l[i].fName ++ [58, 32]) ++ l[i].A8 = EE (toH l[i]) := by simp [EE, toH]
    have h5 : l[i].fName.length + l[i].A8.length + 2 ≤ 1000000000 := by
      rw [← eh] at h4; simp at h4; omega
    refine .inl ⟨f :: ((l.map toH).take (i + 1)).map EE, ?_, rfl⟩
    simp only [EY]
    rw [if_pos (by omega), Ad (by omega), Int.toNat_natCast, getD_some hi, Ad (by simp; omega), Ad (by simp; omega), Ad (by simp; omega), Bq (by omega), eh, ht, hx]
    simp)
  (fun a hI => by
    subst hI
    refine ⟨_, by simp only [EY]; rw [if_neg (by omega)], ?_⟩
    have : (l.map toH).take l.length = l.map toH := by rw [show l.length = (l.map toH).length by simp, List.take_length]
    rw [this])
 rw [h1, h2, Option.bind_some, HN, Ad (by simp; omega)]; have e : (f :: (l.map toH).map EE) ++ [last, []] = f :: ((l.map toH).map EE ++ [last, []]) := rfl; rw [e, R4 _ h]; rfl
theorem HS (n : Nat) (h : n ≤ 1000000000) : F29 (n : Int) = some (Lib.decDigits n) := by
 unfold F29; rw [Ad (by omega)]; unfold Lib.itoa; rw [if_neg (by omega)]; simp
theorem R5 : ∀ (n : Nat) (acc : Str), acc.length + n ≤ 1000000000000000000 → AH (fun v : Int × (List UInt8) => Io v.1 v.2) ((n : Int), acc) = some (Lib.decDigits n ++ acc) := by
 intro n
 induction n using Nat.strongRecOn with
 | _ n ih =>
  intro acc h; have hm : ((n : Int)).tmod 10 = ((n % 10 : Nat) : Int) := by rw [Int.tmod_eq_emod_of_nonneg (by omega)]; omega
  have hd : ((n : Int)).tdiv 10 = ((n / 10 : Nat) : Int) := by rw [Int.tdiv_eq_ediv_of_nonneg (by omega)]; omega
  have hw : IntKind.i64.wrap (48 + ((n % 10 : Nat) : Int)) = ((48 + n % 10 : Nat) : Int) := by rw [wrap_i64 (by omega) (by omega)]; omega
  have hw8 : IntKind.u8.wrap ((48 + n % 10 : Nat) : Int) = ((48 + n % 10 : Nat) : Int) := wrap_u8 (by omega) (by omega); have hwd : IntKind.i64.wrap ((n / 10 : Nat) : Int) = ((n / 10 : Nat) : Int) := wrap_i64 (by omega) (by omega); have hs : Io (n : Int) acc = some (if n < 10 then .inr ([UInt8.ofNat (48 + n % 10)] ++ acc) else .inl (((n / 10 : Nat) : Int), [UInt8.ofNat (48 + n % 10)] ++ acc)) := by
   unfold Io; rw [hm, hd, hw, hw8, hwd, Int.toNat_natCast, Ad (by omega), Ad (by simp only [List.length_cons, List.length_nil]; omega)]; by_cases hn : n < 10
   ·rw [if_pos hn, if_pos (by omega)]
   ·rw [if_neg hn, if_neg (by omega)]
  rw [Lib.decDigits]; by_cases hn : n < 10
  ·rw [if_pos hn] at hs; rw [dif_pos hn, show n % 10 = n by omega] at *; exact Aj hs
  ·rw [if_neg hn] at hs; rw [dif_neg hn, Bz (s := ((n : Int), acc)) hs, ih (n / 10) (by omega) _ (by simp; omega)]; simp
theorem Vq (n : Nat) (h : n ≤ 1000000000) : F39 (n : Int) = some (Lib.decDigits n) := by
 unfold F39; rw [R5 n [] (by simp; omega)]; simp
theorem Vr (q : S42) (h1 : q.AI.length ≤ 1000000) (h2 : q.Bw.length ≤ 1000000) (hl : IA q.Ax) (hb : q.AT.length ≤ 1000000) (ht : (Em q.AI q.Bw (q.Ax.map toH) q.AT).length ≤ 1000000000) :
    F18 q = some (if (DN q.AI && Gy q.Bw && D5 (q.Ax.map toH) q.AT) = true then (Em q.AI q.Bw (q.Ax.map toH) q.AT, 0) else ([], 2)) := by
 unfold F18; rw [QW _ (by omega), Option.bind_some, QX _ (by omega), Option.bind_some, NT _ _ hl, Option.bind_some]; by_cases m1 : DN q.AI = true
 case neg => rw [if_pos m1, Bool.eq_false_iff.2 m1]; rfl
 rw [if_neg (by simpa using m1), m1]; by_cases m2 : Gy q.Bw = true
 case neg => rw [if_pos m2, Bool.eq_false_iff.2 m2]; rfl
 rw [if_neg (by simpa using m2), m2]; by_cases m3 : D5 (q.Ax.map toH) q.AT = true
 case neg => rw [if_pos m3, Bool.eq_false_iff.2 m3]; rfl
 rw [if_neg (by simpa using m3), m3]; have hd := ML (n := q.AT.length) (by omega); rw [Ad (by simp; omega), Ad (by simp; omega), Ad (by simp; omega), Ad (by simp; omega), HS _ (by omega), Option.bind_some, Ad (by simp; omega)]; have e1 : (((q.AI ++ [32]) ++ q.Bw) ++ [32]) ++ [72, 84, 84, 80, 47, 49, 46, 49] = q.AI ++ 32 :: (q.Bw ++ 32 :: Fo) := by simp [Fo]
 have e2 : ([99, 111, 110, 116, 101, 110, 116, 45, 108, 101, 110, 103, 116, 104, 58, 32] : Str) ++ Lib.decDigits q.AT.length = QN q.AT.length := by simp [QN, CU]
 rw [e1, e2]; unfold Em at ht ⊢; rw [List.length_append] at ht; rw [Vp _ _ _ (by omega), Option.bind_some, Ad (by omega)]; rfl
theorem R6 (a b : List S55) (h : a.length ≤ 1000000) : F40 a b = some (decide (a = b)) := by
 unfold F40; by_cases hl : (a.length : Int) = b.length
 ·rw [if_neg (by simpa using hl)]; have hl' : a.length = b.length := by omega
  obtain ⟨r, h1, h2⟩ := Gd (step := fun (s : Int) => Ip a b s) (Post := fun y => y = if a = b then .inl () else .inr false) a.length (fun i => a.take i = b.take i) (by simp)
   (fun i hi hI => by
     have hib : i < b.length := by omega
     simp only [Ip]
     rw [if_pos (by omega), Ad (by omega), Ad (by omega), Int.toNat_natCast, getD_some hi, getD_some hib]
     by_cases q : a[i].fName = b[i].fName ∧ a[i].A8 = b[i].A8
     · have e : a[i] = b[i] := by
         generalize a[i] = x at q ⊢
         generalize b[i] = y at q ⊢
         cases x; cases y; simp at q; rw [q.1, q.2]
       rw [if_neg (by simpa using q), Bq (by omega)]
       exact .inl ⟨rfl, by rw [List.take_succ_eq_append_getElem hi, List.take_succ_eq_append_getElem hib, hI, e]⟩
     · rw [if_pos q]
       refine .inr ⟨_, rfl, ?_⟩
       rw [if_neg]
       rintro rfl
       exact q ⟨rfl, rfl⟩)
   (fun hI => by
     refine ⟨_, by simp only [Ip]; rw [if_neg (by omega)], ?_⟩
     rw [List.take_length, hl', List.take_length] at hI
     rw [if_pos hI])
  rw [h1, h2]; by_cases e : a = b
  ·simp [e, LG]
  ·simp [e]
 ·rw [if_pos hl, decide_eq_false]
  rintro rfl
  exact hl rfl
theorem R7 (a b : S42) (h : a.Ax.length ≤ 1000000) : F22 a b = some (decide (a = b)) := by
 obtain ⟨a1, a2, a3, a4⟩ := a; obtain ⟨b1, b2, b3, b4⟩ := b; unfold F22; simp only; rw [R6 _ _ h, Option.bind_some]; by_cases h1 : a1 = b1 <;> by_cases h2 : a2 = b2 <;> by_cases h3 : a3 = b3 <;> by_cases h4 : a4 = b4 <;> simp [h1, h2, h3, h4]
theorem R8 (a b : S25) (h : a.Ax.length ≤ 1000000) : F14 a b = some (decide (a = b)) := by
 obtain ⟨a1, a3, a4⟩ := a; obtain ⟨b1, b3, b4⟩ := b; unfold F14; simp only; rw [R6 _ _ h, Option.bind_some]; by_cases h1 : a1 = b1 <;> by_cases h3 : a3 = b3 <;> by_cases h4 : a4 = b4 <;> simp [h1, h3, h4]
end Go.Idl
namespace Go.Idl
open Go
theorem Kf : ∀ s : Str, Lib.index s [13, 10] = match AM s with | some p => (p.1.length : Int) | none => -1
  | [] => by simp [Lib.index, AM]
  | [x] => by
    unfold Lib.index
    simp [Lib.index, AM, List.isPrefixOf]
  | x :: y :: s => by
    have ih := Kf (y :: s)
    unfold Lib.index
    rw [ih, AM]
    by_cases h : x = 13 ∧ y = 10
    · rw [if_pos h]
      simp [List.isPrefixOf, h.1, h.2]
    · rw [if_neg h]
      have : ¬ (List.isPrefixOf [13, 10] (x :: y :: s)) = true := by
        simp only [List.isPrefixOf, Bool.and_true, Bool.and_eq_true, beq_iff_eq]
        rintro ⟨h1, h2⟩
        exact h ⟨h1.symm, h2.symm⟩
      rw [if_neg this]
      cases hc : AM (y :: s) with
      | none => simp
      | some p =>
        have : ¬ ((p.1.length : Int) == -1) = true := by simp
        simp only [Option.map_some, List.length_cons]
        rw [if_neg this]
        simp
theorem P9 (s : Str) : K2 s [13, 10] = match AM s with | some p => (p.1, p.2, true) | none => (s, [], false) := by
 unfold K2; rw [Kf]; cases h : AM s with
 | none => simp
 | some p =>
  have hc := E7 (a := p.1) (b := p.2) h; simp only; rw [if_pos (by omega), Int.toNat_natCast]
  conv => lhs; rw [hc]
  simp
abbrev rd (b : Str) : AQ := ⟨⟨b⟩⟩
theorem GY (b : Str) (h : b.length ≤ 4294967280) : F64 (rd b) = some (match AM b with | some p => .ok (p.1, rd p.2) | none => .error ()) := by
 unfold F64 F88; rw [Ad (by simp only; omega), Ad ⟨by simp, by simp⟩, Option.bind_some]; simp only; rw [P9]; cases AM b with
 | none => simp
 | some p => simp
theorem NU (b : Str) (n : Nat) (h : b.length ≤ 1000000000) : F91 (rd b) (n : Int) = some (if n ≤ b.length then .ok (b.take n, rd (b.drop n)) else .error ()) := by
 unfold F91; by_cases hn : n ≤ b.length
 ·simp only; rw [if_pos (by omega), Ad (by omega), Ad (by omega), Int.toNat_natCast, if_pos hn]; unfold UO; rw [Ad (by rw [List.length_take]; omega)]; rfl
 ·simp only; rw [if_neg (by omega), if_neg hn]
theorem Ge : ∀ (m : List Hd) (n : Str), C3 m n = Cg m n
  | [], n => rfl
  | x :: m, n => by
    have ih := Ge m n
    unfold C3
    unfold Cg at ih ⊢
    rw [List.find?_cons]
    by_cases h : x.1 = n
    · rw [if_pos h]; simp [h]
    · rw [if_neg h, ih]; simp [h]
theorem Kg (m : List Hd) (n : Str) : (m.any fun y => decide (y.1 = n)) = (C3 m n).isSome := by
 rw [Ge]; unfold Cg; rw [Option.isSome_map, Bool.eq_iff_iff, List.find?_isSome]; simp
theorem MO : ∀ {m : List Hd} {k v : Str}, C3 m k = none → Nf m k v = m ++ [(k, v)]
  | [], _, _, _ => rfl
  | p :: m, k, v, h => by
    unfold C3 at h
    unfold Nf
    split at h
    · cases h
    · rename_i e
      rw [if_neg e, MO h]
      rfl
theorem Kh (s : Str) : (trimS s).length ≤ s.length := by
 obtain ⟨a, m, b, e, h1, h2, h3, h4⟩ := Kc Cv s; rw [e, Mn a b m h1 h2 h3 h4]; simp; omega
theorem IB (m : List Hd) (s : Str) : FJ m s = (Cu s 58).bind fun p => if Ct p.1 = true ∧ Cw (trimS p.2) = true ∧ ¬ (C3 m (CI p.1)).isSome = true then some (CI p.1, trimS p.2) else none := by
 unfold FJ O7; cases Cu s 58 with
 | none => rfl
 | some p =>
  simp only [Option.bind_some]; by_cases h1 : Ct p.1 = true <;> by_cases h2 : Cw (trimS p.2) = true <;> simp only [h1, h2, Bool.and_true, Bool.true_and, Bool.and_false, Bool.false_and, if_true, if_false, Option.bind_some, Option.bind_none, Kg, true_and, false_and, Bool.false_eq_true]; by_cases h3 : (C3 m (CI p.1)).isSome = true
  ·simp [h3]
  ·rw [if_neg h3, if_pos h3]
def E1 (m : List Hd) (v r : Str) : Option (List Hd × Str) := if v = [] then some (m, r) else (FJ m v).bind fun x => CB (m ++ [x]) r
theorem Ki (m : List Hd) (s : Str) : CB m s = (AM s).bind fun p => E1 m p.1 p.2 := CG m s
theorem Vs (s : Str) (h : s.length ≤ 1000000) : F89 s [58] = some (match Cu s 58 with | some p => (p.1, p.2, true) | none => (s, [], false)) := by
 unfold F89; rw [Ad (by omega), Sd]; cases Cu s 58 <;> rfl
abbrev E65 := (AQ × List Hd) ⊕ (Except Unit (List Hd × AQ))
def R9 (x : Option (List Hd × Str)) : E65 := match x with | some q => .inl (rd q.2, q.1) | none => .inr (.error ())
theorem Og (v r : Str) (m : List Hd) (hv : v.length ≤ 1000000) (hr : r.length ≤ 1000000) (h0 : ¬ v = []) :
    FT v (rd r) m = some (match FJ m v with | none => .inr (.inr (.error ())) | some x => match AM r with | none => .inr (.inr (.error ())) | some p => .inl (p.1, rd p.2, m ++ [x])) := by
 unfold FT; rw [if_pos h0, Vs v hv, Option.bind_some, IB]; cases hc : Cu v 58 with
 | none =>
  simp only [Option.bind_none]; rw [TA _ (by simp), Option.bind_some, Iy _ hv, Option.bind_some]; simp
 | some p =>
  have hl := Hz (a := p.1) (b := p.2) hc; have ht := Kh p.2; simp only [Option.bind_some]; rw [TA _ (by omega), Option.bind_some, Iy _ (by omega), Option.bind_some, if_pos trivial, QS _ (by omega), Option.bind_some]; by_cases h1 : Ct p.1 = true
  case neg => simp [h1]
  rw [if_pos h1, QZ _ (by omega), Option.bind_some]; by_cases h2 : Cw (trimS p.2) = true
  case neg => simp [h2]
  rw [if_pos h2]; by_cases h3 : (C3 m (CI p.1)).isSome = true
  case pos =>
   rw [if_neg (fun q => q h3)]; simp [h3]
  rw [if_pos h3, Option.bind_some, if_pos ⟨h1, h2, h3⟩, GY _ (by omega), Option.bind_some]; have hm : C3 m (CI p.1) = none := by simpa using h3
  cases AM r with
  | none => rfl
  | some q =>
   simp only [orP]; rw [MO hm]
theorem Ra : ∀ (k : Nat) (r v : Str) (m : List Hd), r.length ≤ k → v.length ≤ 1000000 → r.length ≤ 1000000 → AH (fun (s : (List UInt8) × AQ × (List (List UInt8 × (List UInt8)))) => FT s.1 s.2.1 s.2.2) (v, rd r, m) = some (R9 (E1 m v r)) := by
 have done : ∀ (r : Str) (m : List Hd), AH (fun (s : (List UInt8) × AQ × (List (List UInt8 × (List UInt8)))) => FT s.1 s.2.1 s.2.2) ([], rd r, m) = some (R9 (E1 m [] r)) := fun r m => by
  refine Aj ?_; simp only [FT]; rw [if_neg (by simp)]; simp [E1, R9]
 intro k
 induction k with
 | zero =>
  intro r v m hk hv hr; by_cases h0 : v = []
  ·subst h0; exact done r m
  ·have : r = [] := List.length_eq_zero_iff.1 (by omega); subst this; refine Aj ?_; simp only; rw [Og v [] m hv hr h0, E1, if_neg h0]; cases FJ m v with
   | none => rfl
   | some x =>
    simp only [Option.bind_some]; rw [CG]; rfl
 | succ k ih =>
  intro r v m hk hv hr; by_cases h0 : v = []
  ·subst h0; exact done r m
  ·cases hT : FJ m v with
   | none =>
    refine Aj ?_; simp only; rw [Og v r m hv hr h0, E1, if_neg h0, hT]; rfl
   | some x =>
    cases hL : AM r with
    | none =>
     refine Aj ?_; simp only; rw [Og v r m hv hr h0, E1, if_neg h0, hT, hL]; simp only [Option.bind_some]; rw [CG, hL]; rfl
    | some p =>
     have hl := Bs (a := p.1) (b := p.2) hL; rw [Bz (s' := (p.1, rd p.2, m ++ [x])) (by simp only; rw [Og v r m hv hr h0, hT, hL]), ih _ _ _ (by omega) (by omega) (by omega)]; rw [E1, E1, if_neg h0, hT, Option.bind_some, Ki, hL, Option.bind_some, E1]
theorem Rb (b : Str) (h : b.length ≤ 1000000) : F65 (rd b) = some (match CB [] b with | some q => .ok (q.1, rd q.2) | none => .error ()) := by
 unfold F65; rw [GY b (by omega), Option.bind_some, Ki]; cases hL : AM b with
 | none => rfl
 | some p =>
  have hl := Bs (a := p.1) (b := p.2) hL; simp only [orP, Option.bind_some]; rw [Ra p.2.length p.2 p.1 [] (Nat.le_refl _) (by omega) (by omega)]; cases E1 [] p.1 p.2 with
  | none => rfl
  | some q => rfl
end Go.Idl
namespace Go.Idl
open Go
def FY : Str := [48, 49, 50, 51, 52, 53, 54, 55, 56, 57, 97, 98, 99, 100, 101, 102, 65, 66, 67, 68, 69, 70]
theorem Rc : ∀ x : Fin 256, FY.contains (UInt8.ofNat x.1) = (DU (UInt8.ofNat x.1)).isSome := by decide +kernel
theorem SP (x : UInt8) : FY.contains x = (DU x).isSome := by
 have := Rc ⟨x.toNat, x.toNat_lt⟩; simpa only [UInt8.ofNat_toNat] using this
theorem L3 : ∀ (s : Str) (n : Nat), (GO n s).isSome = true ↔ ∀ x ∈ s, (DU x).isSome = true
  | [], n => by simp [GO]
  | x :: s, n => by
    rw [GO]
    cases h : DU x with
    | none => simp [h]
    | some d => simp [h, L3 s]
theorem LR {x : UInt8} {d : Nat} (h : DU x = some d) : d < 16 := by
 unfold DU at h; have := x.toNat_lt; split at h
 ·cases h; omega
 ·split at h
  ·cases h; omega
  ·split at h
   ·cases h; omega
   ·cases h
theorem Oh : ∀ (s : Str) (n : Nat), (n + 1) * 16 ^ s.length ≤ 4294967296 → puG n s = match GO n s with | some m => (m, 0) | none => (0, 2)
  | [], n, _ => rfl
  | x :: s, n, h => by
    rw [puG, GO]
    cases hx : DU x with
    | none => rfl
    | some d =>
      have hd := LR hx
      simp only [Option.bind_some]
      rw [List.length_cons, Nat.pow_succ] at h
      have h1 : 1 ≤ 16 ^ s.length := Nat.pos_of_ne_zero (by simp)
      have h2 : (16 * n + d + 1) * 16 ^ s.length ≤ 4294967296 := by
        refine Nat.le_trans (Nat.mul_le_mul_right _ (show 16 * n + d + 1 ≤ (n + 1) * 16 by omega)) ?_
        rw [Nat.mul_assoc, Nat.mul_comm 16]; exact h
      have h3 : 16 * n + d + 1 ≤ 4294967296 := Nat.le_trans (Nat.le_mul_of_pos_right _ (by omega)) h2
      rw [if_neg (by omega)]
      exact Oh s _ h2
theorem SQ (s : Str) (h1 : 1 ≤ s.length) (h2 : s.length ≤ 5) : puS s = match Fj s with | some m => (m, 0) | none => (0, 2) := by
 unfold puS Fj; rw [if_neg (by rintro rfl; simp at h1), if_pos ⟨h1, h2⟩]; refine Oh s 0 ?_; have : 16 ^ s.length ≤ 16 ^ 5 := Nat.pow_le_pow_right (by omega) h2; simp only [Nat.zero_add, Nat.one_mul]; omega
theorem SR (s : Str) (h : s.length ≤ 1000000) : F80 s FY = some (Lib.trimS s FY) := by
 unfold F80; rw [Ad (by omega), Ad ⟨by simp [FY], by decide⟩]
theorem Re {s : Str} (h : ∀ x ∈ s, (DU x).isSome = true) : Lib.trimS s FY = [] := by
 have := Jm FY s [] [] (fun x hx => by rw [SP]; exact h x hx) (by simp) (by simp) (by simp); simpa using this
theorem Oi : ∀ (s : Str) (n m : Nat), GO n s = some m → m < (n + 1) * 16 ^ s.length
  | [], n, m, h => by simp [GO] at h; subst h; simp
  | x :: s, n, m, h => by
    rw [GO] at h
    obtain ⟨d, h1, h2⟩ := Option.bind_eq_some_iff.1 h
    have hd := LR h1
    have := Oi s _ _ h2
    rw [List.length_cons, Nat.pow_succ]
    refine Nat.lt_of_lt_of_le this ?_
    rw [show (n + 1) * (16 ^ s.length * 16) = ((n + 1) * 16) * 16 ^ s.length by rw [Nat.mul_assoc, Nat.mul_comm 16]]
    exact Nat.mul_le_mul_right _ (by omega)
theorem Oj {s : Str} {m : Nat} (h : Fj s = some m) : m < 1048576 ∧ 1 ≤ s.length ∧ s.length ≤ 5 := by
 unfold Fj at h; split at h
 ·rename_i hl; have := Oi s 0 m h; have h5 : 16 ^ s.length ≤ 16 ^ 5 := Nat.pow_le_pow_right (by omega) hl.2; omega
 ·cases h
theorem XM (acc s : Str) (ha : acc.length + s.length ≤ 1000000) : FU acc (rd s) = some (match AM s with
    | none => .inr (.error ())
    | some p => match Fj p.1 with
      | none => .inr (.error ())
      | some n => if n = 0 then (if p.1 = [48] then (match AM p.2 with | none => .inr (.error ()) | some q => if q.1 = [] then .inr (.ok (acc, rd q.2)) else .inr (.error ())) else .inr (.error ()))
        else if n ≤ p.2.length then (match AM (p.2.drop n) with | none => .inr (.error ()) | some q => if q.1 = [] then .inl (acc ++ p.2.take n, rd q.2) else .inr (.error ())) else .inr (.error ())) := by
  unfold FU
  rw [GY s (by omega), Option.bind_some]
  cases hL : AM s with
  | none => rfl
  | some p =>
    have hl := Bs (a := p.1) (b := p.2) hL
    simp only [orP]
    unfold UR
    rw [Ad ⟨rfl, rfl⟩, Ad (by omega), Option.bind_some]
    by_cases h1 : (1 : Int) ≤ p.1.length
    case neg =>
      have hn : Fj p.1 = none := by unfold Fj; rw [if_neg (by omega)]
      rw [hn]
      simp only
      by_cases q : decide (¬ (puS p.1).2 = 0) = true
      · rw [if_neg (by simpa using q)]
      · rw [if_pos q, if_neg h1]
    by_cases h2 : (p.1.length : Int) ≤ 5
    case neg =>
      have hn : Fj p.1 = none := by unfold Fj; rw [if_neg (by omega)]
      rw [hn]
      simp only
      by_cases q : decide (¬ (puS p.1).2 = 0) = true
      · rw [if_neg (by simpa using q)]
      · rw [if_pos q, if_pos h1, if_neg h2]
    rw [SQ p.1 (by omega) (by omega)]
    cases hn : Fj p.1 with
    | none => simp
    | some n =>
      have hlt := Oj hn
      have hall : ∀ x ∈ p.1, (DU x).isSome = true := by
        unfold Fj at hn
        rw [if_pos (by omega)] at hn
        exact (L3 _ _).1 (by rw [hn]; rfl)
      simp only
      rw [if_pos (by simp), if_pos h1, if_pos h2, show ([48, 49, 50, 51, 52, 53, 54, 55, 56, 57, 97, 98, 99, 100, 101, 102, 65, 66, 67, 68, 69, 70] : Str) = FY from rfl, SR _ (by omega), Re hall, Option.bind_some, if_pos rfl]
      by_cases h0 : n = 0
      · rw [if_pos (by omega), if_pos h0]
        by_cases h48 : p.1 = [48]
        · rw [if_pos h48, if_pos h48, GY p.2 (by omega), Option.bind_some]
          cases AM p.2 with
          | none => rfl
          | some q =>
            simp only
            split <;> rfl
        · rw [if_neg h48, if_neg h48]
      · rw [if_neg (by omega), if_neg h0, wrap_i64 (by omega) (by omega), NU p.2 n (by omega), Option.bind_some]
        by_cases hle : n ≤ p.2.length
        · rw [if_pos hle, if_pos hle]
          simp only
          rw [Ad (by rw [List.length_take]; omega), GY _ (by rw [List.length_drop]; omega), Option.bind_some]
          cases AM (p.2.drop n) with
          | none => rfl
          | some q =>
            simp only
            split <;> rfl
        · rw [if_neg hle, if_neg hle]
theorem Rf : ∀ (k : Nat) (s acc : Str), s.length ≤ k → acc.length + s.length ≤ 1000000 → AH (fun (s : (List UInt8) × AQ) => FU s.1 s.2) (acc, rd s) = some (match CC acc s with | some q => .ok (q.1, rd q.2) | none => .error ()) := by
 have one : ∀ (s acc : Str), acc.length + s.length ≤ 1000000 → (∀ (acc' s' : Str), s'.length + 2 ≤ s.length → acc'.length + s'.length ≤ 1000000 → AH (fun (s : (List UInt8) × AQ) => FU s.1 s.2) (acc', rd s') = some (match CC acc' s' with | some q => .ok (q.1, rd q.2) | none => .error ())) →
  AH (fun (s : (List UInt8) × AQ) => FU s.1 s.2) (acc, rd s) = some (match CC acc s with | some q => .ok (q.1, rd q.2) | none => .error ()) := by
  intro s acc ha ih; have hb := XM acc s ha; rw [DD]; cases hL : AM s with
  | none =>
   rw [hL] at hb; exact Aj hb
  | some p =>
   have hl := Bs (a := p.1) (b := p.2) hL; rw [hL] at hb; simp only [Option.bind_some] at hb ⊢; cases hn : Fj p.1 with
   | none =>
    rw [hn] at hb; exact Aj hb
   | some n =>
    rw [hn] at hb; simp only [Option.bind_some] at hb ⊢; by_cases h0 : n = 0
    ·rw [if_pos h0] at hb ⊢; by_cases h48 : p.1 = [48]
     ·rw [if_pos h48] at hb ⊢; cases hL2 : AM p.2 with
      | none => rw [hL2] at hb; exact Aj hb
      | some q =>
       rw [hL2] at hb; simp only [Option.bind_some] at hb ⊢; by_cases hq : q.1 = []
       ·rw [if_pos hq] at hb ⊢; exact Aj hb
       ·rw [if_neg hq] at hb ⊢; exact Aj hb
     ·rw [if_neg h48] at hb ⊢; exact Aj hb
    ·rw [if_neg h0] at hb ⊢; by_cases hle : n ≤ p.2.length
     ·rw [if_pos hle] at hb ⊢; cases hL2 : AM (p.2.drop n) with
      | none => rw [hL2] at hb; exact Aj hb
      | some q =>
       have hl2 := Bs (a := q.1) (b := q.2) hL2; rw [List.length_drop] at hl2; rw [hL2] at hb; simp only [Option.bind_some] at hb ⊢; by_cases hq : q.1 = []
       ·rw [if_pos hq] at hb ⊢; have h5 : (acc ++ p.2.take n).length + q.2.length ≤ 1000000 := by rw [List.length_append, List.length_take]; omega
        have h6 := ih (acc ++ p.2.take n) q.2 (by omega) h5; rw [← h6]; exact Bz (s' := (acc ++ p.2.take n, rd q.2)) hb
       ·rw [if_neg hq] at hb ⊢; exact Aj hb
     ·rw [if_neg hle] at hb ⊢; exact Aj hb
 intro k
 induction k with
 | zero => intro s acc hk ha; exact one s acc ha fun acc' s' h _ => by omega
 | succ k ih => intro s acc hk ha; exact one s acc ha fun acc' s' h h2 => ih s' acc' (by omega) h2
theorem Vt (s : Str) (h : s.length ≤ 1000000) : F90 (rd s) = some (match CC [] s with | some q => .ok (q.1, rd q.2) | none => .error ()) := by
 unfold F90; rw [Rf s.length s [] (Nat.le_refl _) (by simpa using h)]; rfl
theorem EF : ∀ {m : List Hd} {n : Str}, BV m → CT m n = m.filter fun h => decide (h.1 ≠ n)
  | [], _, _ => rfl
  | x :: m, n, h => by
    rw [BV, List.pairwise_cons] at h
    unfold CT
    rw [List.filter_cons]
    by_cases e : x.1 = n
    · rw [if_pos e, if_neg (by simpa using e)]
      symm
      refine List.filter_eq_self.2 fun y hy => ?_
      have := h.1 y hy
      simp only [decide_eq_true_eq]
      rw [← e]; exact Ne.symm this
    · rw [if_neg e, if_pos (by simpa using e), EF h.2]
theorem Rg {m : List Hd} (h : BV m) : CT (CT m CU) D3 = CD m := by
 have h2 : BV (CT m CU) := by rw [EF h]; exact List.Pairwise.filter _ h
 rw [EF h2, EF h, List.filter_filter]; unfold CD; congr 1; funext x; rw [Bool.and_comm]
theorem Rh (n : Str) (h : ¬ (CO n).2 = true) : (CO n).1 ≤ 9223372036854775807 := by
 unfold CO at h ⊢; cases hA : Lib.atoiAll n with
 | ok v =>
  simp only; unfold Lib.atoiAll at hA; split at hA
  ·cases hA
  ·simp only at hA; split at hA
   ·cases hA
   ·cases hA
   ·split at hA
    ·cases hA
    ·split at hA
     ·cases hA
     ·simp only [Lib.NumEnd.ok.injEq] at hA; rw [← hA]; split <;> omega
 | range => rw [hA] at h; simp at h
 | _ => rw [hA] at h; simp at h
theorem Pa (n : Str) (b : Str) (hn : n.length ≤ 1000000) (hb : b.length ≤ 1000000) {α : Type} (g : Str × AQ → α) (e0 : α) :
    ((F33 n).bind fun (x21 : Int × Bool) => if ¬ x21.2 = true then (if 0 ≤ x21.1 then ((F29 x21.1).bind fun (x23 : (List UInt8)) => if x23 = n then ((F91 (rd b) x21.1).bind fun (x26 : Except Unit ((List UInt8) × AQ)) => orP x26 (fun _ => some e0) (fun y => some (g y))) else (some e0)) else (some e0)) else (some e0)) =
    some (match (DY n).bind fun k => if k ≤ b.length then some (b.take k, b.drop k) else none with | some q => g (q.1, rd q.2) | none => e0) := by
 unfold F33; rw [Ad (by omega), Option.bind_some]; cases hN : DY n with
 | some k =>
  obtain ⟨hk, rfl⟩ := G5.1 hN; rw [Mm k (by omega)]; simp only [Option.bind_some]; rw [if_pos (by simp), if_pos (by omega), HS k hk, Option.bind_some, if_pos rfl, NU b k (by omega), Option.bind_some]; by_cases hle : k ≤ b.length
  ·rw [if_pos hle, if_pos hle]; rfl
  ·rw [if_neg hle, if_neg hle]; rfl
 | none =>
  simp only [Option.bind_none]; by_cases h1 : (CO n).2 = true
  ·rw [if_neg (by simpa using h1)]
  ·rw [if_pos h1]; by_cases h2 : 0 ≤ (CO n).1
   ·rw [if_pos h2]; obtain ⟨v, hv⟩ : ∃ v : Nat, (CO n).1 = (v : Int) := ⟨(CO n).1.toNat, by omega⟩; rw [hv]; by_cases hsm : v ≤ 1000000000
    ·rw [HS v hsm, Option.bind_some, if_neg]; intro e; rw [← e, FL hsm] at hN; cases hN
    ·unfold F29; by_cases hmax : (v : Int) ≤ 9223372036854775807
     ·rw [Ad ⟨by omega, hmax⟩, Option.bind_some]; by_cases e : Lib.itoa (v : Int) = n
      ·rw [if_pos e, NU b v (by omega), Option.bind_some, if_neg (by omega)]; rfl
      ·rw [if_neg e]
     ·exfalso; exact hmax (by rw [← hv]; exact Rh n h1)
   ·rw [if_neg h2]
end Go.Idl
namespace Go.Idl
open Go
set_option maxRecDepth 100000
abbrev E66 := Except Unit (Str × AQ × List Hd)
def Kj (m : List Hd) (x : Option (Str × Str)) : E66 := match x with | some q => .ok (q.1, rd q.2, CD m) | none => .error ()
theorem Ri (b : Str) (m : List Hd) (hb : b.length ≤ 1000000) (hm : BV m) (hv : ∀ x ∈ m, x.2.length ≤ 1000000) : F66 (rd b) m = some (Kj m (EV m b)) := by
 have hget : ∀ n v, Cg m n = some v → v.length ≤ 1000000 := fun n v h => by
  unfold Cg at h; obtain ⟨x, h1, rfl⟩ := Option.map_eq_some_iff.1 h; exact hv x (List.mem_of_find?_eq_some h1)
 have hown : CT (CT m ([99, 111, 110, 116, 101, 110, 116, 45, 108, 101, 110, 103, 116, 104] : Str)) ([116, 114, 97, 110, 115, 102, 101, 114, 45, 101, 110, 99, 111, 100, 105, 110, 103] : Str) = CD m := Rg hm; have g1 : C3 m ([99, 111, 110, 116, 101, 110, 116, 45, 108, 101, 110, 103, 116, 104] : Str) = Cg m CU := Ge m CU; have g2 : C3 m ([116, 114, 97, 110, 115, 102, 101, 114, 45, 101, 110, 99, 111, 100, 105, 110, 103] : Str) = Cg m D3 := Ge m D3; unfold F66 EV; rw [hown, g1, g2]; cases hl : Cg m CU with
 | none =>
  cases he : Cg m D3 with
  | none =>
   simp [Kj]
  | some c =>
   have hc := hget _ _ he; simp only [Option.isSome_none, Option.isSome_some, Option.getD_some, Bool.false_eq_true, not_false_eq_true, if_true]; rw [Iy _ hc, Option.bind_some]; by_cases h1 : CI c = JS
   ·rw [if_pos (show c.map D2 = [99, 104, 117, 110, 107, 101, 100] from h1), if_pos h1, Vt b hb, Option.bind_some]; cases CC [] b with
    | none => rfl
    | some q => rfl
   ·rw [if_neg (show ¬ c.map D2 = [99, 104, 117, 110, 107, 101, 100] from h1), if_neg h1]; rfl
 | some n =>
  have hn := hget _ _ hl; cases he : Cg m D3 with
  | some c => simp [Kj]
  | none =>
   simp only [Option.isSome_none, Option.isSome_some, Option.getD_some, Bool.false_eq_true, not_true_eq_false, not_false_eq_true, if_true, if_false]; have := Pa n b hn hb (fun y => (.ok (y.1, y.2, CD m) : E66)) (.error ()); rw [this]; cases (DY n).bind fun k => if k ≤ b.length then some (b.take k, b.drop k) else none with
   | none => rfl
   | some q => rfl
theorem GZ {m : List Hd} (h : BV m) : BV (CD m) := List.Pairwise.filter _ h
theorem F1 (l : List Hd) : (AX l).length = l.length := by
 have key : ∀ (l a : List Hd), (l.foldl Gj a).length = a.length + l.length := by
  intro l
  induction l with
  | nil => intro a; rfl
  | cons h l ih =>
   intro a; have hins : ∀ a : List Hd, (Gj a h).length = a.length + 1 := by
    intro a
    induction a with
    | nil => rfl
    | cons y a ih => simp only [Gj]; split <;> simp [ih]
   rw [List.foldl_cons, ih, hins, List.length_cons]; omega
 rw [AX, key]; simp
theorem Rj (m : List Hd) (hl : m.length ≤ 1000000) (h : BV m) : F67 m = some ((AX m).map toS) := by
 unfold F67; rw [Ad hl, Ad h]
theorem Pb : ∀ (k : Nat) (s : Str) (acc : List Hd) (l : List Hd) (r : Str), s.length ≤ k → BV acc → CB acc s = some (l, r) →
    BV l ∧ l.length ≤ acc.length + s.length ∧ r.length ≤ s.length ∧ ∀ x ∈ l, x ∈ acc ∨ (Ct x.1 = true ∧ CI x.1 = x.1 ∧ Cw x.2 = true ∧ x.1.length + x.2.length ≤ s.length) := by
 intro k
 induction k with
 | zero =>
  intro s acc l r hk ha h; rw [List.length_eq_zero_iff.1 (Nat.le_zero.1 hk), CG] at h; cases h
 | succ k ih =>
  intro s acc l r hk ha h; rw [CG] at h; obtain ⟨p, h1, h⟩ := Option.bind_eq_some_iff.1 h; have hl := Bs (a := p.1) (b := p.2) h1; split at h
  ·cases h; exact ⟨ha, by omega, by omega, fun x hx => .inl hx⟩
  ·obtain ⟨x, h2, h⟩ := Option.bind_eq_some_iff.1 h; rw [IB] at h2; obtain ⟨q, h3, h2⟩ := Option.bind_eq_some_iff.1 h2; split at h2
   ·rename_i hc; cases h2; have hq := Hz (a := q.1) (b := q.2) h3; have ht := Kh q.2; have hnew : BV (acc ++ [(CI q.1, trimS q.2)]) := by
     rw [BV, List.pairwise_append]; refine ⟨ha, by simp, fun y hy z hz => ?_⟩; rw [List.mem_singleton.1 hz]; intro e; refine hc.2.2 ?_; rw [← Kg]; exact List.any_eq_true.2 ⟨y, hy, by simpa using e⟩
    obtain ⟨r1, r2, r3, r4⟩ := ih p.2 _ l r (by omega) hnew h; refine ⟨r1, by simp at r2; omega, by omega, fun y hy => ?_⟩; rcases r4 y hy with h5 | ⟨h5, h6, h7, h8⟩
    ·rcases List.mem_append.1 h5 with h5 | h5
     ·exact .inl h5
     ·rw [List.mem_singleton.1 h5]; refine .inr ⟨by rw [KS]; exact hc.1, Mo _, hc.2.1, ?_⟩; simp only [CI, List.length_map]; omega
    ·exact .inr ⟨h5, h6, h7, by omega⟩
   ·cases h2
theorem G_ {s : Str} {l : List Hd} {r : Str} (h : CB [] s = some (l, r)) : BV l ∧ l.length ≤ s.length ∧ r.length ≤ s.length ∧ ∀ x ∈ l, Ct x.1 = true ∧ CI x.1 = x.1 ∧ Cw x.2 = true ∧ x.1.length + x.2.length ≤ s.length := by
 obtain ⟨h1, h2, h3, h4⟩ := Pb s.length s [] l r (Nat.le_refl _) List.Pairwise.nil h; exact ⟨h1, by simpa using h2, h3, fun x hx => (h4 x hx).resolve_left (by simp)⟩
theorem Kk {m : List Hd} {s b r : Str} (h : EV m s = some (b, r)) (k : Nat) (hk : s.length ≤ k) : b.length ≤ k ∧ r.length ≤ k := by
 have chunk : ∀ (k : Nat) (s acc b r : Str), s.length ≤ k → CC acc s = some (b, r) → b.length ≤ acc.length + s.length ∧ r.length ≤ s.length := by
  intro k
  induction k with
  | zero =>
   intro s acc b r hk h; rw [List.length_eq_zero_iff.1 (Nat.le_zero.1 hk), DD] at h; cases h
  | succ k ih =>
   intro s acc b r hk h; rw [DD] at h; obtain ⟨p, h1, h⟩ := Option.bind_eq_some_iff.1 h; have hl := Bs (a := p.1) (b := p.2) h1; obtain ⟨n, h2, h⟩ := Option.bind_eq_some_iff.1 h; split at h
   ·split at h
    ·obtain ⟨q, h3, h⟩ := Option.bind_eq_some_iff.1 h; have hl2 := Bs (a := q.1) (b := q.2) h3; split at h
     ·cases h; omega
     ·cases h
    ·cases h
   ·split at h
    ·obtain ⟨q, h3, h⟩ := Option.bind_eq_some_iff.1 h; have hl2 := Bs (a := q.1) (b := q.2) h3; rw [List.length_drop] at hl2; split at h
     ·have := ih q.2 _ b r (by omega) h; rw [List.length_append, List.length_take] at this; omega
     ·cases h
    ·cases h
 unfold EV at h; split at h
 ·cases h
 ·split at h
  ·have := chunk s.length s [] b r (Nat.le_refl _) h; simp only [List.length_nil] at this; omega
  ·cases h
 ·cases h; simp; omega
 ·obtain ⟨j, h1, h⟩ := Option.bind_eq_some_iff.1 h; split at h
  ·cases h; rw [List.length_take, List.length_drop]; omega
  ·cases h
theorem Rk (n : Int) : F26 n = some (decide (100 ≤ n ∧ n ≤ 599)) := by
 unfold F26; by_cases h : 100 ≤ n
 ·rw [if_pos h]; congr 1; rw [decide_eq_decide]; omega
 ·rw [if_neg h, decide_eq_false (by omega)]
theorem Vu (s p : Str) (h : s.length ≤ 1000000) (hp : p.length ≤ 1000) : F31 s p = some (if s.take p.length = p ∧ p.length ≤ s.length then (s.drop p.length, true) else (s, false)) := by
 unfold F31 F60 F82; by_cases h1 : p.length ≤ s.length
 ·rw [if_pos (by omega), Ad (by omega), Ad (by omega), Option.bind_some, Int.toNat_natCast]; by_cases h2 : s.take p.length = p
  ·rw [if_neg (by simpa using h2), Ad (by omega), Ad (by omega), if_pos ⟨h2, h1⟩]; rfl
  ·rw [if_pos (by simpa using h2), if_neg (fun q => h2 q.1)]; rfl
 ·rw [if_neg (by omega), Option.bind_some, if_pos (by simp), if_neg (fun q => h1 q.2)]; rfl
theorem Vv (s : Str) (h : s.length ≤ 1000000) : F30 s = some (match Du s with | some n => .ok ⟨(n : Int), [], []⟩ | none => .error ()) := by
 unfold F30; rw [Vu s _ h (by simp), Option.bind_some]; have hp : ([72, 84, 84, 80, 47, 49, 46, 49, 32] : Str) = Fo ++ [32] := rfl; rw [hp]; have hl9 : (Fo ++ [32]).length = 9 := rfl; rw [hl9]; unfold Du; by_cases h1 : s.take 9 = Fo ++ [32]
 case neg =>
  have hc : ¬ (s.take 9 = Fo ++ [32] ∧ 9 ≤ s.length) := fun q => h1 q.1; have hd : ¬ (s.take 9 = Fo ++ [32] ∧ 12 ≤ s.length) := fun q => h1 q.1; simp only [if_neg hc, if_neg hd, Bool.false_eq_true, if_false]
 have h9 : 9 ≤ s.length := by
  have := congrArg List.length h1; rw [List.length_take, hl9] at this; omega
 simp only [if_pos (show s.take 9 = Fo ++ [32] ∧ 9 ≤ s.length from ⟨h1, h9⟩), if_true]; by_cases h2 : 12 ≤ s.length
 case neg => rw [if_neg (by rw [List.length_drop]; omega), if_neg (fun q => h2 q.2)]
 rw [if_pos (by rw [List.length_drop]; omega), if_pos ⟨h1, h2⟩, Ad (by omega), Ad (by rw [List.length_drop]; omega)]; rw [List.drop_drop]; generalize hT : (s.drop 9).take 3 = T; have hTl : T.length = 3 := by rw [← hT, List.length_take, List.length_drop]; omega
 generalize hR : s.drop (9 + 3) = R; have hRl : R.length ≤ 1000000 := by rw [← hR, List.length_drop]; omega
 unfold F33; rw [Ad (by omega), Option.bind_some]; have tail : ∀ n : Nat, (if R = [] then (some ((.ok (⟨(n : Int), [], []⟩ : S25) : Except Unit S25))) else (gd (0 < R.length) (if (((R.getD 0 0).toNat : Int)) = 32 then ((KZ R).bind fun (x16 : Bool) => if x16 = true then (some ((.ok (⟨(n : Int), [], []⟩ : S25)))) else (some (.error ()))) else (some (.error ()))))) = some (if FX R = true then .ok ⟨(n : Int), [], []⟩ else .error ()) := by
  intro n; unfold FX; by_cases h3 : R = []
  ·rw [if_pos h3]; simp [h3]
  ·have : 0 < R.length := List.length_pos_iff.2 h3; rw [if_neg h3, Ad this, QV R (by omega)]; by_cases h4 : R.getD 0 0 = 32
   ·rw [if_pos (D7.2 h4), Option.bind_some, decide_eq_false h3, decide_eq_true h4]; cases BX 32 126 R <;> rfl
   ·rw [if_neg (fun q => h4 (D7.1 q)), decide_eq_false h3, decide_eq_false h4]; rfl
 cases hN : DY T with
 | some k =>
  obtain ⟨hk, rfl⟩ := G5.1 hN; rw [Mm k (by omega)]; simp only [Bool.false_eq_true, not_false_eq_true, if_true, Option.bind_some]; rw [Rk, Option.bind_some]; by_cases hc : 100 ≤ k ∧ k ≤ 599
  ·rw [if_pos (by simp; omega), HS k hk, Option.bind_some, if_pos rfl, tail k]; by_cases hr : FX R = true
   ·rw [if_pos hr, if_pos ⟨hc.1, hc.2, hr⟩]
   ·rw [if_neg hr, if_neg (fun q => hr q.2.2)]
  ·rw [if_neg (by simp; omega), if_neg (fun q => hc ⟨q.1, q.2.1⟩)]
 | none =>
  simp only [Option.bind_none]; by_cases h3 : (CO T).2 = true
  ·rw [if_neg (by simpa using h3)]
  ·rw [if_pos h3, Rk, Option.bind_some]; by_cases hc : 100 ≤ (CO T).1 ∧ (CO T).1 ≤ 599
   ·obtain ⟨v, hv⟩ : ∃ v : Nat, (CO T).1 = (v : Int) := ⟨(CO T).1.toNat, by omega⟩; rw [hv] at hc ⊢; rw [if_pos (by simp; omega), HS v (by omega), Option.bind_some, if_neg]; intro e; rw [← e, FL (by omega)] at hN; cases hN
   ·rw [if_neg (by simpa using hc)]
end Go.Idl
namespace Go.Idl
open Go
set_option maxRecDepth 100000
theorem NV (c : UInt8) (k : Nat) (s : Str) : Lib.splitK [c] 0 (k + 1) s = match Cu s c with | some p => p.1 :: Lib.splitK [c] 0 k p.2 | none => [s] := by
 rw [Lib.splitK, index_one]; cases h : Cu s c with
 | none => simp
 | some p =>
  obtain ⟨h1, _⟩ := DB.1 (show Cu s c = some (p.1, p.2) from h); simp only; rw [if_neg (by simp)]; simp [h1]
theorem Pc (c : UInt8) (s : Str) : Lib.count s [c] = match Cu s c with | some p => Lib.count p.2 [c] + 1 | none => 0 := by
 cases h : Cu s c with
 | none =>
  have : Lib.index s [c] = -1 := by rw [index_one, h]
  exact Lib.count_miss this
 | some p =>
  have hi : Lib.index s [c] = (p.1.length : Int) := by rw [index_one, h]
  obtain ⟨h1, _⟩ := DB.1 (show Cu s c = some (p.1, p.2) from h); have := Lib.count_hit (s := s) (sub := [c]) (by simp) hi; simp only; rw [this, h1]; simp [Nat.add_comm]
theorem CH (c : UInt8) (s : Str) : Lib.split s [c] = match Cu s c with | some p => p.1 :: Lib.split p.2 [c] | none => [s] := by
 unfold Lib.split; rw [Pc]; cases h : Cu s c with
 | none => rfl
 | some p =>
  simp only; rw [NV, h]
theorem Rl (c : UInt8) (s : Str) : Lib.split s [c] ≠ [] := by
 rw [CH]; cases Cu s c <;> simp
theorem Vw (s : Str) (h : s.length ≤ 1000000) : F49 s = some (match FW s with | some x => .ok ⟨x.1, x.2, [], []⟩ | none => .error ()) := by
 unfold F49 F50; rw [Ad (by omega), Ad (by simp)]; unfold FW; cases h1 : Cu s 32 with
 | none =>
  have hs : Lib.split s [32] = [s] := by rw [CH, h1]
  rw [hs, Option.bind_some]; simp
 | some p =>
  have l1 := Hz (a := p.1) (b := p.2) h1; simp only [Option.bind_some]; cases h2 : Cu p.2 32 with
  | none =>
   have hs : Lib.split s [32] = [p.1, p.2] := by rw [CH, h1]; simp only; rw [CH, h2]
   rw [hs]; simp
  | some q =>
   have l2 := Hz (a := q.1) (b := q.2) h2; simp only [Option.bind_some]; cases h3 : Cu q.2 32 with
   | some t =>
    have hv : ¬ q.2 = Fo := by
     intro e; rw [e] at h3; have : Cu Fo 32 = none := by decide
     rw [this] at h3; cases h3
    have hs : Lib.split s [32] = p.1 :: q.1 :: t.1 :: Lib.split t.2 [32] := by
     rw [CH, h1]; simp only; rw [CH, h2]; simp only; rw [CH, h3]
    have hne := Rl 32 t.2; have hlen : 0 < (Lib.split t.2 [32]).length := List.length_pos_iff.2 hne; rw [hs, if_neg (by simp only [List.length_cons]; omega), if_neg (fun e => hv e.1)]
   | none =>
    have hs : Lib.split s [32] = [p.1, q.1, q.2] := by
     rw [CH, h1]; simp only; rw [CH, h2]; simp only; rw [CH, h3]
    rw [hs]; simp only [List.length_cons, List.length_nil, List.getD_cons_zero, List.getD_cons_succ]; rw [if_pos (by omega), Ad (by omega), QW _ (by omega), Option.bind_some]; by_cases m1 : DN p.1 = true
    case neg => rw [if_neg m1, if_neg (fun e => m1 e.2.1)]
    rw [if_pos m1, Ad (by omega), QX _ (by omega), Option.bind_some]; by_cases m2 : Gy q.1 = true
    case neg => rw [if_neg m2, if_neg (fun e => m2 e.2.2)]
    rw [if_pos m2, Ad (by omega)]; by_cases m3 : q.2 = Fo
    ·rw [if_pos (show q.2 = [72, 84, 84, 80, 47, 49, 46, 49] from m3), if_pos ⟨m3, m1, m2⟩]
    ·rw [if_neg (show ¬ q.2 = [72, 84, 84, 80, 47, 49, 46, 49] from m3), if_neg (fun e => m3 e.1)]
theorem F2 {ε α β : Type} {x : Option (Except ε α)} {a : α} {p : ε → Option β} {k : α → Option β} (h : x = some (.ok a)) : (x.bind fun y => orP y p k) = k a := by subst h; rfl
theorem J7 {ε α β : Type} {x : Option (Except ε α)} {e : ε} {p : ε → Option β} {k : α → Option β} (h : x = some (.error e)) : (x.bind fun y => orP y p k) = p e := by subst h; rfl
theorem L4 {α β : Type} {x : Option α} {a : α} {k : α → Option β} (h : x = some a) : x.bind k = k a := by subst h; rfl
theorem Vx (b : Str) (h : b.length ≤ 1000000) : F36 b = some (match CY Du b with | some x => ((⟨(x.1 : Int), x.2.1.map toS, x.2.2⟩ : S25), 0) | none => ((⟨0, [], []⟩ : S25), 220)) := by
 have e64 := GY b (by omega); unfold F36 CY; cases h1 : AM b with
 | none =>
  rw [h1] at e64; rw [J7 e64, Option.bind_none]
 | some p =>
  rw [h1] at e64; have l1 := Bs (a := p.1) (b := p.2) h1; rw [F2 e64, Option.bind_some]; have e30 := Vv p.1 (by omega); cases h2 : Du p.1 with
  | none =>
   rw [h2] at e30; rw [J7 e30, Option.bind_none]
  | some c =>
   rw [h2] at e30; rw [F2 e30, Option.bind_some]; have e65 := Rb p.2 (by omega); cases h3 : CB [] p.2 with
   | none =>
    rw [h3] at e65; rw [J7 e65, Option.bind_none]
   | some q =>
    rw [h3] at e65; obtain ⟨n1, n2, n3, n4⟩ := G_ (l := q.1) (r := q.2) h3; rw [F2 e65, Option.bind_some]; have e66 := Ri q.2 q.1 (by omega) n1 (fun x hx => by have := (n4 x hx).2.2.2; omega); cases h4 : EV q.1 q.2 with
    | none =>
     rw [h4, Kj] at e66; rw [J7 e66, Option.bind_none]
    | some r =>
     rw [h4, Kj] at e66; have hbl := Kk (b := r.1) (r := r.2) h4 1000000 (by omega); have hol : (CD q.1).length ≤ q.1.length := List.length_filter_le _ _; have hsm : IA ((AX (CD q.1)).map toS) := by
      refine ⟨by rw [List.length_map, F1]; omega, fun x hx => ?_⟩; obtain ⟨y, hy, rfl⟩ := List.mem_map.1 hx; have hy := (n4 y (List.mem_filter.1 ((Cl _ _).1 hy)).1).2.2.2; simp only [toS]; omega
     rw [F2 e66, Option.bind_some]; have e67 := Rj (CD q.1) (by omega) (GZ n1); have e27 := NT ((AX (CD q.1)).map toS) r.1 hsm; rw [D1] at e27; by_cases h5 : r.2 = []
     ·have h5' : ((rd r.2).BA.fb.length : Int) = 0 := by rw [h5]; rfl
      rw [if_pos h5', L4 e67, L4 e27]; by_cases h6 : D5 (AX (CD q.1)) r.1 = true
      ·rw [if_pos h6, if_pos ⟨h5, h6⟩, L4 e67, F37, Option.bind_some]
      ·rw [if_neg h6, if_neg (fun e => h6 e.2)]
     ·have : ¬ ((rd r.2).BA.fb.length : Int) = 0 := by
       intro e; have e : (r.2.length : Int) = 0 := e; exact h5 (List.length_eq_zero_iff.1 (by omega))
      rw [if_neg this, if_neg (fun e => h5 e.1)]
theorem Vy (b : Str) (h : b.length ≤ 1000000) : F51 b = some (match CY FW b with | some x => ((⟨x.1.1, x.1.2, x.2.1.map toS, x.2.2⟩ : S42), 0) | none => ((⟨[], [], [], []⟩ : S42), 220)) := by
 have e64 := GY b (by omega); unfold F51 CY; cases h1 : AM b with
 | none =>
  rw [h1] at e64; rw [J7 e64, Option.bind_none]
 | some p =>
  rw [h1] at e64; have l1 := Bs (a := p.1) (b := p.2) h1; rw [F2 e64, Option.bind_some]; have e30 := Vw p.1 (by omega); cases h2 : FW p.1 with
  | none =>
   rw [h2] at e30; rw [J7 e30, Option.bind_none]
  | some c =>
   rw [h2] at e30; rw [F2 e30, Option.bind_some]; have e65 := Rb p.2 (by omega); cases h3 : CB [] p.2 with
   | none =>
    rw [h3] at e65; rw [J7 e65, Option.bind_none]
   | some q =>
    rw [h3] at e65; obtain ⟨n1, n2, n3, n4⟩ := G_ (l := q.1) (r := q.2) h3; rw [F2 e65, Option.bind_some]; have e66 := Ri q.2 q.1 (by omega) n1 (fun x hx => by have := (n4 x hx).2.2.2; omega); cases h4 : EV q.1 q.2 with
    | none =>
     rw [h4, Kj] at e66; rw [J7 e66, Option.bind_none]
    | some r =>
     rw [h4, Kj] at e66; have hbl := Kk (b := r.1) (r := r.2) h4 1000000 (by omega); have hol : (CD q.1).length ≤ q.1.length := List.length_filter_le _ _; have hsm : IA ((AX (CD q.1)).map toS) := by
      refine ⟨by rw [List.length_map, F1]; omega, fun x hx => ?_⟩; obtain ⟨y, hy, rfl⟩ := List.mem_map.1 hx; have hy := (n4 y (List.mem_filter.1 ((Cl _ _).1 hy)).1).2.2.2; simp only [toS]; omega
     rw [F2 e66, Option.bind_some]; have e67 := Rj (CD q.1) (by omega) (GZ n1); have e27 := NT ((AX (CD q.1)).map toS) r.1 hsm; rw [D1] at e27; by_cases h5 : r.2 = []
     ·have h5' : ((rd r.2).BA.fb.length : Int) = 0 := by rw [h5]; rfl
      rw [if_pos h5', L4 e67, L4 e27]; by_cases h6 : D5 (AX (CD q.1)) r.1 = true
      ·rw [if_pos h6, if_pos ⟨h5, h6⟩, L4 e67, F52, Option.bind_some]
      ·rw [if_neg h6, if_neg (fun e => h6 e.2)]
     ·have : ¬ ((rd r.2).BA.fb.length : Int) = 0 := by
       intro e; have e : (r.2.length : Int) = 0 := e; exact h5 (List.length_eq_zero_iff.1 (by omega))
      rw [if_neg this, if_neg (fun e => h5 e.1)]
noncomputable def LS (b : Str) : S25 × Int := match CY Du b with | some x => (⟨(x.1 : Int), x.2.1.map toS, x.2.2⟩, 0) | none => (⟨0, [], []⟩, 220)
noncomputable def MP (b : Str) : S42 × Int := match CY FW b with | some x => (⟨x.1.1, x.1.2, x.2.1.map toS, x.2.2⟩, 0) | none => (⟨[], [], [], []⟩, 220)
theorem Rm (b : Str) (h : b.length ≤ 1000000) : F11 b = some (.ok (LS b)) := by
 unfold F11; rw [Vx b h, Option.bind_some]; rfl
theorem Vz (b : Str) (h : b.length ≤ 1000000) : F20 b = some (.ok (MP b)) := by
 unfold F20; rw [Vy b h, Option.bind_some]; rfl
def Kl : Str := [72, 84, 84, 80, 47, 49, 46, 49, 32, 50, 48, 52, 32, 78, 111, 13, 10, 13, 10]
theorem MQ : CY Du Kl = some (204, [], []) := by
 have hf : Du ([72, 84, 84, 80, 47, 49, 46, 49, 32, 50, 48, 52, 32, 78, 111] : Str) = some 204 := by
  unfold Du; rw [if_pos (by decide)]; have : DY ((([72, 84, 84, 80, 47, 49, 46, 49, 32, 50, 48, 52, 32, 78, 111] : Str).drop 9).take 3) = some 204 := by
   have h := FL (n := 204) (by omega); rw [XK (c := 204) (by omega)] at h; exact h
  rw [this, Option.bind_some, if_pos (by decide)]
 have h := P5 (first := Du) (f := [72, 84, 84, 80, 47, 49, 46, 49, 32, 50, 48, 52, 32, 78, 111]) (x := 204) (by decide) hf [] [] (by simp) (by simp); have e : ([72, 84, 84, 80, 47, 49, 46, 49, 32, 50, 48, 52, 32, 78, 111] : Str) ++ 13 :: 10 :: (([] : List (Str × Hd)).flatMap (fun y => y.1 ++ [13, 10]) ++ 13 :: 10 :: []) = Kl := rfl; rw [e] at h; rw [h]; have hb : EV (([] : List (Str × Hd)).map (·.2)) [] = some ([], []) := by
  unfold EV; rfl
 rw [hb, Option.bind_some, if_pos ⟨rfl, by decide⟩]; rfl
theorem Ro : F9 = some (.ok true) := by
 have hq := Vr ⟨[80, 85, 84], [47, 97], [], [120]⟩ (by simp) (by simp) ⟨by simp, by simp⟩ (by simp) (by
   have : (Em [80, 85, 84] [47, 97] [] [120]).length ≤ 1000000000 := by
     unfold Em J4 C5 QN
     have := ML (n := 1) (by omega)
     simp [Fo, CU]
     omega
   exact this)
 have hh : (DN [80, 85, 84] && Gy [47, 97] && D5 (([] : List S55).map toH) [120]) = true := by decide
 rw [if_pos hh] at hq; have hr : Em [80, 85, 84] [47, 97] (([] : List S55).map toH) [120] = [80, 85, 84, 32, 47, 97, 32, 72, 84, 84, 80, 47, 49, 46, 49, 13, 10, 99, 111, 110, 116, 101, 110, 116, 45, 108, 101, 110, 103, 116, 104, 58, 32, 49, 13, 10, 13, 10, 120] := by
  have : Lib.decDigits 1 = [49] := by rw [Lib.decDigits, dif_pos (by omega)]; rfl
  simp [Em, J4, C5, QN, this, Fo, CU]
 have h2 := Rm Kl (by simp [Kl]); have h3 : LS Kl = (⟨204, [], []⟩, 0) := by unfold LS; rw [MQ]; rfl
 rw [h3] at h2; unfold F9; rw [hq, Option.bind_some]; rw [show F11 ([72, 84, 84, 80, 47, 49, 46, 49, 32, 50, 48, 52, 32, 78, 111, 13, 10, 13, 10] : List UInt8) = _ from h2, Option.bind_some]; simp only [orP]; rw [if_pos trivial, if_pos hr, if_pos trivial]; rfl
end Go.Idl
namespace Go.Idl
open Go
set_option maxRecDepth 100000
end Go.Idl
namespace Go.Idl
open Go
set_option maxRecDepth 100000
theorem J8 {s : Str} (h : s.length ≤ 1) : AM s = none := by
 match s, h with
 | [], _ => rfl
 | [_], _ => rfl
theorem Km {x : UInt8} : (x.toNat : Int) = 13 ↔ x = 13 := by
 constructor
 ·intro h; exact UInt8.toNat_inj.1 (by show x.toNat = 13; omega)
 ·rintro rfl; rfl
theorem LU {x : UInt8} : (x.toNat : Int) = 10 ↔ x = 10 := by
 constructor
 ·intro h; exact UInt8.toNat_inj.1 (by show x.toNat = 10; omega)
 ·rintro rfl; rfl
theorem Ol {x : UInt8} : (x.toNat : Int) = 9 ↔ x = 9 := by
 constructor
 ·intro h; exact UInt8.toNat_inj.1 (by show x.toNat = 9; omega)
 ·rintro rfl; rfl
theorem Rp {x : UInt8} : (x.toNat : Int) = 58 ↔ x = 58 := by
 constructor
 ·intro h; exact UInt8.toNat_inj.1 (by show x.toNat = 58; omega)
 ·rintro rfl; rfl
theorem Rq (b : Str) (a : Nat) (hb : b.length ≤ 1000000) : ∀ (k i : Nat), b.length - i ≤ k → a ≤ i → i ≤ b.length → AH (fun (s : Int) => EM b (a : Int) s) (i : Int) = some (match AM (b.drop i) with | some p => .inr ((b.take (i + p.1.length)).drop a, ((i + p.1.length + 2 : Nat) : Int)) | none => .inl ()) := by
 intro k
 induction k with
 | zero =>
  intro i hk ha hi; rw [J8 (by rw [List.length_drop]; omega)]; refine Aj ?_; show EM b a i = _; unfold EM; rw [Bq (by omega), if_neg (by omega)]
 | succ k ih =>
  intro i hk ha hi; by_cases h1 : i + 1 < b.length
  case neg =>
   rw [J8 (by rw [List.length_drop]; omega)]; refine Aj ?_; show EM b a i = _; unfold EM; rw [Bq (by omega), if_neg (by omega)]
  have e0 : b.drop i = b[i] :: b.drop (i + 1) := List.drop_eq_getElem_cons (by omega); have e1 : b.drop (i + 1) = b[i + 1] :: b.drop (i + 1 + 1) := List.drop_eq_getElem_cons h1; have step : EM b a i = if b[i] = 13 ∧ b[i + 1] = 10 then some (.inr (.inr ((b.take i).drop a, ((i + 2 : Nat) : Int)))) else some (.inl ((i + 1 : Nat) : Int)) := by
   unfold EM; rw [Bq (by omega), if_pos (by omega), Ad (by omega), Int.toNat_natCast, getD_some (by omega), Ad (by omega), Int.toNat_natCast, getD_some h1]; by_cases c1 : b[i] = 13
   case neg => rw [if_neg (fun e => c1 (Km.1 e)), if_neg (fun e => c1 e.1)]
   by_cases c2 : b[i + 1] = 10
   case neg => rw [if_pos (Km.2 c1), if_neg (fun e => c2 (LU.1 e)), if_neg (fun e => c2 e.2)]
   rw [if_pos (Km.2 c1), if_pos (LU.2 c2), Ad (by omega), Ad (by omega), Ad (by omega), if_pos ⟨c1, c2⟩, wrap_i64 (by omega) (by omega)]; rfl
  rw [e0, e1]; rw [AM]; by_cases c : b[i] = 13 ∧ b[i + 1] = 10
  ·rw [if_pos c] at step ⊢; refine Aj ?_; exact step
  ·rw [if_neg c] at step ⊢; refine (Bz (s' := ((i + 1 : Nat) : Int)) step).trans ?_; rw [ih (i + 1) (by omega) (by omega) (by omega), e1]; cases AM (b[i + 1] :: b.drop (i + 1 + 1)) with
   | none => rfl
   | some p =>
    simp only [Option.map_some, List.length_cons]; rw [show i + 1 + p.1.length = i + (p.1.length + 1) by omega]
theorem H6 (b : Str) (a : Nat) (hb : b.length ≤ 1000000) (ha : a ≤ b.length) : F53 b (a : Int) = some (match AM (b.drop a) with | some p => (p.1, ((a + p.1.length + 2 : Nat) : Int)) | none => ([], -1)) := by
 unfold F53; rw [Rq b a hb b.length a (by omega) (Nat.le_refl _) ha, Option.bind_some]; cases h : AM (b.drop a) with
 | none => rfl
 | some p =>
  have hc := E7 (a := p.1) (b := p.2) h; have e : (b.take (a + p.1.length)).drop a = p.1 := by
   rw [← List.take_drop, hc, List.take_left' rfl]
  show some ((b.take (a + p.1.length)).drop a, _) = _; rw [e]
theorem F3 {b : Str} {a : Nat} {p : Str × Str} (h : AM (b.drop a) = some p) : b.drop (a + p.1.length + 2) = p.2 ∧ a + p.1.length + 2 + p.2.length = b.length := by
 have hc := E7 (a := p.1) (b := p.2) h; have hl := Bs (a := p.1) (b := p.2) h; rw [List.length_drop] at hl; refine ⟨?_, by omega⟩; rw [Nat.add_assoc, ← List.drop_drop, hc]; have : p.1 ++ 13 :: 10 :: p.2 = (p.1 ++ [13, 10]) ++ p.2 := by simp
 rw [this, List.drop_left' (by simp)]
theorem Ea {x : UInt8} : Cv x = true ↔ x = 32 ∨ x = 9 := by simp [Cv]
theorem Kn : ∀ (s : Str), s.length ≤ 1000000 → AH (fun (s : Str) => Ga s) s = some (s.dropWhile Cv)
  | [], _ => Aj rfl
  | x :: s, h => by
    have ih := Kn s (by simp only [List.length_cons] at h; omega)
    have step : Ga (x :: s) = if Cv x = true then some (.inl s) else some (.inr (x :: s)) := by
      unfold Ga
      rw [if_pos (by simp only [List.length_cons]; omega), Ad (by simp), List.getD_cons_zero, Ad (by simp), List.drop_one, List.tail_cons]
      by_cases c1 : x = 32
      · rw [if_pos (D7.2 c1), if_pos (Ea.2 (.inl c1))]
      rw [if_neg (fun e => c1 (D7.1 e))]
      by_cases c2 : x = 9
      · rw [if_pos (Ol.2 c2), if_pos (Ea.2 (.inr c2))]
      rw [if_neg (fun e => c2 (Ol.1 e)), if_neg (fun e => by rcases Ea.1 e with e | e; exact c1 e; exact c2 e)]
    rw [List.dropWhile_cons]
    by_cases c : Cv x = true
    · rw [if_pos c] at step ⊢
      exact (Bz (s' := s) step).trans ih
    · rw [if_neg c] at step ⊢
      exact Aj step
theorem NW : ∀ (k : Nat) (s : Str), s.length ≤ k → s.length ≤ 1000000 → AH (fun (s : Str) => G9 s) s = some (s.reverse.dropWhile Cv).reverse := by
 intro k
 induction k with
 | zero =>
  intro s h _; have : s = [] := List.length_eq_zero_iff.1 (Nat.le_zero.1 h); subst this; exact Aj rfl
 | succ k ih =>
  intro s hk h; rcases List.eq_nil_or_concat s with rfl | ⟨t, x, rfl⟩
  ·exact Aj rfl
  simp only [List.concat_eq_append, List.length_append, List.length_cons, List.length_nil] at hk h ⊢; have step : G9 (t ++ [x]) = if Cv x = true then some (.inl t) else some (.inr (t ++ [x])) := by
   unfold G9; have el : (((t ++ [x]).length : Nat) : Int) - 1 = ((t.length : Nat) : Int) := by simp
   have eg : (t ++ [x]).getD t.length 0 = x := by simp
   have et : (t ++ [x]).take t.length = t := List.take_left' rfl; rw [if_pos (by simp only [List.length_append, List.length_cons, List.length_nil]; omega), el, wrap_i64 (by omega) (by omega), Ad (by simp only [List.length_append, List.length_cons, List.length_nil]; omega), Int.toNat_natCast, eg, et, Ad (by omega), Ad (by simp only [List.length_append, List.length_cons, List.length_nil]; omega)]; by_cases c1 : x = 32
   ·rw [if_pos (D7.2 c1), if_pos (Ea.2 (.inl c1))]
   rw [if_neg (fun e => c1 (D7.1 e))]; by_cases c2 : x = 9
   ·rw [if_pos (Ol.2 c2), if_pos (Ea.2 (.inr c2))]
   rw [if_neg (fun e => c2 (Ol.1 e)), if_neg (fun e => by rcases Ea.1 e with e | e; exact c1 e; exact c2 e)]
  rw [List.reverse_append, List.reverse_cons, List.reverse_nil, List.nil_append, List.cons_append, List.nil_append, List.dropWhile_cons]; by_cases c : Cv x = true
  ·rw [if_pos c] at step ⊢; exact (Bz (s' := t) step).trans (ih t (by omega) (by omega))
  ·rw [if_neg c] at step ⊢; refine Aj (step.trans ?_); simp
theorem MR (s : Str) : (s.dropWhile Cv).length ≤ s.length := (List.dropWhile_sublist _).length_le
theorem SS (s : Str) (h : s.length ≤ 1000000) : P4 s = some (trimS s) := by
 unfold P4; rw [Kn s h, Option.bind_some]; unfold Jl; rw [NW s.length _ (MR s) (by have := MR s; omega), Option.bind_some]; rfl
def CJ (c : UInt8) (s : Str) : Nat := (s.takeWhile fun x => x != c).length
theorem HT {c : UInt8} : ∀ (s : Str), match Cu s c with | some p => CJ c s < s.length ∧ s.take (CJ c s) = p.1 ∧ s.drop (CJ c s + 1) = p.2 | none => CJ c s = s.length
  | [] => rfl
  | x :: s => by
    have ih := HT (c := c) s
    unfold CJ at ih ⊢
    rw [Cu, List.takeWhile_cons]
    by_cases h : x = c
    · rw [if_pos h, if_neg (by simp [h])]
      simp
    · rw [if_neg h, if_pos (by simp [h])]
      cases hc : Cu s c with
      | none =>
        rw [hc] at ih
        simp only at ih
        simp only [Option.map_none, List.length_cons]
        omega
      | some p =>
        rw [hc] at ih
        obtain ⟨h1, h2, h3⟩ := ih
        simp only [Option.map_some, List.length_cons]
        refine ⟨by omega, ?_, ?_⟩
        · rw [List.take_succ_cons, h2]
        · rw [List.drop_succ_cons, h3]
theorem Om {c : UInt8} : ∀ {s : Str} {i : Nat} (h : i < s.length), i < CJ c s → s[i] ≠ c
  | [], i, h, _ => by simp at h
  | x :: s, i, h, hi => by
    unfold CJ at hi
    rw [List.takeWhile_cons] at hi
    by_cases hx : x = c
    · rw [if_neg (by simp [hx])] at hi
      simp at hi
    · rw [if_pos (by simp [hx]), List.length_cons] at hi
      cases i with
      | zero => exact hx
      | succ j =>
        have : j < (s.takeWhile fun x => x != c).length := by omega
        exact Om (s := s) (by simpa using h) this
theorem VA {c : UInt8} {s : Str} (h : CJ c s < s.length) : s[CJ c s] = c := by
 have key := HT (c := c) s; cases hc : Cu s c with
 | none => rw [hc] at key; simp only at key; omega
 | some p =>
  rw [hc] at key; obtain ⟨h1, h2, h3⟩ := key; have e := (DB (s := s) (a := p.1) (b := p.2)).1 hc; have hl : p.1.length = CJ c s := by rw [← h2, List.length_take]; omega
  have : s[CJ c s]? = some c := by
   rw [← hl, e.1]; simp
  rw [List.getElem?_eq_getElem h] at this; exact Option.some.inj this
theorem Pd (x8 : Str × Int) (out : List S55) (h : x8.1.length ≤ 1000000) : ∀ (k i : Nat), x8.1.length - i ≤ k → i ≤ CJ 58 x8.1 → i ≤ x8.1.length → AH (fun (s : (List S55) × Int) => C_ x8 s.1 s.2) (out, (i : Int)) = some (out, (CJ 58 x8.1 : Int)) := by
 have hle : CJ 58 x8.1 ≤ x8.1.length := (List.takeWhile_sublist _).length_le; intro k
 induction k with
 | zero =>
  intro i hk h1 h2; have : i = CJ 58 x8.1 := by omega
  refine Aj ?_; show C_ x8 out i = _; unfold C_; rw [if_neg (by omega), this]
 | succ k ih =>
  intro i hk h1 h2; by_cases hi : i < x8.1.length
  case neg =>
   have : i = CJ 58 x8.1 := by omega
   refine Aj ?_; show C_ x8 out i = _; unfold C_; rw [if_neg (by omega), this]
  by_cases he : i = CJ 58 x8.1
  ·refine Aj ?_; show C_ x8 out i = _; unfold C_; have hc : x8.1[i] = 58 := by
    have := VA (c := 58) (s := x8.1) (by omega); simp only [he]; exact this
   rw [if_pos (by omega), Ad (by omega), Int.toNat_natCast, getD_some hi, if_neg (fun e => e (Rp.2 hc)), he]
  ·have hne := Om (c := 58) hi (by omega); refine (Bz (s' := (out, ((i + 1 : Nat) : Int))) ?_).trans (ih (i + 1) (by omega) (by omega) (by omega)); show C_ x8 out i = _; unfold C_; rw [if_pos (by omega), Ad (by omega), Int.toNat_natCast, getD_some hi, if_pos (fun e => hne (Rp.1 e)), Bq (by omega)]
end Go.Idl
namespace Go.Idl
open Go
set_option maxRecDepth 100000
theorem Rr (n : Str) (h : S55) : ∀ (k : Nat) (A B : List S55), A.length ≤ k → (A ++ h :: B).length ≤ 1000000 → ∃ A' C, A = A' ++ C ∧ AH (fun (s : (List S55) × Int) => EC n s.1 s.2) (A ++ h :: B, (A.length : Int)) = some (A' ++ h :: (C ++ B), (A'.length : Int)) ∧
    (∀ c ∈ C, ¬ lt8 c.fName n ∧ ¬ c.fName = n) ∧ (∀ A0 z, A' = A0 ++ [z] → lt8 z.fName n ∨ z.fName = n) := by
 intro k
 induction k with
 | zero =>
  intro A B hk _; have : A = [] := List.length_eq_zero_iff.1 (Nat.le_zero.1 hk); subst this; exact ⟨[], [], rfl, Aj rfl, by simp, fun A0 z e => by simp at e⟩
 | succ k ih =>
  intro A B hk hl; rcases List.eq_nil_or_concat A with rfl | ⟨A0, y, rfl⟩
  ·exact ⟨[], [], rfl, Aj rfl, by simp, fun A0 z e => by simp at e⟩
  rw [List.concat_eq_append] at *; have hA : (A0 ++ [y]).length = A0.length + 1 := by simp
  have hT : (A0 ++ [y] ++ h :: B).length = A0.length + B.length + 2 := by simp; omega
  have e1 : (((A0 ++ [y]).length : Nat) : Int) - 1 = ((A0.length : Nat) : Int) := by rw [hA]; omega
  have g1 : (A0 ++ [y] ++ h :: B).getD A0.length S55.zero = y := by simp
  have g2 : (A0 ++ [y] ++ h :: B).getD (A0.length + 1) S55.zero = h := by
   have : A0 ++ [y] ++ h :: B = (A0 ++ [y]) ++ (h :: B) := rfl; rw [this, List.getD_eq_getElem?_getD, List.getElem?_append_right (by simp)]; simp
  have s1 : ((A0 ++ [y] ++ h :: B).set (A0.length + 1) y).set A0.length h = A0 ++ h :: ([y] ++ B) := by
   rw [List.append_assoc, List.set_append_right _ _ (by omega), List.set_append_right _ _ (by omega)]; have : A0.length + 1 - A0.length = 1 := by omega
   rw [this, Nat.sub_self]; rfl
  have step : EC n (A0 ++ [y] ++ h :: B) (((A0 ++ [y]).length : Nat) : Int) = if (Op.bytesLess y.fName n || decide (y.fName = n)) = true then some (.inr (A0 ++ [y] ++ h :: B, (((A0 ++ [y]).length : Nat) : Int))) else some (.inl (A0 ++ h :: ([y] ++ B), ((A0.length : Nat) : Int))) := by
   unfold EC; rw [if_pos (by omega), e1, wrap_i64 (by omega) (by omega), Ad (by omega), Int.toNat_natCast, g1, Int.toNat_natCast, hA, g2]; by_cases c : (Op.bytesLess y.fName n || decide (y.fName = n)) = true
   ·rw [if_neg (fun e => e c), if_pos c]
   ·rw [if_pos c, if_neg c, Ad (by omega), s1, Ad (by rw [List.length_set]; omega)]
  by_cases c : (Op.bytesLess y.fName n || decide (y.fName = n)) = true
  ·rw [if_pos c] at step; refine ⟨A0 ++ [y], [], by simp, Aj step, by simp, fun A1 z e => ?_⟩; obtain ⟨_, e2⟩ := List.append_inj' e rfl; cases e2; simpa [lt8] using c
  ·rw [if_neg c] at step; obtain ⟨A', C, q1, q2, q3, q4⟩ := ih A0 ([y] ++ B) (by omega) (by rw [hT] at hl; simp only [List.length_append, List.length_cons, List.length_nil]; omega); refine ⟨A', C ++ [y], by rw [q1, List.append_assoc], ?_, ?_, q4⟩
   ·refine (Bz (s' := (A0 ++ h :: ([y] ++ B), ((A0.length : Nat) : Int))) step).trans ?_; rw [q2, List.append_assoc]
   ·intro z hz; rcases List.mem_append.1 hz with hz | hz
    ·exact q3 z hz
    ·rw [List.mem_singleton.1 hz]; simp only [Bool.or_eq_true, decide_eq_true_eq, not_or] at c; exact c
theorem Pe {A0 C : List S55} {z : S55} (hr : C6 ((A0 ++ [z] ++ C).map toH)) : ∀ y ∈ A0 ++ [z], y = z ∨ lt8 y.fName z.fName := by
 intro y hy; rcases List.mem_append.1 hy with hy | hy
 ·rw [List.map_append, List.map_append] at hr; have h1 := (List.pairwise_append.1 hr).1; have h2 := (List.pairwise_append.1 h1).2.2; exact .inr (h2 (toH y) (List.mem_map_of_mem hy) (toH z) (by simp))
 ·exact .inl (List.mem_singleton.1 hy)
theorem HU {ws : List Hd} {n : Str} : (C3 ws n).isSome = true ↔ ∃ y ∈ ws, y.1 = n := by
 rw [← Kg]; simp
theorem VB {out : List S55} {ws : List Hd} (e : out.map toH = AX ws) {n : Str} : (C3 ws n).isSome = true ↔ ∃ y ∈ out, y.fName = n := by
 rw [HU]; constructor
 ·rintro ⟨y, hy, rfl⟩
  have : y ∈ out.map toH := by rw [e]; exact (Cl _ _).2 hy
  obtain ⟨z, hz, rfl⟩ := List.mem_map.1 this; exact ⟨z, hz, rfl⟩
 ·rintro ⟨y, hy, rfl⟩
  have : toH y ∈ AX ws := by rw [← e]; exact List.mem_map_of_mem hy
  exact ⟨toH y, (Cl _ _).1 this, rfl⟩
theorem Rs {out : List S55} {ws : List Hd} (e : out.map toH = AX ws) (hd : BV ws) (n v : Str) (hl : out.length ≤ 500000) :
    ∃ L i, AH (fun (s : (List S55) × Int) => EC n s.1 s.2) (out ++ [(⟨n, v⟩ : S55)], (out.length : Int)) = some (L, i) ∧
      ∀ x8 : Str × Int, Gb x8 n L i = if (C3 ws n).isSome = true then some (.inr ([], -1)) else some (.inl (x8.2, ((AX (ws ++ [(n, v)])).map toS))) := by
 obtain ⟨A, C, q1, q2, q3, q4⟩ := Rr n ⟨n, v⟩ out.length out [] (Nat.le_refl _) (by simp; omega); refine ⟨_, _, q2, fun x8 => ?_⟩; have hr : C6 ((A ++ C).map toH) := by rw [← q1, e]; exact DE hd
 have hm := VB e (n := n); have hlen : A.length + C.length = out.length := by rw [q1, List.length_append]
 unfold Gb; by_cases hA : A = []
 ·subst hA; have hno : ¬ (C3 ws n).isSome = true := by
   rw [hm]
   rintro ⟨y, hy, hn⟩
   rw [q1, List.nil_append] at hy; exact (q3 y hy).2 hn
  rw [if_neg (by simp), if_neg hno]; congr 3; have hsort : AX (ws ++ [(n, v)]) = (([] ++ (⟨n, v⟩ : S55) :: (C ++ [])).map toH) := by
   refine FK ?_ ?_ fun x => ?_
   ·rw [List.nil_append, List.append_nil, List.map_cons, C6, List.pairwise_cons]; refine ⟨fun y hy => ?_, hr⟩; obtain ⟨z, hz, rfl⟩ := List.mem_map.1 hy; exact Jh (q3 z hz).1 (q3 z hz).2
   ·rw [BV, List.pairwise_append]; refine ⟨hd, by simp, fun a ha b hb => ?_⟩; rw [List.mem_singleton.1 hb]; exact fun q => hno (HU.2 ⟨a, ha, q⟩)
   ·rw [List.mem_append, ← Cl ws, ← e, q1]; simp only [List.nil_append, List.append_nil, List.map_cons, List.mem_cons, List.not_mem_nil, or_false]; exact or_comm
  rw [hsort, Jn]
 ·obtain ⟨A0, z, rfl⟩ : ∃ A0 z, A = A0 ++ [z] := by
   rcases List.eq_nil_or_concat A with h | ⟨A0, z, h⟩
   ·exact absurd h hA
   ·exact ⟨A0, z, by rw [h, List.concat_eq_append]⟩
  have hz := q4 A0 z rfl; have hlast := Pe hr; have hA1 : (A0 ++ [z]).length = A0.length + 1 := by simp
  have e1 : (((A0 ++ [z]).length : Nat) : Int) - 1 = ((A0.length : Nat) : Int) := by rw [hA1]; omega
  have g1 : (A0 ++ [z] ++ (⟨n, v⟩ : S55) :: (C ++ [])).getD A0.length S55.zero = z := by simp
  rw [if_pos (by omega), e1, wrap_i64 (by omega) (by omega), Int.toNat_natCast, g1, Ad ⟨by omega, by simp only [List.length_append, List.length_cons]; omega⟩]; by_cases hn : z.fName = n
  ·rw [if_pos hn, if_pos (hm.2 ⟨z, by rw [q1]; simp, hn⟩)]
  ·have hzl : lt8 z.fName n := hz.resolve_right hn; have hall : ∀ y ∈ A0 ++ [z], lt8 y.fName n := fun y hy => by
    rcases hlast y hy with rfl | h
    ·exact hzl
    ·exact EW h hzl
   have hno : ¬ (C3 ws n).isSome = true := by
    rw [hm]
    rintro ⟨y, hy, hn⟩
    rw [q1] at hy; rcases List.mem_append.1 hy with hy | hy
    ·have := hall y hy; rw [hn] at this; exact D4 _ this
    ·exact (q3 y hy).2 hn
   rw [if_neg hn, if_neg hno]; congr 3; have hsort : AX (ws ++ [(n, v)]) = (((A0 ++ [z]) ++ (⟨n, v⟩ : S55) :: (C ++ [])).map toH) := by
    rw [List.map_append] at hr; obtain ⟨r1, r2, r3⟩ := List.pairwise_append.1 hr; refine FK ?_ ?_ fun x => ?_
    ·rw [List.append_nil, List.map_append, List.map_cons, C6, List.pairwise_append, List.pairwise_cons]; refine ⟨r1, ⟨fun y hy => ?_, r2⟩, fun a ha y hy => ?_⟩
     ·obtain ⟨w, hw, rfl⟩ := List.mem_map.1 hy; exact Jh (q3 w hw).1 (q3 w hw).2
     ·rcases List.mem_cons.1 hy with rfl | hy
      ·obtain ⟨w, hw, rfl⟩ := List.mem_map.1 ha; exact hall w hw
      ·exact r3 a ha y hy
    ·rw [BV, List.pairwise_append]; refine ⟨hd, by simp, fun a ha b hb => ?_⟩; rw [List.mem_singleton.1 hb]; exact fun q => hno (HU.2 ⟨a, ha, q⟩)
    ·rw [List.mem_append, ← Cl ws, ← e, q1]; simp only [List.append_nil, List.map_append, List.map_cons, List.mem_cons, List.mem_append, List.not_mem_nil, or_false]; rw [or_assoc, or_comm (a := x ∈ List.map toH C)]
   rw [hsort, Jn]
theorem Rt (b : Str) (hb : b.length ≤ 400000) : ∀ (k a : Nat) (ws : List Hd) (out : List S55), b.length - a ≤ k → a ≤ b.length → out.map toH = AX ws → BV ws → ws.length ≤ a →
    AH (fun (s : Int × (List S55)) => D_ b s.1 s.2) ((a : Int), out) = some (match CB ws (b.drop a) with | none => ([], -1) | some q => ((AX q.1).map toS, ((b.length - q.2.length : Nat) : Int))) := by
 intro k
 induction k with
 | zero =>
  intro a ws out hk ha _ _ _; have : b.drop a = [] := List.drop_eq_nil_of_le (by omega); rw [this, CG]; have e53 := H6 b a (by omega) ha; rw [this] at e53; refine Aj ?_; show D_ b a out = _; unfold D_; rw [e53]; rfl
 | succ k ih =>
  intro a ws out hk ha hout hd hw; have e53 := H6 b a (by omega) ha; rw [Ki]; have hol : out.length = ws.length := by rw [← F1 ws, ← hout, List.length_map]
  cases hL : AM (b.drop a) with
  | none =>
   rw [hL] at e53; refine Aj ?_; show D_ b a out = _; unfold D_; rw [e53]; rfl
  | some p =>
   rw [hL] at e53; obtain ⟨hdrop, hsum⟩ := F3 hL; rw [Option.bind_some]; unfold E1; by_cases hp : p.1 = []
   ·rw [if_pos hp]; refine Aj ?_; show D_ b a out = _; unfold D_; rw [e53, Option.bind_some]; simp only; rw [if_neg (by omega), if_pos hp, ← hout, Jn, show b.length - p.2.length = a + p.1.length + 2 by omega]
   rw [if_neg hp, IB]; have hc := HT (c := 58) p.1; have hcol := Pd (p.1, ((a + p.1.length + 2 : Nat) : Int)) out (by simp only; omega) p.1.length 0 (by simp only; omega) (Nat.zero_le _) (Nat.zero_le _); simp only at hcol; have start : ∀ r, Fm (p.1, ((a + p.1.length + 2 : Nat) : Int)) out (CJ 58 p.1 : Int) = r → D_ b (a : Int) out = r := fun r hr => by
    unfold D_; rw [e53, Option.bind_some]; simp only; rw [if_neg (by omega), if_neg hp, show ((0 : Int)) = ((0 : Nat) : Int) from rfl, hcol, Option.bind_some]; exact hr
   cases hcut : Cu p.1 58 with
   | none =>
    rw [hcut] at hc; simp only at hc; refine Aj (start _ ?_); unfold Fm; rw [if_pos (by simp only; omega)]; rfl
   | some c =>
    rw [hcut] at hc; obtain ⟨c1, c2, c3⟩ := hc; have k19 : Fm (p.1, ((a + p.1.length + 2 : Nat) : Int)) out (CJ 58 p.1 : Int) = if Ct c.1 = true ∧ Cw (trimS c.2) = true then
     (AH (fun (s : (List S55) × Int) => EC (CI c.1) s.1 s.2) ((out ++ ([(⟨CI c.1, trimS c.2⟩ : S55)])), (out.length : Int))).bind fun (e : (List S55) × Int) => Gb (p.1, ((a + p.1.length + 2 : Nat) : Int)) (CI c.1) e.1 e.2
     else some (.inr ([], -1)) := by
     have hl1 : c.1.length ≤ p.1.length := by rw [← c2, List.length_take]; omega
     have hl2 : c.2.length ≤ p.1.length := by rw [← c3, List.length_drop]; omega
     have htl := Kh c.2; unfold Fm; simp only; rw [if_neg (by omega), Ad (by omega), Ad (by omega), Int.toNat_natCast, c2, QO _ (by omega), Option.bind_some]; by_cases hn : Ct c.1 = true
     case neg => rw [if_pos hn, if_neg (fun e => hn e.1)]
     rw [if_neg (fun e => e hn), Bq (by omega), Ad (by omega), Ad (by omega), Int.toNat_natCast, c3, SS _ (by omega), Option.bind_some, Q_ _ (by omega), Option.bind_some]; by_cases hv : Cw (trimS c.2) = true
     case neg => rw [if_pos hv, if_neg (fun e => hv e.2)]
     rw [if_neg (fun e => e hv), NS _ (by omega), Option.bind_some, Option.bind_some, Ad (by simp only [List.length_cons, List.length_nil]; omega), if_pos ⟨hn, hv⟩]
    rw [Option.bind_some]; by_cases hnv : Ct c.1 = true ∧ Cw (trimS c.2) = true
    case neg =>
     rw [if_neg hnv] at k19; refine Aj (start _ (k19.trans ?_)); rw [if_neg (fun e => hnv ⟨e.1, e.2.1⟩)]; rfl
    rw [if_pos hnv] at k19; obtain ⟨L, i, l1, l2⟩ := Rs hout hd (CI c.1) (trimS c.2) (by omega); rw [l1, Option.bind_some, l2] at k19; by_cases hg : (C3 ws (CI c.1)).isSome = true
    ·rw [if_pos hg] at k19; refine Aj (start _ (k19.trans ?_)); rw [if_neg (fun e => e.2.2 hg)]; rfl
    rw [if_neg hg] at k19; refine (Bz (s' := (((a + p.1.length + 2 : Nat) : Int), (AX (ws ++ [(CI c.1, trimS c.2)])).map toS)) (start _ k19)).trans ?_; rw [if_pos ⟨hnv.1, hnv.2, hg⟩, Option.bind_some, ← hdrop]; refine ih _ _ _ (by omega) (by omega) (D1 _) ?_ (by simp; omega); rw [BV, List.pairwise_append]; refine ⟨hd, by simp, fun x hx y hy => ?_⟩; rw [List.mem_singleton.1 hy]; exact fun q => hg (HU.2 ⟨x, hx, q⟩)
theorem VC (b : Str) (a : Nat) (hb : b.length ≤ 400000) (ha : a ≤ b.length) : F77 b (a : Int) = some (match CB [] (b.drop a) with | none => ([], -1) | some q => ((AX q.1).map toS, ((b.length - q.2.length : Nat) : Int))) := by
 unfold F77; rw [Rt b hb b.length a [] [] (by omega) ha rfl List.Pairwise.nil (Nat.zero_le _)]; rfl
end Go.Idl
namespace Go.Idl
open Go
set_option maxRecDepth 100000
theorem NX {x : UInt8} {d : Nat} (h : DU x = some d) : (48 ≤ x.toNat ∧ x.toNat ≤ 57 ∧ d = x.toNat - 48) ∨ (97 ≤ x.toNat ∧ x.toNat ≤ 102 ∧ d = x.toNat - 87) ∨ (65 ≤ x.toNat ∧ x.toNat ≤ 70 ∧ d = x.toNat - 55) := by
 unfold DU at h; split at h
 ·cases h; omega
 ·split at h
  ·cases h; omega
  ·split at h
   ·cases h; omega
   ·cases h
theorem SU {x : UInt8} (h : DU x = none) : ¬ (48 ≤ x.toNat ∧ x.toNat ≤ 57) ∧ ¬ (97 ≤ x.toNat ∧ x.toNat ≤ 102) ∧ ¬ (65 ≤ x.toNat ∧ x.toNat ≤ 70) := by
 unfold DU at h; split at h
 ·cases h
 ·split at h
  ·cases h
  ·split at h
   ·cases h
   ·omega
theorem XN (x8 : Str × Int) (acc : Str) (n i : Nat) (hn : n ≤ 1000000) (hi : i < x8.1.length) (hl : x8.1.length ≤ 1000000) : Dt x8 acc (n : Int) (i : Int) = match DU x8.1[i] with
    | some d => some (.inl (acc, ((16 * n + d : Nat) : Int), ((i + 1 : Nat) : Int)))
    | none => some (.inr (.inr ([], false))) := by
  have hx := x8.1[i].toNat_lt
  have hw : IntKind.i64.wrap (x8.1[i].toNat : Int) = (x8.1[i].toNat : Int) := wrap_i64 (by omega) (by omega)
  unfold Dt
  rw [if_pos (by omega), Ad (by omega), Int.toNat_natCast, getD_some hi]
  simp only [hw]
  have w1 : IntKind.i64.wrap (16 * (n : Int)) = ((16 * n : Nat) : Int) := by rw [wrap_i64 (by omega) (by omega)]; omega
  rw [w1, Bq (by omega)]
  generalize x8.1[i] = x at *
  cases hv : DU x with
  | none =>
    obtain ⟨q1, q2, q3⟩ := SU hv
    simp only
    repeat' split
    all_goals first | rfl | (exfalso; omega)
  | some d =>
    simp only
    rcases NX hv with ⟨q1, q2, q3⟩ | ⟨q1, q2, q3⟩ | ⟨q1, q2, q3⟩
    · rw [if_pos (by omega), if_pos (by omega), wrap_i64 (n := (x.toNat : Int) - 48) (by omega) (by omega), wrap_i64 (by omega) (by omega), show ((16 * n : Nat) : Int) + ((x.toNat : Int) - 48) = ((16 * n + d : Nat) : Int) by omega]
    · rw [if_pos (by omega), if_neg (by omega), if_pos (by omega), if_pos (by omega), wrap_i64 (n := (x.toNat : Int) - 87) (by omega) (by omega), wrap_i64 (by omega) (by omega), show ((16 * n : Nat) : Int) + ((x.toNat : Int) - 87) = ((16 * n + d : Nat) : Int) by omega]
    · rw [if_pos (by omega), if_neg (by omega), if_neg (by omega), if_pos (by omega), if_pos (by omega), wrap_i64 (n := (x.toNat : Int) - 55) (by omega) (by omega), wrap_i64 (by omega) (by omega), show ((16 * n : Nat) : Int) + ((x.toNat : Int) - 55) = ((16 * n + d : Nat) : Int) by omega]
theorem SV (x8 : Str × Int) (acc : Str) (hl : x8.1.length ≤ 5) : ∀ (k i n : Nat), x8.1.length - i ≤ k → i ≤ x8.1.length → n < 16 ^ i → AH (fun (s : (List UInt8) × Int × Int) => Dt x8 s.1 s.2.1 s.2.2) (acc, (n : Int), (i : Int)) = some (match GO n (x8.1.drop i) with | some m => .inl (acc, (m : Int)) | none => .inr ([], false)) := by
 intro k
 induction k with
 | zero =>
  intro i n hk hi _; have : x8.1.drop i = [] := List.drop_eq_nil_of_le (by omega); rw [this]; refine Aj ?_; show Dt x8 acc n i = _; unfold Dt; rw [if_neg (by omega)]; rfl
 | succ k ih =>
  intro i n hk hi hn; by_cases h : i < x8.1.length
  case neg =>
   have : x8.1.drop i = [] := List.drop_eq_nil_of_le (by omega); rw [this]; refine Aj ?_; show Dt x8 acc n i = _; unfold Dt; rw [if_neg (by omega)]; rfl
  have hp : 16 ^ i ≤ 16 ^ 4 := Nat.pow_le_pow_right (by omega) (by omega); have e4 : 16 ^ 4 = 65536 := by decide
  have hb := XN x8 acc n i (by omega) h (by omega); rw [List.drop_eq_getElem_cons h, GO]; cases hv : DU x8.1[i] with
  | none =>
   rw [hv] at hb; exact Aj hb
  | some d =>
   rw [hv] at hb; have := LR hv; refine (Bz (s' := (acc, ((16 * n + d : Nat) : Int), ((i + 1 : Nat) : Int))) hb).trans ?_; rw [Option.bind_some]; exact ih (i + 1) (16 * n + d) (by omega) (by omega) (by rw [Nat.pow_succ]; omega)
theorem DW {acc s z : Str} (h : CC acc s = none) : ∀ y, CC acc s = some (y, []) ↔ (z, false) = (y, true) := fun y => by
  rw [h]; simp
theorem MS {b r : Str} {m : Nat} : b.drop m = 13 :: 10 :: r ↔ m + 1 < b.length ∧ b.getD m 0 = 13 ∧ b.getD (m + 1) 0 = 10 ∧ b.drop (m + 2) = r := by
 constructor
 ·intro h; have hl : (b.drop m).length = r.length + 2 := by rw [h]; rfl
  rw [List.length_drop] at hl; have e0 : b.drop m = b[m] :: b.drop (m + 1) := List.drop_eq_getElem_cons (by omega); have e1 : b.drop (m + 1) = b[m + 1] :: b.drop (m + 1 + 1) := List.drop_eq_getElem_cons (by omega); rw [e0, e1, List.cons.injEq, List.cons.injEq] at h; exact ⟨by omega, by rw [getD_some (by omega)]; exact h.1, by rw [getD_some (by omega)]; exact h.2.1, h.2.2⟩
 ·rintro ⟨h1, h2, h3, rfl⟩
  rw [getD_some (by omega)] at h2 h3; have e0 : b.drop m = b[m] :: b.drop (m + 1) := List.drop_eq_getElem_cons (by omega); have e1 : b.drop (m + 1) = b[m + 1] :: b.drop (m + 1 + 1) := List.drop_eq_getElem_cons (by omega); rw [e0, e1, h2, h3]
theorem Ru (b : Str) (hb : b.length ≤ 400000) : ∀ (k a : Nat) (acc : Str), b.length - a ≤ k → a ≤ b.length → acc.length ≤ a → ∃ v, AH (fun (s : Int × (List UInt8)) => E0 b s.1 s.2) ((a : Int), acc) = some v ∧ ∀ y, CC acc (b.drop a) = some (y, []) ↔ v = (y, true) := by
 intro k
 induction k with
 | zero =>
  intro a acc hk ha _; have : b.drop a = [] := List.drop_eq_nil_of_le (by omega); have e53 := H6 b a (by omega) ha; rw [this] at e53 ⊢; refine ⟨([], false), Aj ?_, DW (by rw [DD]; rfl)⟩; show E0 b a acc = _; unfold E0; rw [e53]; rfl
 | succ k ih =>
  intro a acc hk ha hacc; have e53 := H6 b a (by omega) ha; cases hL : AM (b.drop a) with
  | none =>
   rw [hL] at e53; refine ⟨([], false), Aj ?_, DW (by rw [DD, hL]; rfl)⟩; show E0 b a acc = _; unfold E0; rw [e53]; rfl
  | some p =>
   rw [hL] at e53; obtain ⟨hdrop, hsum⟩ := F3 hL; have hw := DD acc (b.drop a); rw [hL, Option.bind_some] at hw; by_cases hlen : 1 ≤ p.1.length ∧ p.1.length ≤ 5
   case neg =>
    have hx : Fj p.1 = none := by unfold Fj; rw [if_neg hlen]
    rw [hx, Option.bind_none] at hw; refine ⟨([], false), Aj ?_, DW hw⟩; show E0 b a acc = _; unfold E0; rw [e53, Option.bind_some]; simp only; rw [if_neg (by omega)]; by_cases q : (p.1.length : Int) < 1
    ·rw [if_pos q]
    ·rw [if_neg q, if_pos (by omega)]
   have hx : Fj p.1 = GO 0 p.1 := by unfold Fj; rw [if_pos hlen]
   have hdig : AH (fun (s : (List UInt8) × Int × Int) => Dt (p.1, ((a + p.1.length + 2 : Nat) : Int)) s.1 s.2.1 s.2.2) (acc, 0, 0) = _ := SV (p.1, ((a + p.1.length + 2 : Nat) : Int)) acc hlen.2 p.1.length 0 0 (by simp only; omega) (Nat.zero_le _) (by simp); simp only [List.drop_zero] at hdig; have start : ∀ r, ((match GO 0 p.1 with | some m => (.inl (acc, (m : Int)) : (Str × Int) ⊕ (Str × Bool)) | none => .inr ([], false)).elim (fun (e : (List UInt8) × Int) => ED b (p.1, ((a + p.1.length + 2 : Nat) : Int)) e.1 e.2) (fun (q : (List UInt8) × Bool) => some (.inr q))) = r → E0 b (a : Int) acc = r := fun r hr => by
    unfold E0; rw [e53, Option.bind_some]; simp only; rw [if_neg (by omega), if_neg (by omega), if_neg (by omega), hdig, Option.bind_some]; exact hr
   rw [hx] at hw; cases hf : GO 0 p.1 with
   | none =>
    rw [hf] at hw start; exact ⟨([], false), Aj (start _ rfl), DW hw⟩
   | some n =>
    rw [hf] at hw start; have hlt := Oj (hx.trans hf); simp only [Option.bind_some] at hw; by_cases h0 : n = 0
    ·rw [if_pos h0] at hw; subst h0; have e2 := H6 b (a + p.1.length + 2) (by omega) (by omega); rw [hdrop] at e2; have k18 : ED b (p.1, ((a + p.1.length + 2 : Nat) : Int)) acc ((0 : Nat) : Int) = some (.inr (acc, (match AM p.2 with | some q => decide (p.1 = [48] ∧ q.1 = [] ∧ q.2 = []) | none => false))) := by
      unfold ED; simp only; rw [if_pos (by omega), e2, Option.bind_some]; by_cases h48 : p.1 = [48]
      case neg =>
       rw [if_neg h48]; cases AM p.2 with
       | none => rfl
       | some q => simp [h48]
      rw [if_pos h48]; cases hL2 : AM p.2 with
      | none =>
       simp only; rw [if_neg (by omega)]
      | some q =>
       have hl2 := Bs (a := q.1) (b := q.2) hL2; simp only; by_cases hq : q.2 = []
       ·rw [hq, List.length_nil] at hl2; rw [if_pos (by omega)]; simp [h48, hq]
       ·have : 0 < q.2.length := List.length_pos_iff.2 hq; rw [if_neg (by omega)]; simp [hq]
     refine ⟨_, Aj (start _ k18), fun y => ?_⟩; rw [hw]; by_cases h48 : p.1 = [48]
     case neg =>
      rw [if_neg h48]; cases AM p.2 <;> simp [h48]
     rw [if_pos h48]; cases hL2 : AM p.2 with
     | none => simp
     | some q =>
      rw [Option.bind_some]; by_cases hq : q.1 = []
      ·rw [if_pos hq]; simp [hq, h48]
      ·rw [if_neg hq]; simp [hq]
    ·rw [if_neg h0] at hw; have k18 : ED b (p.1, ((a + p.1.length + 2 : Nat) : Int)) acc ((n : Nat) : Int) = if n + 2 ≤ p.2.length ∧ b.getD (a + p.1.length + 2 + n) 0 = 13 ∧ b.getD (a + p.1.length + 2 + n + 1) 0 = 10 then some (.inl (((a + p.1.length + 2 + n + 2 : Nat) : Int), acc ++ p.2.take n)) else some (.inr ([], false)) := by
      unfold ED; simp only; rw [if_neg (by omega), wrap_i64 (n := (b.length : Int) - ((a + p.1.length + 2 : Nat) : Int)) (by omega) (by omega), wrap_i64 (n := ((n : Nat) : Int) + 2) (by omega) (by omega)]; by_cases c0 : n + 2 ≤ p.2.length
      case neg => rw [if_pos (by omega), if_neg (fun e => c0 e.1)]
      have w1 : IntKind.i64.wrap (((a + p.1.length + 2 : Nat) : Int) + (n : Int)) = ((a + p.1.length + 2 + n : Nat) : Int) := by rw [wrap_i64 (by omega) (by omega)]; omega
      rw [if_neg (by omega), w1, Ad (by omega), Int.toNat_natCast, Bq (by omega), Int.toNat_natCast]; by_cases c1 : b.getD (a + p.1.length + 2 + n) 0 = 13
      case neg => rw [if_pos (fun e => c1 (Km.1 e)), if_neg (fun e => c1 e.2.1)]
      rw [if_neg (fun e => e (Km.2 c1)), Ad (by omega)]; by_cases c2 : b.getD (a + p.1.length + 2 + n + 1) 0 = 10
      case neg => rw [if_pos (fun e => c2 (LU.1 e)), if_neg (fun e => c2 e.2.2)]
      have hsl : (b.take (a + p.1.length + 2 + n)).drop (a + p.1.length + 2) = p.2.take n := by
       rw [List.drop_take, hdrop, show a + p.1.length + 2 + n - (a + p.1.length + 2) = n by omega]
      rw [if_neg (fun e => e (LU.2 c2)), Ad (by omega), Ad (by omega), Ad (by omega), Int.toNat_natCast, hsl, Ad (by rw [List.length_take]; omega), if_pos ⟨c0, c1, c2⟩, wrap_i64 (by omega) (by omega)]; rfl
     have hdd : p.2.drop n = b.drop (a + p.1.length + 2 + n) := by rw [← hdrop, List.drop_drop]
     by_cases c : n + 2 ≤ p.2.length ∧ b.getD (a + p.1.length + 2 + n) 0 = 13 ∧ b.getD (a + p.1.length + 2 + n + 1) 0 = 10
     ·rw [if_pos c] at k18; have h2 : AM (p.2.drop n) = some ([], b.drop (a + p.1.length + 2 + n + 2)) := KP.2 (by rw [hdd]; exact MS.2 ⟨by omega, c.2.1, c.2.2, rfl⟩); rw [if_pos (by omega), h2, Option.bind_some, if_pos rfl] at hw; obtain ⟨v, v1, v2⟩ := ih (a + p.1.length + 2 + n + 2) (acc ++ p.2.take n) (by omega) (by omega) (by rw [List.length_append, List.length_take]; omega); refine ⟨v, (Bz (s' := (((a + p.1.length + 2 + n + 2 : Nat) : Int), acc ++ p.2.take n)) (start _ k18)).trans v1, fun y => ?_⟩; rw [hw]; exact v2 y
     ·rw [if_neg c] at k18; refine ⟨([], false), Aj (start _ k18), DW ?_⟩; rw [hw]; by_cases hle : n ≤ p.2.length
      case neg => rw [if_neg hle]
      rw [if_pos hle]; cases h2 : AM (p.2.drop n) with
      | none => rfl
      | some q =>
       rw [Option.bind_some, if_neg]; intro hq; have e : AM (p.2.drop n) = some ([], q.2) := by rw [h2, ← hq]
       have e3 := KP.1 e; have hl3 : (p.2.drop n).length = q.2.length + 2 := by rw [e3]; rfl
       rw [List.length_drop] at hl3; rw [hdd] at e3; obtain ⟨r1, r2, r3, _⟩ := MS.1 e3; exact c ⟨by omega, r2, r3⟩
theorem VD (b : Str) (a : Nat) (hb : b.length ≤ 400000) (ha : a ≤ b.length) : ∃ v, F78 b (a : Int) = some v ∧ ∀ y, CC [] (b.drop a) = some (y, []) ↔ v = (y, true) := by
 obtain ⟨v, h1, h2⟩ := Ru b hb b.length a [] (by omega) ha (Nat.zero_le _); refine ⟨v, ?_, h2⟩; unfold F78; rw [h1]; rfl
def FZ (e : (List S55) × Str × Str × Bool × Bool) (x : S55) : (List S55) × Str × Str × Bool × Bool :=
  if x.fName = CU then (e.1, x.A8, e.2.2.1, true, e.2.2.2.2) else if x.fName = D3 then (e.1, e.2.1, x.A8, e.2.2.2.1, true) else (e.1 ++ [x], e.2)
theorem Pf (x3 : (List S55) × Int) (hl : x3.1.length ≤ 1000000) : ∀ (k i : Nat) (e : (List S55) × Str × Str × Bool × Bool), x3.1.length - i ≤ k → i ≤ x3.1.length → e.1.length ≤ i →
    AH (fun (s : (List S55) × (List UInt8) × (List UInt8) × Bool × Bool × Int) => DL x3 s.1 s.2.1 s.2.2.1 s.2.2.2.1 s.2.2.2.2.1 s.2.2.2.2.2) (e.1, e.2.1, e.2.2.1, e.2.2.2.1, e.2.2.2.2, (i : Int)) = some ((x3.1.drop i).foldl FZ e) := by
 intro k
 induction k with
 | zero =>
  intro i e hk hi _; have : x3.1.drop i = [] := List.drop_eq_nil_of_le (by omega); rw [this]; refine Aj ?_; show DL x3 e.1 e.2.1 e.2.2.1 e.2.2.2.1 e.2.2.2.2 i = _; unfold DL; rw [if_neg (by omega)]; rfl
 | succ k ih =>
  intro i e hk hi he; by_cases h : i < x3.1.length
  case neg =>
   have : x3.1.drop i = [] := List.drop_eq_nil_of_le (by omega); rw [this]; refine Aj ?_; show DL x3 e.1 e.2.1 e.2.2.1 e.2.2.2.1 e.2.2.2.2 i = _; unfold DL; rw [if_neg (by omega)]; rfl
  rw [List.drop_eq_getElem_cons h, List.foldl_cons]; have step : DL x3 e.1 e.2.1 e.2.2.1 e.2.2.2.1 e.2.2.2.2 (i : Int) = some (.inl ((FZ e x3.1[i]).1, (FZ e x3.1[i]).2.1, (FZ e x3.1[i]).2.2.1, (FZ e x3.1[i]).2.2.2.1, (FZ e x3.1[i]).2.2.2.2, ((i + 1 : Nat) : Int))) := by
   unfold DL; rw [if_pos (by omega), Ad (by omega), Int.toNat_natCast, getD_some h, Bq (by omega)]; unfold FZ; by_cases c1 : x3.1[i].fName = CU
   ·rw [if_pos (show x3.1[i].fName = [99, 111, 110, 116, 101, 110, 116, 45, 108, 101, 110, 103, 116, 104] from c1), if_pos c1]
   rw [if_neg (show ¬ x3.1[i].fName = [99, 111, 110, 116, 101, 110, 116, 45, 108, 101, 110, 103, 116, 104] from c1), if_neg c1]; by_cases c2 : x3.1[i].fName = D3
   ·rw [if_pos (show x3.1[i].fName = [116, 114, 97, 110, 115, 102, 101, 114, 45, 101, 110, 99, 111, 100, 105, 110, 103] from c2), if_pos c2]
   rw [if_neg (show ¬ x3.1[i].fName = [116, 114, 97, 110, 115, 102, 101, 114, 45, 101, 110, 99, 111, 100, 105, 110, 103] from c2), if_neg c2, Ad (by simp only [List.length_cons, List.length_nil]; omega)]
  refine (Bz step).trans (ih (i + 1) (FZ e x3.1[i]) (by omega) (by omega) ?_); unfold FZ
  repeat' split
  all_goals simp
  all_goals omega
theorem IC {x : Hd} {l : List Hd} {n : Str} : Cg (x :: l) n = if x.1 = n then some x.2 else Cg l n := by
 unfold Cg; rw [List.find?_cons]; by_cases h : x.1 = n
 ·simp [h]
 ·simp [h]
theorem MT : ∀ (m : List S55) (e : (List S55) × Str × Str × Bool × Bool), BV (m.map toH) → m.foldl FZ e = (e.1 ++ (CD (m.map toH)).map toS, (Cg (m.map toH) CU).getD e.2.1, (Cg (m.map toH) D3).getD e.2.2.1, e.2.2.2.1 || (Cg (m.map toH) CU).isSome, e.2.2.2.2 || (Cg (m.map toH) D3).isSome)
  | [], e, _ => by simp [CD, Cg]
  | x :: m, e, h => by
    rw [List.map_cons, BV, List.pairwise_cons] at h
    rw [List.foldl_cons, MT m _ h.2, List.map_cons, IC, IC]
    unfold FZ CD
    rw [List.filter_cons]
    by_cases c1 : x.fName = CU
    · have hn : Cg (m.map toH) CU = none := K_ fun y hy e => h.1 y hy (c1.trans e.symm)
      have ne : ¬ x.fName = D3 := fun e => Kb (c1.symm.trans e)
      rw [hn]
      simp [c1, Kb]
    by_cases c2 : x.fName = D3
    · have hn : Cg (m.map toH) D3 = none := K_ fun y hy e => h.1 y hy (c2.trans e.symm)
      rw [hn]
      have ne : ¬ D3 = CU := fun e => Kb e.symm
      simp [c2, ne]
    · simp [c1, c2, toS]
theorem F_ {l : List Hd} {n v : Str} (h : BV l) : Cg l n = some v ↔ (n, v) ∈ l := by
 induction l with
 | nil => simp [Cg]
 | cons x l ih =>
  rw [BV, List.pairwise_cons] at h; rw [IC]; by_cases c : x.1 = n
  ·rw [if_pos c]; constructor
   ·intro e; cases e; simp [← c]
   ·intro e; rcases List.mem_cons.1 e with e | e
    ·rw [← e]
    ·exact absurd c (h.1 _ e)
  ·rw [if_neg c, ih h.2]; constructor
   ·intro e; simp [e]
   ·intro e; rcases List.mem_cons.1 e with e | e
    ·exact absurd (by rw [← e]) c
    ·exact e
theorem L5 {l : List Hd} (h : BV l) (n : Str) : Cg (AX l) n = Cg l n := by
 have h2 := JW (DE h); cases hg : Cg l n with
 | none =>
  cases hs : Cg (AX l) n with
  | none => rfl
  | some v =>
   have := (F_ h).2 ((Cl l _).1 ((F_ h2).1 hs)); rw [hg] at this; cases this
 | some v => exact (F_ h2).2 ((Cl l _).2 ((F_ h).1 hg))
theorem Rv {l : List Hd} (h : BV l) : CD (AX l) = AX (CD l) := by
 refine (FK (List.Pairwise.filter _ (DE h)) (GZ h) fun x => ?_).symm; unfold CD; rw [List.mem_filter, List.mem_filter, Cl]
theorem KB : ∀ (k : Nat) {s : Str} {acc l : List Hd} {r : Str}, s.length ≤ k → CB acc s = some (l, r) → ∃ m, m ≤ s.length ∧ r = s.drop m := by
 intro k
 induction k with
 | zero =>
  intro s acc l r hk h; rw [List.length_eq_zero_iff.1 (Nat.le_zero.1 hk), CG] at h; cases h
 | succ k ih =>
  intro s acc l r hk h; rw [CG] at h; obtain ⟨p, h1, h⟩ := Option.bind_eq_some_iff.1 h; have hl := Bs (a := p.1) (b := p.2) h1; have hd := F3 (b := s) (a := 0) (p := p) (by simpa using h1); split at h
  ·cases h; exact ⟨0 + p.1.length + 2, by omega, hd.1.symm⟩
  ·obtain ⟨x, h2, h⟩ := Option.bind_eq_some_iff.1 h; obtain ⟨m, m1, m2⟩ := ih (by omega) h; refine ⟨0 + p.1.length + 2 + m, by omega, ?_⟩; rw [m2, ← hd.1, List.drop_drop]
noncomputable def EG (s : Str) : Option (List Hd × Str) :=
  (CB [] s).bind fun q => (EV q.1 q.2).bind fun r => if r.2 = [] ∧ D5 (AX (CD q.1)) r.1 = true then some (AX (CD q.1), r.1) else none
theorem Ko {α : Type} (first : Str → Option α) (s : Str) : CY first s = (AM s).bind fun p => (first p.1).bind fun x => (EG p.2).map fun r => (x, r.1, r.2) := by
 unfold CY EG; cases AM s with
 | none => rfl
 | some p =>
  simp only [Option.bind_some]; cases first p.1 with
  | none => rfl
  | some x =>
   simp only [Option.bind_some]; cases CB [] p.2 with
   | none => rfl
   | some q =>
    simp only [Option.bind_some]; cases EV q.1 q.2 with
    | none => rfl
    | some r =>
     simp only [Option.bind_some]; split <;> rfl
end Go.Idl
namespace Go.Idl
open Go
set_option maxRecDepth 100000
theorem VE (b : Str) (a : Nat) (hb : b.length ≤ 400000) (ha : a ≤ b.length) : ∃ v, F54 b (a : Int) = some v ∧ ∀ l y, EG (b.drop a) = some (l, y) ↔ v = (l.map toS, y, true) := by
 have e77 := VC b a hb ha; unfold EG; cases hq : CB [] (b.drop a) with
 | none =>
  rw [hq] at e77; refine ⟨([], [], false), ?_, fun l y => by simp⟩; unfold F54; rw [e77]; rfl
 | some q =>
  rw [hq] at e77; obtain ⟨n1, n2, n3, n4⟩ := G_ (l := q.1) (r := q.2) hq; obtain ⟨m, m1, m2⟩ := KB _ (l := q.1) (r := q.2) (Nat.le_refl _) hq; rw [List.length_drop] at n2 n3 m1; have hql : q.2.length = b.length - (a + m) := by rw [m2, List.length_drop, List.length_drop]; omega
  have ht : b.length - q.2.length = a + m := by omega
  have hdr : b.drop (a + m) = q.2 := by rw [m2, List.drop_drop]
  simp only at e77; rw [ht] at e77; have hsp := Pf ((AX q.1).map toS, ((a + m : Nat) : Int)) (by simp only [List.length_map, F1]; omega) _ 0 ([], [], [], false, false) (Nat.le_refl _) (Nat.zero_le _) (Nat.zero_le _); simp only [List.drop_zero] at hsp; rw [MT _ _ (by rw [D1]; exact JW (DE n1)), D1, L5 n1, L5 n1, Rv n1] at hsp; simp only [List.nil_append, Bool.false_or] at hsp; have hol : (CD q.1).length ≤ q.1.length := List.length_filter_le _ _; have hsm : IA ((AX (CD q.1)).map toS) := by
   refine ⟨by rw [List.length_map, F1]; omega, fun x hx => ?_⟩; obtain ⟨y, hy, rfl⟩ := List.mem_map.1 hx; have hy := (n4 y (List.mem_filter.1 ((Cl _ _).1 hy)).1).2.2.2; rw [List.length_drop] at hy; simp only [toS]; omega
  have e44 := Vo _ hsm; rw [D1] at e44; simp only [Option.bind_some]; have start : ∀ v, Gc b ((AX q.1).map toS, ((a + m : Nat) : Int)) ((AX (CD q.1)).map toS) ((Cg q.1 CU).getD []) ((Cg q.1 D3).getD []) (Cg q.1 CU).isSome (Cg q.1 D3).isSome = some v → F54 b (a : Int) = some v := fun v hv => by
   unfold F54; rw [e77, Option.bind_some]; simp only; rw [if_neg (by omega)]; refine Eq.trans (congrArg (fun z => Option.bind z _) hsp) ?_; exact hv
  -- heads that may not be
  by_cases hh : OW (AX (CD q.1)) = true
  case neg =>
   refine ⟨([], [], false), start _ ?_, fun l y => ?_⟩
   ·unfold Gc; by_cases c1 : (Cg q.1 CU).isSome = true
    ·rw [if_pos c1]; by_cases c2 : (Cg q.1 D3).isSome = true
     ·rw [if_pos c2]
     ·rw [if_neg c2, e44, Option.bind_some, if_pos hh]
    ·rw [if_neg c1, e44, Option.bind_some, if_pos hh]
   ·constructor
    ·intro h; obtain ⟨r, h1, h2⟩ := Option.bind_eq_some_iff.1 h; split at h2
     ·rename_i h3; simp only [D5, Bool.and_eq_true] at h3; exact absurd h3.2.1 hh
     ·cases h2
    ·intro h; simp at h
  have k13 : ¬ ((Cg q.1 CU).isSome = true ∧ (Cg q.1 D3).isSome = true) → ∀ v, DK b ((AX q.1).map toS, ((a + m : Nat) : Int)) ((AX (CD q.1)).map toS) ((Cg q.1 CU).getD []) ((Cg q.1 D3).getD []) (Cg q.1 CU).isSome (Cg q.1 D3).isSome = some v → F54 b (a : Int) = some v := fun hn v hv => by
   refine start v ?_; unfold Gc; by_cases c1 : (Cg q.1 CU).isSome = true
   ·rw [if_pos c1, if_neg (fun c2 => hn ⟨c1, c2⟩), e44, Option.bind_some, if_neg (fun e => e hh)]; exact hv
   ·rw [if_neg c1, e44, Option.bind_some, if_neg (fun e => e hh)]; exact hv
  have hB : ∀ y : Str, D5 (AX (CD q.1)) y = true ↔ y.length ≤ 60000 := fun y => by simp [D5, hh]
  unfold EV; cases hl : Cg q.1 CU with
  | some n =>
   rw [hl] at start k13; cases he : Cg q.1 D3 with
   | some c =>
    rw [he] at start; refine ⟨([], [], false), start _ rfl, fun l y => by simp⟩
   | none =>
    rw [he] at k13; simp only; have e39 := Vq q.2.length (by omega); by_cases hn : n = Lib.decDigits q.2.length
    ·refine ⟨((AX (CD q.1)).map toS, q.2, decide ((q.2.length : Int) ≤ 60000)), k13 (by simp) _ ?_, fun l y => ?_⟩
     ·unfold DK; simp only [Option.isSome_none, Option.isSome_some, Option.getD_some]; rw [if_neg (by simp), if_neg (by simp), Ad (by omega), Int.toNat_natCast, Ad (by omega), hdr, e39, Option.bind_some, if_pos hn]
     ·rw [hn, FL (by omega), Option.bind_some, if_pos (Nat.le_refl _), Option.bind_some, List.take_length, List.drop_length]; simp only [hB, true_and]; by_cases h6 : q.2.length ≤ 60000
      ·rw [if_pos h6, decide_eq_true (show (q.2.length : Int) ≤ 60000 by omega)]; constructor
       ·intro h; cases h; rfl
       ·intro h; simp only [Prod.mk.injEq] at h; have := congrArg (List.map toH) h.1; rw [D1, D1] at this; rw [this, h.2.1]
      ·rw [if_neg h6, decide_eq_false (show ¬ (q.2.length : Int) ≤ 60000 by omega)]; simp
    ·refine ⟨((AX (CD q.1)).map toS, q.2, false), k13 (by simp) _ ?_, fun l y => ?_⟩
     ·unfold DK; simp only [Option.isSome_none, Option.isSome_some, Option.getD_some]; rw [if_neg (by simp), if_neg (by simp), Ad (by omega), Int.toNat_natCast, Ad (by omega), hdr, e39, Option.bind_some, if_neg hn]
     ·constructor
      ·intro h; obtain ⟨r, h1, h2⟩ := Option.bind_eq_some_iff.1 h; obtain ⟨k, h3, h4⟩ := Option.bind_eq_some_iff.1 h1; split at h4
       ·rename_i hk; cases h4; simp only at h2; split at h2
        ·rename_i h5; have h6 := List.drop_eq_nil_iff.1 h5.1; have : k = q.2.length := by omega
         exact absurd (by rw [← (G5.1 h3).2, this]) hn
        ·cases h2
       ·cases h4
      ·intro h; simp at h
  | none =>
   rw [hl] at k13; cases he : Cg q.1 D3 with
   | none =>
    rw [he] at k13; simp only [Option.bind_some]; refine ⟨((AX (CD q.1)).map toS, [], decide (((a + m : Nat) : Int) = b.length)), k13 (by simp) _ ?_, fun l y => ?_⟩
    ·unfold DK; simp only [Option.isSome_none]; rw [if_neg (by simp), if_pos (by simp)]
    ·simp only [hB, List.length_nil, Nat.zero_le, and_true]; by_cases h6 : q.2 = []
     ·rw [h6, List.length_nil] at hql; rw [if_pos h6, decide_eq_true (by omega)]; constructor
      ·intro h; cases h; rfl
      ·intro h; simp only [Prod.mk.injEq] at h; have := congrArg (List.map toH) h.1; rw [D1, D1] at this; rw [this, h.2.1]
     ·have : 0 < q.2.length := List.length_pos_iff.2 h6; rw [if_neg h6, decide_eq_false (by omega)]; simp
   | some c =>
    rw [he] at k13; simp only; obtain ⟨v, v1, v2⟩ := VD b (a + m) hb (by omega); rw [hdr] at v2; have hcl : c.length ≤ 1000000 := by
     have := (n4 _ ((F_ n1).1 he)).2.2.2; rw [List.length_drop] at this; simp only at this; omega
    have hk27 : DK b ((AX q.1).map toS, ((a + m : Nat) : Int)) ((AX (CD q.1)).map toS) [] c false true = some ((AX (CD q.1)).map toS, v.1, decide (v.2 = true ∧ CI c = JS ∧ v.1.length ≤ 60000)) := by
     unfold DK; rw [if_pos rfl]; simp only; rw [v1, Option.bind_some]; by_cases h2 : v.2 = true
     case neg => rw [if_neg h2]; simp [h2]
     rw [if_pos h2, NS c hcl, Option.bind_some]; by_cases h3 : CI c = JS
     case neg => rw [if_neg (show ¬ CI c = [99, 104, 117, 110, 107, 101, 100] from h3)]; simp [h3]
     rw [if_pos (show CI c = [99, 104, 117, 110, 107, 101, 100] from h3)]; congr 3; rw [Bool.eq_iff_iff, decide_eq_true_eq, decide_eq_true_eq]; constructor
     ·intro h; exact ⟨h2, h3, by omega⟩
     ·intro h; have := h.2.2; omega
    refine ⟨_, k13 (by simp) _ hk27, fun l y => ?_⟩; by_cases h3 : CI c = JS
    case neg =>
     rw [if_neg h3]; simp [h3]
    rw [if_pos h3]; constructor
    ·intro h; obtain ⟨r, h1, h2⟩ := Option.bind_eq_some_iff.1 h; split at h2
     ·rename_i h5; cases h2; have := (v2 r.1).1 (by rw [h1, ← h5.1]); rw [this]; simp only [true_and, Prod.mk.injEq, decide_eq_true_eq]
      first | exact ⟨rfl, rfl, h3, (hB _).1 h5.2⟩ | exact ⟨h3, (hB _).1 h5.2⟩
     ·cases h2
    ·intro h; simp only [Prod.mk.injEq, decide_eq_true_eq] at h; obtain ⟨g1, g2, g3, g4, g5⟩ := h; have := (v2 v.1).2 (by rw [← g3]); rw [this, Option.bind_some, if_pos ⟨rfl, (hB _).2 g5⟩]; have e := congrArg (List.map toH) g1; rw [D1, D1] at e; rw [e, g2]
theorem On (b : Str) (a : Nat) (hb : b.length ≤ 400000) (ha : a ≤ b.length) : ∃ v, F54 b (a : Int) = some v ∧ match EG (b.drop a) with | some r => v = (r.1.map toS, r.2, true) | none => v.2.2 = false := by
 obtain ⟨v, h1, h2⟩ := VE b a hb ha; refine ⟨v, h1, ?_⟩; cases h : EG (b.drop a) with
 | some r => exact (h2 r.1 r.2).1 h
 | none =>
  simp only; cases hv : v.2.2 with
  | false => rfl
  | true =>
   have := (h2 (v.1.map toH) v.2.1).2 (by rw [Jn, ← hv]); rw [h] at this; cases this
theorem Pg {c x : UInt8} {s : Str} : CJ c (x :: s) = if x = c then 0 else CJ c s + 1 := by
 unfold CJ; rw [List.takeWhile_cons]; by_cases h : x = c
 ·simp [h]
 ·simp [h]
theorem Rw (x8 : Str × Int) (h : x8.1.length ≤ 1000000) : ∀ (k i : Nat), x8.1.length - i ≤ k → i ≤ x8.1.length → AH (fun (s : Int) => D0 x8 s) (i : Int) = some ((i + CJ 32 (x8.1.drop i) : Nat) : Int) := by
 have done : AH (fun (s : Int) => D0 x8 s) (x8.1.length : Int) = some ((x8.1.length + CJ 32 (x8.1.drop x8.1.length) : Nat) : Int) := by
  rw [List.drop_length]; refine Aj ?_; show D0 x8 (x8.1.length : Int) = _; unfold D0; rw [if_neg (by omega)]; rfl
 intro k
 induction k with
 | zero =>
  intro i hk hi; have : i = x8.1.length := by omega
  subst this; exact done
 | succ k ih =>
  intro i hk hi; by_cases hlt : i < x8.1.length
  case neg =>
   have : i = x8.1.length := by omega
   subst this; exact done
  rw [List.drop_eq_getElem_cons hlt, Pg]; have step : D0 x8 (i : Int) = if x8.1[i] = 32 then some (.inr (i : Int)) else some (.inl ((i + 1 : Nat) : Int)) := by
   unfold D0; rw [if_pos (by omega), Ad (by omega), Int.toNat_natCast, getD_some hlt, Bq (by omega)]; by_cases c : x8.1[i] = 32
   ·rw [if_neg (fun e => e (D7.2 c)), if_pos c]
   ·rw [if_pos (fun e => c (D7.1 e)), if_neg c]
  by_cases c : x8.1[i] = 32
  ·rw [if_pos c] at step ⊢; exact Aj step
  ·rw [if_neg c] at step ⊢; refine (Bz step).trans ((ih (i + 1) (by omega) (by omega)).trans ?_); congr 2; omega
theorem VF (b : Str) (hb : b.length ≤ 400000) : F23 b = some (match CY FW b with | some x => ((⟨x.1.1, x.1.2, x.2.1.map toS, x.2.2⟩ : S42), true) | none => ((⟨[], [], [], []⟩ : S42), false)) := by
 have e53 : F53 b 0 = _ := H6 b 0 (by omega) (Nat.zero_le _); rw [List.drop_zero] at e53; rw [Ko]; unfold F23; rw [e53, Option.bind_some]; cases hL : AM b with
 | none => rfl
 | some p =>
  have hdl := F3 (b := b) (a := 0) (p := p) (by simpa using hL); simp only [Option.bind_some]; generalize hT : 0 + p.1.length + 2 = T at hdl; rw [if_neg (by omega)]; have l1 : AH (fun (s : Int) => LM (p.1, (T : Int)) s) 0 = some ((CJ 32 p.1 : Nat) : Int) := by
   have := Rw (p.1, (T : Int)) (by simp only; omega) p.1.length 0 (by simp only; omega) (Nat.zero_le _); simp only [List.drop_zero, Nat.zero_add] at this; exact this
  rw [l1, Option.bind_some]; have hc := HT (c := 32) p.1; have hle : CJ 32 p.1 ≤ p.1.length := (List.takeWhile_sublist _).length_le; unfold LL; rw [Bq (by omega)]; unfold FW; cases h1 : Cu p.1 32 with
  | none =>
   rw [h1] at hc; simp only at hc; rw [hc]; have l2 : AH (fun (s : Int) => D0 (p.1, (T : Int)) s) ((p.1.length + 1 : Nat) : Int) = some ((p.1.length + 1 : Nat) : Int) := by
    refine Aj ?_; show D0 (p.1, (T : Int)) ((p.1.length + 1 : Nat) : Int) = _; unfold D0; rw [if_neg (by simp only; omega)]
   rw [l2, Option.bind_some]; unfold HR; rw [if_pos (by simp only; omega)]; rfl
  | some c =>
   rw [h1] at hc; obtain ⟨c1, c2, c3⟩ := hc; have l2 := Rw (p.1, (T : Int)) (by simp only; omega) p.1.length (CJ 32 p.1 + 1) (by simp only; omega) (by simp only; omega); simp only [c3] at l2; rw [l2, Option.bind_some]; have hc2 := HT (c := 32) c.2; have hcl : c.2.length = p.1.length - (CJ 32 p.1 + 1) := by rw [← c3, List.length_drop]
   have hc1l : c.1.length ≤ p.1.length := by rw [← c2, List.length_take]; omega
   simp only [Option.bind_some]; unfold HR; simp only; cases h2 : Cu c.2 32 with
   | none =>
    rw [h2] at hc2; simp only at hc2; rw [if_pos (by omega)]; rfl
   | some d =>
    rw [h2] at hc2; obtain ⟨d1, d2, d3⟩ := hc2; have q1 : p.1.drop (CJ 32 p.1 + 1 + CJ 32 c.2 + 1) = d.2 := by rw [← d3, ← c3, List.drop_drop]; congr 1
    have q2 : (p.1.take (CJ 32 p.1 + 1 + CJ 32 c.2)).drop (CJ 32 p.1 + 1) = d.1 := by
     rw [List.drop_take, c3, show CJ 32 p.1 + 1 + CJ 32 c.2 - (CJ 32 p.1 + 1) = CJ 32 c.2 by omega, d2]
    have hdl1 : d.1.length ≤ c.2.length := by rw [← d2, List.length_take]; omega
    simp only [Option.bind_some]; rw [if_neg (by omega), Bq (by omega), Ad (by omega), Ad (by omega), Int.toNat_natCast, q1]; by_cases m3 : d.2 = Fo
    case neg => rw [if_pos (show ¬ d.2 = [72, 84, 84, 80, 47, 49, 46, 49] from m3), if_neg (fun e => m3 e.1)]; rfl
    rw [if_neg (fun e => e m3), Ad (by omega), Ad (by omega), Int.toNat_natCast, c2, Vl _ (by omega), Option.bind_some]; by_cases m1 : DN c.1 = true
    case neg => rw [if_pos m1, if_neg (fun e => m1 e.2.1)]; rfl
    rw [if_neg (fun e => e m1), Bq (by omega), Ad (by omega), Ad (by omega), Ad (by omega), Int.toNat_natCast, Int.toNat_natCast, q2, Vm _ (by omega), Option.bind_some]; by_cases m2 : Gy d.1 = true
    case neg => rw [if_pos m2, if_neg (fun e => m2 e.2.2)]; rfl
    rw [if_neg (fun e => e m2), if_pos ⟨m3, m1, m2⟩]; obtain ⟨v, v1, v2⟩ := On b T hb (by omega); rw [v1, Option.bind_some]; rw [hdl.1] at v2; cases hr : EG p.2 with
    | none =>
     rw [hr] at v2; simp only at v2; rw [if_pos (by simp [v2])]; rfl
    | some r =>
     rw [hr] at v2; simp only at v2; subst v2; rw [if_neg (by simp)]; rfl
def Fu (x y z : UInt8) : Nat := 100 * (x.toNat - 48) + 10 * (y.toNat - 48) + (z.toNat - 48)
def Jd (x : UInt8) : Prop := 48 ≤ x.toNat ∧ x.toNat ≤ 57
theorem Kp {x y z : UInt8} {n : Nat} (h : 100 ≤ n ∧ n ≤ 599) : DY [x, y, z] = some n ↔ Jd x ∧ Jd y ∧ Jd z ∧ Fu x y z = n := by
 rw [G5, XK h]; have t : ∀ k : Nat, k < 200 → (UInt8.ofNat k).toNat = k := fun k hk => by rw [UInt8.toNat_ofNat']; omega
 constructor
 ·rintro ⟨_, e⟩
  simp only [List.cons.injEq, and_true] at e; obtain ⟨rfl, rfl, rfl⟩ := e; unfold Jd Fu; rw [t _ (by omega), t _ (by omega), t _ (by omega)]; omega
 ·rintro ⟨h1, h2, h3, h4⟩
  unfold Jd Fu at *; refine ⟨by omega, ?_⟩; simp only [List.cons.injEq, and_true]; refine ⟨?_, ?_, ?_⟩ <;> refine UInt8.toNat_inj.1 ?_ <;> rw [t _ (by omega)] <;> omega
theorem Ph {x y z : UInt8} (h1 : Jd x) (h2 : Jd y) (h3 : Jd z) : IntKind.i64.wrap ((IntKind.i64.wrap ((IntKind.i64.wrap ((IntKind.i64.wrap (100 * (IntKind.i64.wrap ((IntKind.i64.wrap ((x.toNat : Int))) - 48)))) + (IntKind.i64.wrap (10 * (IntKind.i64.wrap ((IntKind.i64.wrap ((y.toNat : Int))) - 48)))))) + (IntKind.i64.wrap ((z.toNat : Int))))) - 48) = ((Fu x y z : Nat) : Int) := by
 unfold Jd at h1 h2 h3; unfold Fu; simp (disch := omega) only [wrap_i64]; omega
theorem VG (b : Str) (hb : b.length ≤ 400000) : F24 b = some (match CY Du b with | some x => ((⟨(x.1 : Int), x.2.1.map toS, x.2.2⟩ : S25), true) | none => ((⟨0, [], []⟩ : S25), false)) := by
 have e53 : F53 b 0 = _ := H6 b 0 (by omega) (Nat.zero_le _); rw [List.drop_zero] at e53; rw [Ko]; unfold F24; rw [e53, Option.bind_some]; cases hL : AM b with
 | none => rfl
 | some p =>
  have hdl := F3 (b := b) (a := 0) (p := p) (by simpa using hL); simp only [Option.bind_some]; generalize hT : 0 + p.1.length + 2 = T at hdl; rw [if_neg (by omega)]; unfold Du; by_cases h12 : 12 ≤ p.1.length
  case neg => rw [if_pos (by omega), if_neg (fun e => h12 e.2)]; rfl
  rw [if_neg (by omega), Ad (by omega), Ad (by omega)]; by_cases h9 : p.1.take 9 = Fo ++ [32]
  case neg => rw [if_pos (show ¬ p.1.take 9 = [72, 84, 84, 80, 47, 49, 46, 49, 32] from h9), if_neg (fun e => h9 e.1)]; rfl
  rw [if_neg (fun e => e h9), if_pos (show p.1.take 9 = Fo ++ [32] ∧ 12 ≤ p.1.length from ⟨h9, h12⟩), Ad (by omega), Ad (by omega)]; have g9 : (9 : Nat) < p.1.length := by omega
  have hT3 : (p.1.drop 9).take 3 = [p.1[9], p.1[10], p.1[11]] := by
   rw [List.drop_eq_getElem_cons (by omega), List.drop_eq_getElem_cons (by omega), List.drop_eq_getElem_cons (by omega)]; rfl
  have hT3' : (p.1.take 12).drop 9 = [p.1[9], p.1[10], p.1[11]] := by rw [List.drop_take]; exact hT3
  rw [hT3, hT3']; have e55 : F55 [p.1[9], p.1[10], p.1[11]] 48 57 = _ := Iz [p.1[9], p.1[10], p.1[11]] 48 57 (by simp); rw [e55, Option.bind_some]; by_cases hdg : Jd p.1[9] ∧ Jd p.1[10] ∧ Jd p.1[11]
  case neg =>
   rw [if_pos (by
     intro e
     rw [J5] at e
     exact hdg ⟨e _ (by simp), e _ (by simp), e _ (by simp)⟩)]
   have : ∀ n, ¬ (DY [p.1[9], p.1[10], p.1[11]] = some n ∧ 100 ≤ n ∧ n ≤ 599) := fun n e => by
    have := (Kp e.2).1 e.1; exact hdg ⟨this.1, this.2.1, this.2.2.1⟩
   cases hN : DY [p.1[9], p.1[10], p.1[11]] with
   | none => rfl
   | some n =>
    rw [Option.bind_some, if_neg (fun e => this n ⟨hN, e.1, e.2.1⟩)]; rfl
  rw [if_neg (fun e => e (by
    rw [J5]
    intro x hx
    simp only [List.mem_cons, List.not_mem_nil, or_false] at hx
    rcases hx with rfl | rfl | rfl
    · exact hdg.1
    · exact hdg.2.1
    · exact hdg.2.2))]
  -- the part behind the code
  have key : GV b (p.1, (T : Int)) = some (match EG p.2 with | some r => if 100 ≤ Fu p.1[9] p.1[10] p.1[11] ∧ Fu p.1[9] p.1[10] p.1[11] ≤ 599 then ((⟨((Fu p.1[9] p.1[10] p.1[11] : Nat) : Int), r.1.map toS, r.2⟩ : S25), true) else ((⟨0, [], []⟩ : S25), false) | none => ((⟨0, [], []⟩ : S25), false)) := by
   obtain ⟨v, v1, v2⟩ := On b T hb (by omega); unfold GV; simp only; rw [Ad (by omega), Ad (by omega), Ad (by omega), v1, Option.bind_some, getD_some (by omega), getD_some (by omega), getD_some (by omega)]; rw [hdl.1] at v2; have t1 := p.1[9].toNat_lt; have t2 := p.1[10].toNat_lt; have t3 := p.1[11].toNat_lt; have hcode := Ph hdg.1 hdg.2.1 hdg.2.2; rw [hcode]; cases hr : EG p.2 with
   | none =>
    rw [hr] at v2; simp only at v2; rw [if_pos (by simp [v2])]
   | some r =>
    rw [hr] at v2; simp only at v2; subst v2; rw [if_neg (by simp)]; simp only; by_cases c1 : 100 ≤ Fu p.1[9] p.1[10] p.1[11]
    case neg => rw [if_pos (by omega), if_neg (fun e => c1 e.1)]
    by_cases c2 : Fu p.1[9] p.1[10] p.1[11] ≤ 599
    case neg => rw [if_neg (by omega), if_pos (by omega), if_neg (fun e => c2 e.2)]
    rw [if_neg (by omega), if_neg (by omega), if_pos ⟨c1, c2⟩]
  have hfin : (GV b (p.1, (T : Int))) = some (match (if FX (p.1.drop 12) = true then ((DY [p.1[9], p.1[10], p.1[11]]).bind fun n => if 100 ≤ n ∧ n ≤ 599 then some n else none).bind fun x => (EG p.2).map fun r => (x, r.1, r.2) else (DY [p.1[9], p.1[10], p.1[11]]).bind fun n => if 100 ≤ n ∧ n ≤ 599 then (EG p.2).map fun r => (n, r.1, r.2) else none) with | some x => ((⟨(x.1 : Int), x.2.1.map toS, x.2.2⟩ : S25), true) | none => ((⟨0, [], []⟩ : S25), false)) := by
   rw [key]; by_cases hcd : 100 ≤ Fu p.1[9] p.1[10] p.1[11] ∧ Fu p.1[9] p.1[10] p.1[11] ≤ 599
   ·have hN := (Kp hcd).2 ⟨hdg.1, hdg.2.1, hdg.2.2, rfl⟩; rw [hN, Option.bind_some, Option.bind_some, if_pos hcd, if_pos hcd, Option.bind_some, ite_self]; cases EG p.2 with
    | none => rfl
    | some r => simp only [if_pos hcd]; rfl
   ·have hN : ∀ n, ¬ (DY [p.1[9], p.1[10], p.1[11]] = some n ∧ 100 ≤ n ∧ n ≤ 599) := fun n e => by
     have h := (Kp e.2).1 e.1; exact hcd (by rw [h.2.2.2]; exact e.2)
    have hno : ((DY [p.1[9], p.1[10], p.1[11]]).bind fun n => if 100 ≤ n ∧ n ≤ 599 then some n else none) = none := by
     cases hn : DY [p.1[9], p.1[10], p.1[11]] with
     | none => rfl
     | some n => rw [Option.bind_some, if_neg (fun e => hN n ⟨hn, e⟩)]
    have hno2 : ((DY [p.1[9], p.1[10], p.1[11]]).bind fun n => if 100 ≤ n ∧ n ≤ 599 then (EG p.2).map fun r => (n, r.1, r.2) else none) = none := by
     cases hn : DY [p.1[9], p.1[10], p.1[11]] with
     | none => rfl
     | some n => rw [Option.bind_some, if_neg (fun e => hN n ⟨hn, e⟩)]
    rw [hno, hno2, Option.bind_none, ite_self]; cases EG p.2 with
    | none => rfl
    | some r => simp only [if_neg hcd]
  by_cases hB : FX (p.1.drop 12) = true
  ·have hgoal : ((DY [p.1[9], p.1[10], p.1[11]]).bind fun n => if 100 ≤ n ∧ n ≤ 599 ∧ FX (p.1.drop 12) = true then some n else none) = ((DY [p.1[9], p.1[10], p.1[11]]).bind fun n => if 100 ≤ n ∧ n ≤ 599 then some n else none) := by
    simp only [hB, and_true]
   rw [hgoal]; rw [if_pos hB] at hfin; by_cases h13 : (12 : Int) < p.1.length
   ·rw [if_pos h13, Ad (by omega)]; have hne : ¬ p.1.drop 12 = [] := fun e => by have := List.drop_eq_nil_iff.1 e; omega
    unfold FX at hB; rw [decide_eq_false hne, Bool.false_or, Bool.and_eq_true, decide_eq_true_eq] at hB; have hg : (p.1.drop 12).getD 0 0 = p.1.getD 12 0 := by simp [List.getD_eq_getElem?_getD]
    rw [hg] at hB; have e32 : F55 (p.1.drop 12) 32 126 = _ := Iz (p.1.drop 12) 32 126 (by rw [List.length_drop]; omega); rw [if_neg (fun e => e (D7.2 hB.1)), e32, Option.bind_some, if_neg (fun e => e hB.2)]; exact hfin
   ·rw [if_neg h13]; exact hfin
  ·have hgoal : ((DY [p.1[9], p.1[10], p.1[11]]).bind fun n => if 100 ≤ n ∧ n ≤ 599 ∧ FX (p.1.drop 12) = true then some n else none) = none := by
    cases DY [p.1[9], p.1[10], p.1[11]] with
    | none => rfl
    | some n => rw [Option.bind_some, if_neg (fun e => hB e.2.2)]
   rw [hgoal, Option.bind_none]; have hne : ¬ p.1.drop 12 = [] := fun e => hB (by unfold FX; simp [e]); have h13 : 12 < p.1.length := by
    refine Nat.lt_of_not_le fun e => hne (List.drop_eq_nil_iff.2 e)
   rw [if_pos (by omega), Ad (by omega)]; have hg : (p.1.drop 12).getD 0 0 = p.1.getD 12 0 := by simp [List.getD_eq_getElem?_getD]
   by_cases c1 : p.1.getD 12 0 = 32
   case neg => rw [if_pos (fun e => c1 (D7.1 e))]
   have e32 : F55 (p.1.drop 12) 32 126 = _ := Iz (p.1.drop 12) 32 126 (by rw [List.length_drop]; omega); rw [if_neg (fun e => e (D7.2 c1)), e32, Option.bind_some, if_pos]; intro e; refine hB ?_; unfold FX; rw [hg, decide_eq_true c1, e, Bool.true_and, Bool.or_true]
theorem XO (b : Str) : F7 b = some (.ok true) := by
 unfold F7; by_cases h : (4000 : Int) < b.length
 ·rw [if_pos h, F2 Ro]
 rw [if_neg h, F2 (Vz b (by omega)), F2 (Rm b (by omega)), VF b (by omega), Option.bind_some, VG b (by omega), Option.bind_some]; have hh : ∀ (first : Str → Option (Str × Str)) x, CY first b = some x → x.2.1.length ≤ 16 := fun first x e => by
  unfold CY at e; obtain ⟨p, h1, e⟩ := Option.bind_eq_some_iff.1 e; obtain ⟨y, h2, e⟩ := Option.bind_eq_some_iff.1 e; obtain ⟨q, h3, e⟩ := Option.bind_eq_some_iff.1 e; obtain ⟨r, h4, e⟩ := Option.bind_eq_some_iff.1 e; split at e
  ·rename_i h5; cases e; simp only [D5, OW, Bool.and_eq_true, decide_eq_true_eq] at h5; exact h5.2.1.2
  ·cases e
 have hh2 : ∀ (first : Str → Option Nat) x, CY first b = some x → x.2.1.length ≤ 16 := fun first x e => by
  unfold CY at e; obtain ⟨p, h1, e⟩ := Option.bind_eq_some_iff.1 e; obtain ⟨y, h2, e⟩ := Option.bind_eq_some_iff.1 e; obtain ⟨q, h3, e⟩ := Option.bind_eq_some_iff.1 e; obtain ⟨r, h4, e⟩ := Option.bind_eq_some_iff.1 e; split at e
  ·rename_i h5; cases e; simp only [D5, OW, Bool.and_eq_true, decide_eq_true_eq] at h5; exact h5.2.1.2
  ·cases e
 unfold MP LS; have k18 : Iv (match CY Du b with | some x => (⟨(x.1 : Int), x.2.1.map toS, x.2.2⟩, 0) | none => (⟨0, [], []⟩, 220)) (match CY Du b with | some x => ((⟨(x.1 : Int), x.2.1.map toS, x.2.2⟩ : S25), true) | none => ((⟨0, [], []⟩ : S25), false)) = some (.ok true) := by
  unfold Iv; cases hr : CY Du b with
  | some x =>
   have := hh2 _ x hr; simp only; rw [if_pos (by simp), if_pos trivial, R8 _ _ (by simp only [List.length_map]; omega), Option.bind_some, if_pos (by simp), F2 Ro]
  | none =>
   simp only; rw [if_pos (by simp), if_neg (by simp), if_pos trivial, R8 _ _ (by simp), Option.bind_some, if_pos (by simp), F2 Ro]
 cases hq : CY FW b with
 | some x =>
  have := hh _ x hq; simp only; rw [if_neg (by simp), if_neg (by simp), R7 _ _ (by simp only [List.length_map]; omega), Option.bind_some, if_neg (by simp)]; exact k18
 | none =>
  simp only; rw [if_neg (by simp), if_pos (by simp), if_neg (by simp), R7 _ _ (by simp), Option.bind_some, if_neg (by simp)]; exact k18
end Go.Idl
namespace Go.Proofs
open Go.Shelf
def Tryz.LV : Go.Shelf.Ren := ⟨fun | 145 => 89 | 220 => 118 | 219 => 132 | 217 => 159 | 225 => 160 | 224 => 144 | 267 => 161 | 266 => 172 | 314 => 173 | n => n, fun | 9 => 9 | 4 => 4 | 59 => 127 | 3 => 3 | 5 => 5 | 46 => 152 | 146 => 189 | 51 => 163 | n => n, fun | 1 => 3 | n => n⟩
theorem Tryz.Rx : Go.Proofs.LaysM.n145 Tryz.prog Tryz.LV := {
  mixed := by kernel_rfl
  f145 := Tryz.func89.trans (congrArg some (by kernel_rfl))
  f217 := Tryz.func159.trans (congrArg some (by kernel_rfl))
  f219 := Tryz.func132.trans (congrArg some (by kernel_rfl))
  f220 := Tryz.func118.trans (congrArg some (by kernel_rfl))
  f224 := Tryz.func144.trans (congrArg some (by kernel_rfl))
  f225 := Tryz.func160.trans (congrArg some (by kernel_rfl))
  f266 := Tryz.func172.trans (congrArg some (by kernel_rfl))
  f267 := Tryz.func161.trans (congrArg some (by kernel_rfl))
  f314 := Tryz.func173.trans (congrArg some (by kernel_rfl))
  t3 := Tryz.underlying3
  a3 := Tryz.isAgg3
  z3 := Tryz.sizeOf3
  v3 := Tryz.zeroValue3
  t4 := Tryz.underlying4
  a4 := Tryz.isAgg4
  z4 := Tryz.sizeOf4
  v4 := Tryz.zeroValue4
  t5 := Tryz.underlying5
  a5 := Tryz.isAgg5
  z5 := Tryz.sizeOf5
  v5 := Tryz.zeroValue5
  t9 := Tryz.underlying9
  a9 := Tryz.isAgg9
  z9 := Tryz.sizeOf9
  v9 := Tryz.zeroValue9
  t46 := Tryz.underlying152
  a46 := Tryz.isAgg152
  z46 := Tryz.sizeOf152
  v46 := Tryz.zeroValue152
  t51 := Tryz.underlying163
  a51 := Tryz.isAgg163
  z51 := Tryz.sizeOf163
  v51 := Tryz.zeroValue163
  t59 := Tryz.underlying127
  a59 := Tryz.isAgg127
  z59 := Tryz.sizeOf127
  v59 := Tryz.zeroValue127
  t146 := Tryz.underlying189
  a146 := Tryz.isAgg189
  z146 := Tryz.sizeOf189
  v146 := Tryz.zeroValue189
  g1 := by kernel_rfl
  i3 := by kernel_rfl
  i4 := by kernel_rfl
  i5 := by kernel_rfl
  i9 := by kernel_rfl
  i46 := by kernel_rfl
  i51 := by kernel_rfl
  i59 := by kernel_rfl
  i146 := by kernel_rfl
  m1 := by kernel_rfl
  s1_3 := fun w h => Go.Proofs.cell_of_shapedOpen_int (zero := #[.int .i64 0]) (t := 3) h (of_decide_eq_true (by kernel_rfl)) (by kernel_rfl) rfl (by kernel_rfl) (by kernel_rfl) Tryz.underlying3 }
end Go.Proofs
namespace Go.Idl
open Go Go.RowKit Go.ChangeShapes Go.WideShapes
def HV (vs : List (Nat × Array Value)) : A3 := { next := 0, obj := fun _ => none, sn := [IX vs] }
theorem ZH (w : World) (vs : List (Nat × Array Value)) (h : ∀ p, p ∈ vs → ∃ el f, w.heap[p.1]? = some (.cells p.2 el f)) : Sim w g0 (HV vs) where
  nx := rfl
  sh := fun _ => rfl
  lt := fun k h => by cases h
  bk := fun k b h => by cases h
  inj := fun k k' b h => by cases h
  obj := fun k o h => by cases h
  old := fun b h => h.elim
  snap := fun p hp i hi => by
    obtain rfl : p = IX vs := by simpa [HV] using hp
    have hl : i < vs.length := by simpa [IX] using hi
    obtain ⟨el, f, h1⟩ := h _ (List.getElem_mem hl)
    simp only [IX, List.getElem?_eq_getElem hl]
    exact .blk _ _ el f _ (ow0 _) h1
theorem NY {P : Program} {w : World} {name : String} {b : Nat} {xs : Array Value} (hg : P.globalNamed name = some b) (h : w.var? P name = some xs) : ∃ el f, w.heap[b]? = some (.cells xs el f) := by
 unfold World.var? at h; rw [hg] at h; simp only [Option.bind_some] at h; split at h
 ·rename_i cs el f hc; cases h; exact ⟨el, f, hc⟩
 ·cases h
theorem SX {w : World} {b i : Nat} {x : Value} (h : w.cell? ⟨b, i, none⟩ = some x) : ∃ xs el f, w.heap[b]? = some (.cells xs el f) ∧ xs[i]? = some x := by
 simp only [World.cell?] at h; cases hb : w.heap[b]? with
 | none => rw [hb] at h; simp at h
 | some o =>
  rw [hb] at h; cases o with
  | cells xs el f => exact ⟨xs, el, f, rfl, by simpa using h⟩
  | _ => simp at h
theorem ID {H : Type} {enc : TypeId × Value → H} {a : Assume} {C : Checked} {os : Os} {f : FuncId} {fn : Func} {s : ChangeSpec} {conds : List PathCond} {apart fresh handsOn again : Bool} {X : World → Array Value → Prop}
    (hX : ∀ (w w' : World) (args : Array Value), w.heap = w'.heap → X w args → X w' args)
    (own : ownKnob C.prog.godebug = none) (started : os.Started) (noInit : C.prog.inits.idxOf? f = none) (hfn : C.prog.funcs[f]? = some fn)
    (witness : ∃ (w : World) (tape : Tape) (i : Input), w.os = os ∧ (w.forCall tape i).Shaped C.prog ∧ i.vars = [] ∧ Input.okWide C.prog (w.forCall tape i) .any w.heap.size f i ∧
      ((s.pre enc C.prog fn conds apart (w.forCall tape i).memory i.args ∧ X (w.forCall tape i).memory i.args) ∧ sizedMet enc C.prog fn (OpenSpec.ofChange s) apart (w.forCall tape i).memory i.args) ∧ a.holds C.prog (lone (Frame.enter C.prog f i.args .normal) [] (w.forCall tape i)))
    (contract : ∀ (W : World) (base : Nat) (args : Array Value) (ds gs : List (DataW H)) (before : List MemPlace),
      (∀ (j : Nat) t v, fn.params[j]? = some t → args[j]? = some v → Value.okWide C.prog W .any base t v) →
      DataW.Whole enc C.prog fn.params.toList s.vars apart W args.toList ds gs before →
      (DataW.weightsEach C.prog (fn.params.toList ++ s.plain.varTypes C.prog) (ds ++ gs)).all (· ≤ reachBytes) = true → X W args → W.ShapedOpen C.prog →
      Calls C.prog f args W fun e W' => ∃ v, e = .returned v ∧ s.post enc C.prog fn apart fresh handsOn again W args v W') :
    ReturnsInHanded a C os f .any (fun w args => (s.pre enc C.prog fn conds apart w args ∧ X w args) ∧ sizedMet enc C.prog fn (OpenSpec.ofChange s) apart w args) (s.post enc C.prog fn apart fresh handsOn again) := by
 refine returnsInHanded_of_calls own started noInit witness ?_; intro w tape i _ shape _ ok pre _; obtain ⟨_, _, _, fn2, hfn2, _, _, _, _, val⟩ := ok; have e := Option.some.inj (hfn2.symm.trans hfn); subst e; obtain ⟨⟨⟨ds, gs, before, whole, _⟩, laid⟩, sized⟩ := pre; refine Calls.mono (contract (w.forCall tape i) w.heap.size i.args ds gs before val (DataW.Whole.of_heap (by rfl) whole) (sized.weights whole) (hX _ _ _ (by rfl) laid) shape) ?_
 rintro _ W' ⟨v, rfl, post⟩
 exact ChangeSpec.post_blind post
end Go.Idl
namespace Go.Idl
open Go Go.RowKit Go.ChangeShapes Go.WideShapes
variable {P : Program} {w : World} {Hh : Type} {enc : TypeId × Value → Hh}
def RdZ (P : Program) (w : World) {Hh : Type} (enc : TypeId × Value → Hh) (t : TypeId) (S : List IV → Prop) : Prop :=
  ∀ (base : Nat) (spare : Nat → Bool) (held : Bool) (fuel : Nat) (cs : List Value) (x : DataW Hh × List MemPlace), DataW.trod enc P w base spare held fuel t cs = some x → (∀ n ∈ x.1.weights P t, n ≤ reachBytes) →
    ∃ is, S is ∧ is.length = cs.length ∧ ∀ (j : Nat) (c : Value) (i : IV), cs[j]? = some c → is[j]? = some i → c.oneCell' = true ∧ R w g0 c i
theorem Rd.z {t : TypeId} {S : List IV → Prop} (h : Rd P w enc t S) : RdZ P w enc t S := fun base spare held fuel cs x hx _ => h base spare held fuel cs x hx
theorem RdZ.mono {t : TypeId} {S S' : List IV → Prop} (h : RdZ P w enc t S) (hs : ∀ is, S is → S' is) : RdZ P w enc t S' := fun base spare held fuel cs x hx hz => let ⟨is, h1, h2⟩ := h base spare held fuel cs x hx hz; ⟨is, hs _ h1, h2⟩
theorem RdZ.one {t : TypeId} {v : Value} {d : DataW Hh} {ps : List MemPlace} {S : List IV → Prop} {base : Nat} {spare : Nat → Bool} {held : Bool} (h : RdZ P w enc t S) (hv : v.cells = #[v]) (hd : DataW.Trod enc P w base spare held t v d ps)
    {ts : List TypeId} {ds : List (DataW Hh)} (hw : (DataW.weightsEach P ts ds).all (· ≤ reachBytes) = true) {k : Nat} (h1 : ts[k]? = some t) (h2 : ds[k]? = some d) : ∃ i, S [i] ∧ R w g0 v i := by
 obtain ⟨fuel, hf⟩ := hd; obtain ⟨is, h1, h2, h3⟩ := h _ _ _ _ _ _ hf fun n hn => by simpa using List.all_eq_true.1 hw _ (DataW.weights_mem_each h1 h2 n hn)
 rw [hv] at h2 h3
 match is, h2, h1, h3 with
 | [i], _, h1, h3 => exact ⟨i, h1, (h3 0 v i rfl rfl).2⟩
end Go.Idl
namespace Go.Idl
open Go Go.RowKit Go.ChangeShapes Go.WideShapes
variable {P : Program} {w : World} {Hh : Type} {enc : TypeId × Value → Hh}
theorem RdZ.agg {t : TypeId} {cs : Array Value} {d : DataW Hh} {ps : List MemPlace} {S : List IV → Prop} {base : Nat} {spare : Nat → Bool} {held : Bool} (h : RdZ P w enc t S) (hd : DataW.Trod enc P w base spare held t (.agg cs) d ps)
    {ts : List TypeId} {ds : List (DataW Hh)} (hw : (DataW.weightsEach P ts ds).all (· ≤ reachBytes) = true) {k : Nat} (h1 : ts[k]? = some t) (h2 : ds[k]? = some d) : ∃ is, S is ∧ R w g0 (.agg cs) (.ag is) := by
 obtain ⟨fuel, hf⟩ := hd; obtain ⟨is, h1, h2, h3⟩ := h _ _ _ _ _ _ hf fun n hn => by simpa using List.all_eq_true.1 hw _ (DataW.weights_mem_each h1 h2 n hn)
 have hcs : (Value.agg cs).cells.toList = cs.toList := rfl; rw [hcs] at h2 h3; refine ⟨is, h1, .ag cs is (by simpa using h2.symm) (fun j x hx => ?_) fun j x c hx hc => (h3 j x c (by simpa using hx) hc).2⟩; have hlt : j < is.length := by
  have := (Array.getElem?_eq_some_iff.1 hx).1; rw [h2]; simpa using this
 exact (h3 j x is[j] (by simpa using hx) (List.getElem?_eq_getElem hlt)).1
theorem XP {t : TypeId} (hu : P.underlying t = some (.int .u8)) : Rd P w enc t fun is => ∃ x : UInt8, is = [.v (.int .u8 x.toNat)] := by
 intro base spare held fuel cs x h; obtain ⟨n, rfl, _, hw⟩ := DataW.trod_int hu h; simp only [Lit.wf, Bool.and_eq_true, decide_eq_true_eq] at hw; have h1 : (0 : Int) ≤ n := hw.1; have h2 : n ≤ 255 := hw.2; refine ⟨_, ⟨UInt8.ofNat n.toNat, rfl⟩, rfl, ND rfl ?_⟩; have e : ((UInt8.ofNat n.toNat).toNat : Int) = n := by
  rw [UInt8.toNat_ofNat']; omega
 rw [e]; exact .v _
end Go.Idl
namespace Go.Proofs.YtdgfbojdppohnaaGreatDoor
open Go Go.ChangeShapes Go.WideShapes Go.ChangeAt Go.RowKit Go.Idl
theorem SY : ownKnob Tryz.prog.godebug = none := by kernel_rfl
theorem NZ : laidOutB Tryz.prog = true := by kernel_rfl
def HW : List (String × DataW Unit) := Rows.httpRequestsRow.laid
theorem Pj (os : Os) (args : Array Value) : laidMetH Tryz.prog HW ((World.laidAll Tryz.prog os HW).forCall (fun _ _ => 0) ⟨#[], args, []⟩).memory := by
 rw [MakeChecks.laidMetH_plain _ _ _ (by kernel_rfl)]; exact laidMet_laidAll _ (by kernel_rfl) (by kernel_rfl)
theorem MU (os : Os) : (World.laidAll Tryz.prog os HW).Shaped Tryz.prog := World.shaped_of_ZipB (by kernel_rfl) (by kernel_rfl)
theorem TB : "*" ++ "errors.errorString" = "*errors.errorString" := by decide
theorem Ry (u : TypeId) (h : Tryz.prog.typeName? 3 u = some "*errors.errorString") : u = 173 :=
  typeName_ptr_named (nm := "errors.errorString") (by rw [TB]; kernel_rfl) (by kernel_rfl) (by decide) u (by rw [TB]; exact h)
theorem JQ : Tryz.prog.cellsOf 175 = 1 := by kernel_rfl
theorem Oo : Tryz.prog.cellsOf 9 = 1 := by kernel_rfl
theorem VH : Tryz.prog.globalNamed "internal/strconv.uint64pow10" = some 2 := by kernel_rfl
theorem ZI : Tryz.prog.globalNamed "internal/bytealg.MaxLen" = some 3 := by kernel_rfl
theorem VI : Tryz.prog.globalNamed "strconv.ErrSyntax" = some 0 := by kernel_rfl
theorem VJ : Tryz.prog.globalNamed "strconv.ErrRange" = some 1 := by kernel_rfl
theorem Pk {W : World} (hL : laidMetH Tryz.prog HW W) (hs : W.ShapedOpen Tryz.prog) : ∃ vs : List (Nat × Array Value), (∀ p, p ∈ vs → ∃ el f, W.heap[p.1]? = some (.cells p.2 el f)) ∧ VOK Tryz.prog (HV vs) := by
 have h0 : laidMet Tryz.prog HW W := hL; have h2 := h0.tail.tail; have hT : Lib.TabIs Tryz.prog W "internal/strconv.uint64pow10" .u64 Lib.pow10Tab :=
  Lib.tabIs_of_head (t := 162) (e := 135) (n := 20) VH (by kernel_rfl) Tryz.underlying162 Tryz.underlying135 (by kernel_rfl) (by kernel_rfl) h2
 obtain ⟨a3, s3, hv3, _, _, _⟩ := laid_sentinel h2.tail.tail VJ (by kernel_rfl) Tryz.underlying65 Ry Tryz.underlying173 Tryz.underlying175 rfl rfl Tryz.underlying9 JQ Oo; obtain ⟨a2, s2, hv2, _, _, _⟩ := laid_sentinel h2.tail.tail.tail VI (by kernel_rfl) Tryz.underlying65 Ry Tryz.underlying173 Tryz.underlying175 rfl rfl Tryz.underlying9 JQ Oo; obtain ⟨m, hm⟩ := Tryz.Rx.s1_3 W hs; obtain ⟨x4, el4, f4, hx4, hm4⟩ := SX hm; refine ⟨[(2, (Lib.pow10Tab.map fun z => Value.int .u64 z).toArray), (0, #[.iface 173 (.pointer (some a2))]), (1, #[.iface 173 (.pointer (some a3))]), (3, x4)], ?_, ?_⟩
 ·intro p hp; simp only [List.mem_cons, List.not_mem_nil, or_false] at hp; rcases hp with rfl | rfl | rfl | rfl
  ·exact NY VH hT
  ·exact NY VI hv2
  ·exact NY VJ hv3
  ·exact ⟨el4, f4, hx4⟩
 ·exact ⟨2, 0, 1, 3, 173, 173, .pointer (some a2), .pointer (some a3), x4, m, VH, VI, VJ, ZI, hm4, List.mem_singleton.2 rfl⟩
section
variable {w : World} {Hh : Type} {enc : TypeId × Value → Hh}
theorem ZJ : RdZ Tryz.prog w enc 23 fun is => ∃ l : List UInt8, is = [.sl 1 (l.map fun x => [.v (.int .u8 x.toNat)])] := by
 have h := Qe (w := w) (enc := enc) (fun x : UInt8 => [IV.v (.int .u8 x.toNat)]) Tryz.underlying23 (Nat.lt_of_lt_of_eq Nat.one_pos Ni.symm) (XP Tryz.underlying5); rw [Ni] at h; exact h.z
end
end Go.Proofs.YtdgfbojdppohnaaGreatDoor
namespace Go.Proofs.YtdgfbojdppohnaaGreatDoor
open Go Go.ChangeShapes Go.WideShapes Go.ChangeAt Go.RowKit Go.Idl
set_option maxRecDepth 100000 in
theorem IE (os : Os) (started : os.Started) (H : Type) (enc : TypeId × Value → H) :
    ReturnsInHanded {} Tryz.checked os 7 .any (fun w args => (Rows.httpReadsSpec.pre enc Tryz.prog Tryz.f7 [] false w args ∧ laidMetH Tryz.prog HW w) ∧ sizedMet enc Tryz.prog Tryz.f7 (OpenSpec.ofChange Rows.httpReadsSpec) false w args)
      (Rows.httpReadsSpec.post enc Tryz.prog Tryz.f7 false true false false) := by
 refine ID (C := Tryz.checked) (X := fun w _ => laidMetH Tryz.prog HW w) (fun _ _ _ hh h => h.of_heap hh) SY started (by kernel_rfl) Tryz.func7
  (ChangeSpec.witness_shaped (enc := enc) (C := Tryz.checked) (os := os) (X := fun w _ => laidMetH Tryz.prog HW w) false (World.laidAll Tryz.prog os HW) #[.slice none 0 0] 8 (World.laidAll_os _ _ _) (MU os) (by kernel_rfl) (by kernel_rfl) (by kernel_rfl) (Pj os _)) ?_
 intro W base args ds gs before hval0 hW hwt hL hshape; have hval : ∀ (j : Nat) t v, Tryz.f7.params[j]? = some t → args[j]? = some v → Value.okWide Tryz.prog W .any base t v := hval0; have hW' := hW; obtain ⟨p, q, hA0, hV, rfl, hfz, hnd⟩ := hW; have hA : DataW.TrodAll enc Tryz.prog W 0 (fun _ => true) true Tryz.f7.params.toList args.toList ds p := hA0; rw [Tryz.params7] at hA hval; obtain ⟨v0, d0, rfl, rfl, h0⟩ := trodAll_one hA; obtain ⟨rfl, rfl⟩ := trodVars_none hV; simp only [List.append_nil] at hW'; have hlt := hW'.lt; have hwt' : (DataW.weightsEach Tryz.prog [23] [d0]).all (· ≤ reachBytes) = true := hwt; obtain ⟨a0, len0, cap0, rfl⟩ := okWide_slice Tryz.underlying23 (hval 0 23 v0 rfl rfl); obtain ⟨i0, ⟨x0, e0⟩, r0⟩ := ZJ.one rfl h0 hwt' (k := 0) rfl rfl; simp only [List.cons.injEq, and_true] at e0; subst e0; obtain ⟨vs, hvs, hvok⟩ := Pk hL hshape
 have hcall := (XJ (H := HV vs) (K := fun e _ => e = .ret (.v (.bool true))) x0 hvok (XO x0 )  (fun _ h => by cases h) (fun v h => by cases h; rfl)).run W g0 #[.slice a0 len0 cap0] (ZH W vs hvs) ⟨rfl, fun j x i hx hi => by
   match j, hx, hi with
   | 0, hx, hi => simp at hx hi; subst hx; subst hi; exact r0
   | j + 1, hx, hi => simp at hx⟩
 refine hcall.mono ?_
 rintro e W' ⟨ie, g', H', hm, _, hre, rfl⟩
 have hb := Kx hm; obtain ⟨rfl⟩ : e = .returned (.bool true) := by
  cases hre with
  | ret x i h => rw [h.v_eq]
 refine ⟨_, rfl, ?_⟩; refine ⟨_, _, _, [], p, [], hW', trodAll_mk1 (shut_bool Tryz.underlying4 _), ?_, ?_, hb.frame _, fun h => by cases h⟩
 ·have hl0 : ∀ x ∈ p, x.block < W.heap.size := fun x hx => hlt x (by simp [hx]); have k0 := Below.trod NZ (by kernel_rfl) (of_decide_eq_true (by kernel_rfl)) h0 hb hl0; exact ⟨p, [], k0, rfl, by simp⟩
 ·rfl
theorem KC : Rows.HttpReadsSaid :=
  OpenClaim.holds_of_wide 7 Tryz.f7 rfl rfl rfl rfl rfl rfl rfl ⟨rfl, rfl, rfl, rfl, rfl⟩ rfl rfl rfl rfl rfl (by kernel_rfl) Tryz.func7 (by kernel_rfl)
    (of_decide_eq_true (by kernel_rfl)) (by unfold Func.isWrapper; first | (rw [if_pos (by decide +kernel)]; kernel_rfl) | (rw [if_neg (by decide +kernel)]; exact ⟨rfl, rfl⟩))
    (fun os started H enc _ => IE os started H enc)
theorem httpReads_holds : Rows.HttpReadsCardSaid :=
  Claim7.holds_tied_plain_at .later [] [.data, .data, .data, .data, .sentinel, .sentinel, .pinned] true (true, "663d7417cfa5581ae58ce8d2d6daa051cc224b06a548bf6383bd50ff79baa317") true
    KC (fun _ h => by cases h) (by kernel_rfl) (fun _ h => by cases h) httpReads_row_tie rfl ⟨rfl, rfl⟩ (by kernel_rfl) rfl
    (fun f fn hf hfn => by
      obtain rfl : f = 7 := Option.some.inj ((show Tryz.prog.funcNamed "cardcase/cardcaselaw12.HttpReads" = some 7 by kernel_rfl).symm.trans hf) |>.symm
      obtain rfl : fn = Tryz.f7 := (Option.some.inj (Tryz.func7.symm.trans hfn)).symm
      exact ⟨by kernel_rfl, fun j t ht => by
        rw [Tryz.params7] at ht
        have hm : t ∈ [23] := by simpa using Array.mem_of_getElem? ht
        have hall : ([23].all fun u => !Tryz.prog.wantsStandIn u) = true := by kernel_rfl
        exact (show Tryz.prog.wantsStandIn t = false by simpa using List.all_eq_true.1 hall t hm)⟩)
    (by kernel_rfl)
end Go.Proofs.YtdgfbojdppohnaaGreatDoor
