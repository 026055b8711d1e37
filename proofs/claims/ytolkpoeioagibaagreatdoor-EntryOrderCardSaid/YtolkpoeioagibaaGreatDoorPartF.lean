/- EntryOrder returns true whatever its arguments and leaves them as they were. Part 6. Conditions: none. -/
import Derived.Test.YtolkpoeioagibaaGreatDoorPartE
import Derived.Sort.Walk0
import Derived.ProofKit
import Derived.OpenShut
import Derived.ChangeSame
set_option linter.unusedSimpArgs false
set_option linter.unusedVariables false

namespace Go.Idl

open Go Go.Proofs.Tryz

/-! cardcase/cardcaseref06.Name -/

noncomputable def F49_k12  : Option Bool :=
 some true

noncomputable def F49_b12 (a0 : List UInt8) (v13 : Int) : Option (Int ⊕ (Unit ⊕ Bool)) :=
 if v13 < (a0.length : Int) then (gd (0 ≤ v13 ∧ v13 < a0.length) ((F87 (((a0.getD v13.toNat 0).toNat : Int))).bind fun (x21 : Bool) => if ¬ (x21 = true) then (if (((a0.getD v13.toNat 0).toNat : Int)) < 48 then (if ¬ (((a0.getD v13.toNat 0).toNat : Int)) = 45 then (some (.inr (.inr false))) else (some (.inl (IntKind.i64.wrap (v13 + 1))))) else (if 57 < (((a0.getD v13.toNat 0).toNat : Int)) then (if ¬ (((a0.getD v13.toNat 0).toNat : Int)) = 45 then (some (.inr (.inr false))) else (some (.inl (IntKind.i64.wrap (v13 + 1))))) else (some (.inl (IntKind.i64.wrap (v13 + 1)))))) else (some (.inl (IntKind.i64.wrap (v13 + 1)))))) else (some (.inr (.inl ())))

noncomputable def F49 (a0 : List UInt8) : Option Bool :=
 if (a0.length : Int) < 1 then (some false) else (if 64 < (a0.length : Int) then (some false) else (gd (0 < a0.length) ((F87 (((a0.getD 0 0).toNat : Int))).bind fun (x7 : Bool) => if ¬ (x7 = true) then (some false) else ((loopO (fun (s : Int) => F49_b12 a0 s) 0).bind fun y => Sum.elim (fun (e : Unit) => F49_k12) (fun (q : Bool) => some q) y))))

set_option maxHeartbeats 8000000 in
set_option pp.deepTerms false in
set_option maxRecDepth 60000 in
theorem F49_ok {H : IHeap} {K : IEnd → IHeap → Prop} (a0 : List UInt8) {r : Bool} (h : F49 a0 = some r) (hK : K (.ret (.v (.bool r))) H) : ICalls prog 49 [.v (str a0)] H K := by
 refine ICalls_iwp (N := 47) func49 (by kernel_rfl) rfl (by kernel_rfl) (by kernel_rfl) fun cb hcb hw hbd hnb => ?_
 clear hbd hnb
 subst hcb
 unfold F49 at h
 refine IWp_seqF fun cb hc1 => ?_
 refine vcK ?_
 try simp -implicitDefEqProofs (maxSteps := 1000000) (disch := omega) [go_sem]
 subst hc1
 refine IWp_seqF fun cb hc2 => ?_
 refine IWp_seqF fun cb hc3 => ?_
 refine vcK ?_
 try simp -implicitDefEqProofs (maxSteps := 1000000) (disch := omega) [go_sem]
 refine splitG_f h (by first | with_reducible rfl | (simp -implicitDefEqProofs (maxSteps := 1000000) (disch := omega) [go_sem] <;> omega)) ?_ ?_
 ·intro c30 h
  try simp -implicitDefEqProofs (disch := omega) at c30
  try simp -implicitDefEqProofs (maxSteps := 1000000) (disch := omega) [go_sem]
  subst hc3
  refine IWp_cond_t (by first | with_reducible rfl | (simp -implicitDefEqProofs (maxSteps := 1000000) (disch := omega) [go_sem] <;> omega)) rfl ?_
  refine IWp_seqF fun cb hc4 => ?_
  refine vcK ?_
  try simp -implicitDefEqProofs (maxSteps := 1000000) (disch := omega) [go_sem]
  subst hc4
  refine vcK ?_
  simp -implicitDefEqProofs only [go_sem]
  have er := Option.some.inj h
  subst er
  try simp -implicitDefEqProofs (maxSteps := 1000000) (disch := omega) [go_sem]
  refine retG_pureA (Ext.refl hw) hK (e := by first | with_reducible rfl | (simp -implicitDefEqProofs (maxSteps := 1000000) (disch := omega) [go_sem] <;> omega))
 ·intro c30 h
  try simp -implicitDefEqProofs (disch := omega) at c30
  try simp -implicitDefEqProofs (maxSteps := 1000000) (disch := omega) [go_sem]
  refine splitG_f h (by first | with_reducible rfl | (simp -implicitDefEqProofs (maxSteps := 1000000) (disch := omega) [go_sem] <;> omega)) ?_ ?_
  ·intro c29 h
   try simp -implicitDefEqProofs (disch := omega) at c29
   try simp -implicitDefEqProofs (maxSteps := 1000000) (disch := omega) [go_sem]
   subst hc3
   refine IWp_cond_t (by first | with_reducible rfl | (simp -implicitDefEqProofs (maxSteps := 1000000) (disch := omega) [go_sem] <;> omega)) rfl ?_
   refine IWp_seqF fun cb hc5 => ?_
   refine vcK ?_
   try simp -implicitDefEqProofs (maxSteps := 1000000) (disch := omega) [go_sem]
   subst hc5
   refine vcK ?_
   simp -implicitDefEqProofs only [go_sem]
   have er := Option.some.inj h
   subst er
   try simp -implicitDefEqProofs (maxSteps := 1000000) (disch := omega) [go_sem]
   refine retG_pureA (Ext.refl hw) hK (e := by first | with_reducible rfl | (simp -implicitDefEqProofs (maxSteps := 1000000) (disch := omega) [go_sem] <;> omega))
  ·intro c29 h
   try simp -implicitDefEqProofs (disch := omega) at c29
   obtain ⟨g6, h⟩ := gd_some.1 h
   try simp -implicitDefEqProofs (disch := omega) at g6
   try simp -implicitDefEqProofs (maxSteps := 1000000) (disch := omega) [go_sem]
   obtain ⟨x7, hx7, h⟩ := bind_some' h
   refine ICalls.eqA (args' := [.v (.int .u8 (((a0.getD 0 0).toNat : Int)))]) (by first | with_reducible rfl | (simp -implicitDefEqProofs (maxSteps := 1000000) (disch := omega) [go_sem] <;> omega)) (F87_ok (((a0.getD 0 0).toNat : Int)) hx7 ?_)
   try simp -implicitDefEqProofs (maxSteps := 1000000) (disch := omega) [go_sem]
   subst hc3
   refine IWp_cond_i h (by first | with_reducible rfl | (simp -implicitDefEqProofs (maxSteps := 1000000) (disch := omega) [go_sem] <;> omega)) rfl ?_ ?_
   ·intro c8 h
    try simp -implicitDefEqProofs (disch := omega) at c8
    refine IWp_seqF fun cb hc9 => ?_
    refine vcK ?_
    try simp -implicitDefEqProofs (maxSteps := 1000000) (disch := omega) [go_sem]
    subst hc9
    refine vcK ?_
    simp -implicitDefEqProofs only [go_sem]
    have er := Option.some.inj h
    subst er
    try simp -implicitDefEqProofs (maxSteps := 1000000) (disch := omega) [go_sem]
    refine retG_pureA (Ext.refl hw) hK (e := by first | with_reducible rfl | (simp -implicitDefEqProofs (maxSteps := 1000000) (disch := omega) [go_sem] <;> omega))
   ·intro c8 h
    try simp -implicitDefEqProofs (disch := omega) at c8
    refine vcK ?_
    simp -implicitDefEqProofs only [go_sem]
    subst hc2
    refine IWp_seqF fun cb hc10 => ?_
    refine IWp_seqF fun cb hc11 => ?_
    refine vcK ?_
    try simp -implicitDefEqProofs (maxSteps := 1000000) (disch := omega) [go_sem]
    subst hc11
    obtain ⟨y12, hl12q, hk12⟩ := bind_some' h
    refine IWp_tailC (fun tm' H' => .inl () = y12 ∧ H = H') ?_ fun cb hc12 => ?_
    ·rintro tm12e H12e ⟨rfl, rfl⟩
     have h : F49_k12 = some r := hk12
     unfold F49_k12 at h
     simp -implicitDefEqProofs only [go_sem]
     subst hc10
     refine IWp_seqF fun cb hc14 => ?_
     refine vcK ?_
     try simp -implicitDefEqProofs (maxSteps := 1000000) (disch := omega) [go_sem]
     subst hc14
     refine vcK ?_
     simp -implicitDefEqProofs only [go_sem]
     have er := Option.some.inj h
     subst er
     try simp -implicitDefEqProofs (maxSteps := 1000000) (disch := omega) [go_sem]
     refine retG_pureA (Ext.refl hw) hK (e := by first | with_reducible rfl | (simp -implicitDefEqProofs (maxSteps := 1000000) (disch := omega) [go_sem] <;> omega))
    ·refine IWp_block ?_
     refine IWp_loopF (fun (s : Int) tm' H' => H = H' ∧ tm' 0 = .v (str a0) ∧ tm' 3 = .v (.int .i64 s)) hl12q ?_ ?_
     ·refine .same ⟨rfl, ?_, ?_⟩ <;> first | with_reducible rfl | with_reducible assumption | (simp -implicitDefEqProofs (maxSteps := 1000000) (disch := omega) [go_sem] <;> omega)
     ·rintro I12 hI12 v13 x12 tm12 H12 ⟨rfl, t0_12, t3_12⟩ h hret12
      replace h : F49_b12 a0 v13 = some x12 := h
      unfold F49_b12 at h
      refine IWp_seqF fun cb hc15 => ?_
      refine IWp_seqF fun cb hc16 => ?_
      refine vcK ?_
      try simp -implicitDefEqProofs (maxSteps := 1000000) (disch := omega) [go_sem, t0_12, t3_12]
      subst hc16
      refine IWp_cond_i h (by first | with_reducible rfl | (simp -implicitDefEqProofs (maxSteps := 1000000) (disch := omega) [go_sem, t0_12, t3_12] <;> omega)) rfl ?_ ?_
      ·intro c17 h
       try simp -implicitDefEqProofs (disch := omega) at c17
       refine vcK ?_
       simp -implicitDefEqProofs only [go_sem]
       subst hc15
       refine IWp_seqF fun cb hc18 => ?_
       refine IWp_block ?_
       refine IWp_seqF fun cb hc19 => ?_
       refine vcK ?_
       obtain ⟨g20, h⟩ := gd_some.1 h
       try simp -implicitDefEqProofs (disch := omega) at g20
       try simp -implicitDefEqProofs (maxSteps := 1000000) (disch := omega) [go_sem, t0_12, t3_12]
       obtain ⟨x21, hx21, h⟩ := bind_some' h
       refine ICalls.eqA (args' := [.v (.int .u8 (((a0.getD v13.toNat 0).toNat : Int)))]) (by first | with_reducible rfl | (simp -implicitDefEqProofs (maxSteps := 1000000) (disch := omega) [go_sem, t0_12, t3_12] <;> omega)) (F87_ok (((a0.getD v13.toNat 0).toNat : Int)) hx21 ?_)
       try simp -implicitDefEqProofs (maxSteps := 1000000) (disch := omega) [go_sem, t0_12, t3_12]
       refine splitG_f h (by first | with_reducible rfl | (simp -implicitDefEqProofs (maxSteps := 1000000) (disch := omega) [go_sem, t0_12, t3_12] <;> omega)) ?_ ?_
       ·intro c28 h
        try simp -implicitDefEqProofs (disch := omega) at c28
        try simp -implicitDefEqProofs (maxSteps := 1000000) (disch := omega) [go_sem, t0_12, t3_12]
        refine splitG_f h (by first | with_reducible rfl | (simp -implicitDefEqProofs (maxSteps := 1000000) (disch := omega) [go_sem, t0_12, t3_12] <;> omega)) ?_ ?_
        ·intro c27 h
         try simp -implicitDefEqProofs (disch := omega) at c27
         try simp -implicitDefEqProofs (maxSteps := 1000000) (disch := omega) [go_sem, t0_12, t3_12]
         subst hc19
         refine IWp_cond_i h (by first | with_reducible rfl | (simp -implicitDefEqProofs (maxSteps := 1000000) (disch := omega) [go_sem, t0_12, t3_12] <;> omega)) rfl ?_ ?_
         ·intro c22 h
          try simp -implicitDefEqProofs (disch := omega) at c22
          refine IWp_seqF fun cb hc23 => ?_
          refine vcK ?_
          try simp -implicitDefEqProofs (maxSteps := 1000000) (disch := omega) [go_sem, t0_12, t3_12]
          subst hc23
          refine vcK ?_
          simp -implicitDefEqProofs only [go_sem]
          have e12 := Option.some.inj h
          subst e12
          have e12 := hret12 _ rfl
          subst e12
          replace h : some false = some r := hk12
          have er := Option.some.inj h
          subst er
          try simp -implicitDefEqProofs (maxSteps := 1000000) (disch := omega) [go_sem, t0_12, t3_12]
          refine retG_pureA (Ext.refl hw) hK (e := by first | with_reducible rfl | (simp -implicitDefEqProofs (maxSteps := 1000000) (disch := omega) [go_sem, t0_12, t3_12] <;> omega))
         ·intro c22 h
          try simp -implicitDefEqProofs (disch := omega) at c22
          refine vcK ?_
          simp -implicitDefEqProofs only [go_sem]
          subst hc18
          refine vcK ?_
          try simp -implicitDefEqProofs (maxSteps := 1000000) (disch := omega) [go_sem, t0_12, t3_12]
          have e12 := Option.some.inj h
          subst e12
          refine loopN_mk hI12 (IntKind.i64.wrap (v13 + 1)) ?_
          refine .same ⟨rfl, ?_, ?_⟩ <;> first | with_reducible rfl | with_reducible assumption | (simp -implicitDefEqProofs (maxSteps := 1000000) (disch := omega) [go_sem, t0_12, t3_12] <;> omega)
        ·intro c27 h
         try simp -implicitDefEqProofs (disch := omega) at c27
         try simp -implicitDefEqProofs (maxSteps := 1000000) (disch := omega) [go_sem, t0_12, t3_12]
         refine splitG_f h (by first | with_reducible rfl | (simp -implicitDefEqProofs (maxSteps := 1000000) (disch := omega) [go_sem, t0_12, t3_12] <;> omega)) ?_ ?_
         ·intro c26 h
          try simp -implicitDefEqProofs (disch := omega) at c26
          try simp -implicitDefEqProofs (maxSteps := 1000000) (disch := omega) [go_sem, t0_12, t3_12]
          subst hc19
          refine IWp_cond_i h (by first | with_reducible rfl | (simp -implicitDefEqProofs (maxSteps := 1000000) (disch := omega) [go_sem, t0_12, t3_12] <;> omega)) rfl ?_ ?_
          ·intro c24 h
           try simp -implicitDefEqProofs (disch := omega) at c24
           refine IWp_seqF fun cb hc25 => ?_
           refine vcK ?_
           try simp -implicitDefEqProofs (maxSteps := 1000000) (disch := omega) [go_sem, t0_12, t3_12]
           subst hc25
           refine vcK ?_
           simp -implicitDefEqProofs only [go_sem]
           have e12 := Option.some.inj h
           subst e12
           have e12 := hret12 _ rfl
           subst e12
           replace h : some false = some r := hk12
           have er := Option.some.inj h
           subst er
           try simp -implicitDefEqProofs (maxSteps := 1000000) (disch := omega) [go_sem, t0_12, t3_12]
           refine retG_pureA (Ext.refl hw) hK (e := by first | with_reducible rfl | (simp -implicitDefEqProofs (maxSteps := 1000000) (disch := omega) [go_sem, t0_12, t3_12] <;> omega))
          ·intro c24 h
           try simp -implicitDefEqProofs (disch := omega) at c24
           refine vcK ?_
           simp -implicitDefEqProofs only [go_sem]
           subst hc18
           refine vcK ?_
           try simp -implicitDefEqProofs (maxSteps := 1000000) (disch := omega) [go_sem, t0_12, t3_12]
           have e12 := Option.some.inj h
           subst e12
           refine loopN_mk hI12 (IntKind.i64.wrap (v13 + 1)) ?_
           refine .same ⟨rfl, ?_, ?_⟩ <;> first | with_reducible rfl | with_reducible assumption | (simp -implicitDefEqProofs (maxSteps := 1000000) (disch := omega) [go_sem, t0_12, t3_12] <;> omega)
         ·intro c26 h
          try simp -implicitDefEqProofs (disch := omega) at c26
          try simp -implicitDefEqProofs (maxSteps := 1000000) (disch := omega) [go_sem, t0_12, t3_12]
          subst hc19
          refine IWp_cond_f (by first | with_reducible rfl | (simp -implicitDefEqProofs (maxSteps := 1000000) (disch := omega) [go_sem, t0_12, t3_12] <;> omega)) rfl ?_
          refine vcK ?_
          simp -implicitDefEqProofs only [go_sem]
          subst hc18
          refine vcK ?_
          try simp -implicitDefEqProofs (maxSteps := 1000000) (disch := omega) [go_sem, t0_12, t3_12]
          have e12 := Option.some.inj h
          subst e12
          refine loopN_mk hI12 (IntKind.i64.wrap (v13 + 1)) ?_
          refine .same ⟨rfl, ?_, ?_⟩ <;> first | with_reducible rfl | with_reducible assumption | (simp -implicitDefEqProofs (maxSteps := 1000000) (disch := omega) [go_sem, t0_12, t3_12] <;> omega)
       ·intro c28 h
        try simp -implicitDefEqProofs (disch := omega) at c28
        try simp -implicitDefEqProofs (maxSteps := 1000000) (disch := omega) [go_sem, t0_12, t3_12]
        subst hc19
        refine IWp_cond_f (by first | with_reducible rfl | (simp -implicitDefEqProofs (maxSteps := 1000000) (disch := omega) [go_sem, t0_12, t3_12] <;> omega)) rfl ?_
        refine vcK ?_
        simp -implicitDefEqProofs only [go_sem]
        subst hc18
        refine vcK ?_
        try simp -implicitDefEqProofs (maxSteps := 1000000) (disch := omega) [go_sem, t0_12, t3_12]
        have e12 := Option.some.inj h
        subst e12
        refine loopN_mk hI12 (IntKind.i64.wrap (v13 + 1)) ?_
        refine .same ⟨rfl, ?_, ?_⟩ <;> first | with_reducible rfl | with_reducible assumption | (simp -implicitDefEqProofs (maxSteps := 1000000) (disch := omega) [go_sem, t0_12, t3_12] <;> omega)
      ·intro c17 h
       try simp -implicitDefEqProofs (disch := omega) at c17
       refine vcK ?_
       simp -implicitDefEqProofs only [go_sem]
       have e12 := Option.some.inj h
       subst e12
       have hy12 := hret12 _ rfl
       refine hc12 _ _ ?_
       refine .same ⟨hy12, rfl⟩

/-! cardcase/cardcaseref06.Small -/

noncomputable def F50_k5 (v8 : List UInt8) : Option (List UInt8) :=
 some v8

noncomputable def F50_b5 (a0 : List UInt8) (v6 : List UInt8) (v7 : Int) : Option (((List UInt8) × Int) ⊕ (List UInt8)) :=
 if v7 < (a0.length : Int) then (gd (0 ≤ v7 ∧ v7 < a0.length) (if 65 ≤ (((a0.getD v7.toNat 0).toNat : Int)) then (if (((a0.getD v7.toNat 0).toNat : Int)) ≤ 90 then (gd (0 ≤ (IntKind.u8.wrap ((((a0.getD v7.toNat 0).toNat : Int)) + 32)) ∧ (IntKind.u8.wrap ((((a0.getD v7.toNat 0).toNat : Int)) + 32)) ≤ 255) (gd ((v6.length : Int) + ([UInt8.ofNat (IntKind.u8.wrap ((((a0.getD v7.toNat 0).toNat : Int)) + 32)).toNat]).length ≤ 9223372036854775807) (some (.inl ((v6 ++ ([UInt8.ofNat (IntKind.u8.wrap ((((a0.getD v7.toNat 0).toNat : Int)) + 32)).toNat]), IntKind.i64.wrap (v7 + 1))))))) else (gd (0 ≤ (((a0.getD v7.toNat 0).toNat : Int)) ∧ (((a0.getD v7.toNat 0).toNat : Int)) ≤ 255) (gd ((v6.length : Int) + ([UInt8.ofNat (((a0.getD v7.toNat 0).toNat : Int)).toNat]).length ≤ 9223372036854775807) (some (.inl ((v6 ++ ([UInt8.ofNat (((a0.getD v7.toNat 0).toNat : Int)).toNat]), IntKind.i64.wrap (v7 + 1)))))))) else (gd (0 ≤ (((a0.getD v7.toNat 0).toNat : Int)) ∧ (((a0.getD v7.toNat 0).toNat : Int)) ≤ 255) (gd ((v6.length : Int) + ([UInt8.ofNat (((a0.getD v7.toNat 0).toNat : Int)).toNat]).length ≤ 9223372036854775807) (some (.inl ((v6 ++ ([UInt8.ofNat (((a0.getD v7.toNat 0).toNat : Int)).toNat]), IntKind.i64.wrap (v7 + 1))))))))) else (some (.inr v6))

noncomputable def F50 (a0 : List UInt8) : Option (List UInt8) :=
 (loopO (fun (s : (List UInt8) × Int) => F50_b5 a0 s.1 s.2) ([], 0)).bind fun (e : (List UInt8)) => F50_k5 e

set_option maxHeartbeats 8000000 in
set_option pp.deepTerms false in
set_option maxRecDepth 60000 in
theorem F50_ok {H : IHeap} {K : IEnd → IHeap → Prop} (a0 : List UInt8) {r : (List UInt8)} (h : F50 a0 = some r) (hK : K (.ret (.v (str r))) H) : ICalls prog 50 [.v (str a0)] H K := by
 refine ICalls_iwp (N := 29) func50 (by kernel_rfl) rfl (by kernel_rfl) (by kernel_rfl) fun cb hcb hw hbd hnb => ?_
 clear hbd hnb
 subst hcb
 unfold F50 at h
 refine IWp_seqF fun cb hc1 => ?_
 refine vcK ?_
 try simp -implicitDefEqProofs (maxSteps := 1000000) (disch := omega) [go_sem]
 subst hc1
 refine IWp_seqF fun cb hc2 => ?_
 refine vcK ?_
 try simp -implicitDefEqProofs (maxSteps := 1000000) (disch := omega) [go_sem]
 subst hc2
 refine IWp_seqF fun cb hc3 => ?_
 refine IWp_seqF fun cb hc4 => ?_
 refine vcK ?_
 try simp -implicitDefEqProofs (maxSteps := 1000000) (disch := omega) [go_sem]
 subst hc4
 obtain ⟨y5, hl5q, hk5⟩ := bind_some' h
 refine IWp_tailC (fun tm' H' => ∃ v8 : List UInt8, v8 = y5 ∧ H = H' ∧ tm' 3 = .v (str v8)) ?_ fun cb hc5 => ?_
 ·rintro tm5e H5e ⟨v8, rfl, rfl, t3_5e⟩
  have h : F50_k5 v8 = some r := hk5
  unfold F50_k5 at h
  simp -implicitDefEqProofs only [go_sem]
  subst hc3
  refine IWp_seqF fun cb hc9 => ?_
  refine vcK ?_
  try simp -implicitDefEqProofs (maxSteps := 1000000) (disch := omega) [go_sem, t3_5e]
  subst hc9
  refine vcK ?_
  simp -implicitDefEqProofs only [go_sem]
  have er := Option.some.inj h
  subst er
  try simp -implicitDefEqProofs (maxSteps := 1000000) (disch := omega) [go_sem, t3_5e]
  refine retG_pureA (Ext.refl hw) hK (e := by first | with_reducible rfl | (simp -implicitDefEqProofs (maxSteps := 1000000) (disch := omega) [go_sem, t3_5e] <;> omega))
 ·refine IWp_block ?_
  refine IWp_loopF (fun (s : (List UInt8) × Int) tm' H' => H = H' ∧ tm' 0 = .v (str a0) ∧ tm' 3 = .v (str s.1) ∧ tm' 4 = .v (.int .i64 s.2)) hl5q ?_ ?_
  ·refine .same ⟨rfl, ?_, ?_, ?_⟩ <;> first | with_reducible rfl | with_reducible assumption | (simp -implicitDefEqProofs (maxSteps := 1000000) (disch := omega) [go_sem] <;> omega)
  ·rintro I5 hI5 ⟨v6, v7⟩ x5 tm5 H5 ⟨rfl, t0_5, t3_5, t4_5⟩ h hret5
   replace h : F50_b5 a0 v6 v7 = some x5 := h
   unfold F50_b5 at h
   refine IWp_seqF fun cb hc10 => ?_
   refine IWp_seqF fun cb hc11 => ?_
   refine vcK ?_
   try simp -implicitDefEqProofs (maxSteps := 1000000) (disch := omega) [go_sem, t0_5, t3_5, t4_5]
   subst hc11
   refine IWp_cond_i h (by first | with_reducible rfl | (simp -implicitDefEqProofs (maxSteps := 1000000) (disch := omega) [go_sem, t0_5, t3_5, t4_5] <;> omega)) rfl ?_ ?_
   ·intro c12 h
    try simp -implicitDefEqProofs (disch := omega) at c12
    refine vcK ?_
    simp -implicitDefEqProofs only [go_sem]
    subst hc10
    refine IWp_seqF fun cb hc13 => ?_
    refine IWp_block ?_
    refine IWp_seqF fun cb hc14 => ?_
    refine vcK ?_
    obtain ⟨g15, h⟩ := gd_some.1 h
    try simp -implicitDefEqProofs (disch := omega) at g15
    try simp -implicitDefEqProofs (maxSteps := 1000000) (disch := omega) [go_sem, t0_5, t3_5, t4_5]
    subst hc14
    refine IWp_seqF fun cb hc16 => ?_
    refine IWp_seqF fun cb hc17 => ?_
    refine vcK ?_
    try simp -implicitDefEqProofs (maxSteps := 1000000) (disch := omega) [go_sem, t0_5, t3_5, t4_5]
    refine splitG_f h (by first | with_reducible rfl | (simp -implicitDefEqProofs (maxSteps := 1000000) (disch := omega) [go_sem, t0_5, t3_5, t4_5] <;> omega)) ?_ ?_
    ·intro c25 h
     try simp -implicitDefEqProofs (disch := omega) at c25
     try simp -implicitDefEqProofs (maxSteps := 1000000) (disch := omega) [go_sem, t0_5, t3_5, t4_5]
     subst hc17
     refine IWp_cond_i h (by first | with_reducible rfl | (simp -implicitDefEqProofs (maxSteps := 1000000) (disch := omega) [go_sem, t0_5, t3_5, t4_5] <;> omega)) rfl ?_ ?_
     ·intro c18 h
      try simp -implicitDefEqProofs (disch := omega) at c18
      refine vcK ?_
      try simp -implicitDefEqProofs (maxSteps := 1000000) (disch := omega) [go_sem, t0_5, t3_5, t4_5]
      subst hc16
      refine vcK ?_
      obtain ⟨g19, h⟩ := gd_some.1 h
      try simp -implicitDefEqProofs (disch := omega) at g19
      obtain ⟨g20, h⟩ := gd_some.1 h
      try simp -implicitDefEqProofs (disch := omega) at g20
      try simp -implicitDefEqProofs (maxSteps := 1000000) (disch := omega) [go_sem, t0_5, t3_5, t4_5]
      subst hc13
      refine vcK ?_
      try simp -implicitDefEqProofs (maxSteps := 1000000) (disch := omega) [go_sem, t0_5, t3_5, t4_5]
      have e5 := Option.some.inj h
      subst e5
      refine loopN_mk hI5 ((v6 ++ ([UInt8.ofNat (IntKind.u8.wrap ((((a0.getD v7.toNat 0).toNat : Int)) + 32)).toNat]), IntKind.i64.wrap (v7 + 1))) ?_
      refine .same ⟨rfl, ?_, ?_, ?_⟩ <;> first | with_reducible rfl | with_reducible assumption | (simp -implicitDefEqProofs (maxSteps := 1000000) (disch := omega) [go_sem, t0_5, t3_5, t4_5] <;> omega)
     ·intro c18 h
      try simp -implicitDefEqProofs (disch := omega) at c18
      refine vcK ?_
      simp -implicitDefEqProofs only [go_sem]
      subst hc16
      refine vcK ?_
      obtain ⟨g21, h⟩ := gd_some.1 h
      try simp -implicitDefEqProofs (disch := omega) at g21
      obtain ⟨g22, h⟩ := gd_some.1 h
      try simp -implicitDefEqProofs (disch := omega) at g22
      try simp -implicitDefEqProofs (maxSteps := 1000000) (disch := omega) [go_sem, t0_5, t3_5, t4_5]
      subst hc13
      refine vcK ?_
      try simp -implicitDefEqProofs (maxSteps := 1000000) (disch := omega) [go_sem, t0_5, t3_5, t4_5]
      have e5 := Option.some.inj h
      subst e5
      refine loopN_mk hI5 ((v6 ++ ([UInt8.ofNat (((a0.getD v7.toNat 0).toNat : Int)).toNat]), IntKind.i64.wrap (v7 + 1))) ?_
      refine .same ⟨rfl, ?_, ?_, ?_⟩ <;> first | with_reducible rfl | with_reducible assumption | (simp -implicitDefEqProofs (maxSteps := 1000000) (disch := omega) [go_sem, t0_5, t3_5, t4_5] <;> omega)
    ·intro c25 h
     try simp -implicitDefEqProofs (disch := omega) at c25
     try simp -implicitDefEqProofs (maxSteps := 1000000) (disch := omega) [go_sem, t0_5, t3_5, t4_5]
     subst hc17
     refine IWp_cond_f (by first | with_reducible rfl | (simp -implicitDefEqProofs (maxSteps := 1000000) (disch := omega) [go_sem, t0_5, t3_5, t4_5] <;> omega)) rfl ?_
     refine vcK ?_
     simp -implicitDefEqProofs only [go_sem]
     subst hc16
     refine vcK ?_
     obtain ⟨g23, h⟩ := gd_some.1 h
     try simp -implicitDefEqProofs (disch := omega) at g23
     obtain ⟨g24, h⟩ := gd_some.1 h
     try simp -implicitDefEqProofs (disch := omega) at g24
     try simp -implicitDefEqProofs (maxSteps := 1000000) (disch := omega) [go_sem, t0_5, t3_5, t4_5]
     subst hc13
     refine vcK ?_
     try simp -implicitDefEqProofs (maxSteps := 1000000) (disch := omega) [go_sem, t0_5, t3_5, t4_5]
     have e5 := Option.some.inj h
     subst e5
     refine loopN_mk hI5 ((v6 ++ ([UInt8.ofNat (((a0.getD v7.toNat 0).toNat : Int)).toNat]), IntKind.i64.wrap (v7 + 1))) ?_
     refine .same ⟨rfl, ?_, ?_, ?_⟩ <;> first | with_reducible rfl | with_reducible assumption | (simp -implicitDefEqProofs (maxSteps := 1000000) (disch := omega) [go_sem, t0_5, t3_5, t4_5] <;> omega)
   ·intro c12 h
    try simp -implicitDefEqProofs (disch := omega) at c12
    refine vcK ?_
    simp -implicitDefEqProofs only [go_sem]
    have e5 := Option.some.inj h
    subst e5
    have hy5 := hret5 _ rfl
    refine hc5 _ _ ?_
    refine .same ⟨v6, hy5, rfl, by first | with_reducible rfl | with_reducible assumption | (simp -implicitDefEqProofs (maxSteps := 1000000) (disch := omega) [go_sem, t0_5, t3_5, t4_5] <;> omega)⟩

/-! cardcase/cardcaseref07.values -/

noncomputable def F51_k4  : Option Bool :=
 some true

noncomputable def F51_b4 (a0 : List (List UInt8)) (v5 : Int) : Option (Int ⊕ (Unit ⊕ Bool)) :=
 if v5 < (a0.length : Int) then (gd (0 ≤ v5 ∧ v5 < a0.length) (if (((a0.getD v5.toNat []).length : Int)) < 1 then (some (.inr (.inr false))) else (if 2048 < (((a0.getD v5.toNat []).length : Int)) then (some (.inr (.inr false))) else (some (.inl (IntKind.i64.wrap (v5 + 1))))))) else (some (.inr (.inl ())))

noncomputable def F51 (a0 : List (List UInt8)) : Option Bool :=
 (loopO (fun (s : Int) => F51_b4 a0 s) 0).bind fun y => Sum.elim (fun (e : Unit) => F51_k4) (fun (q : Bool) => some q) y

set_option maxHeartbeats 8000000 in
set_option pp.deepTerms false in
set_option maxRecDepth 60000 in
theorem F51_ok {H : IHeap} {K : IEnd → IHeap → Prop} (a0 : List (List UInt8)) {r : Bool} (h : F51 a0 = some r) (hK : K (.ret (.v (.bool r))) H) : ICalls prog 51 [.sl 1 (a0.map fun x => [.v (str x)])] H K := by
 refine ICalls_iwp (N := 24) func51 (by kernel_rfl) rfl (by kernel_rfl) (by kernel_rfl) fun cb hcb hw hbd hnb => ?_
 clear hbd hnb
 subst hcb
 unfold F51 at h
 refine IWp_seqF fun cb hc1 => ?_
 refine vcK ?_
 try simp -implicitDefEqProofs (maxSteps := 1000000) (disch := omega) [go_sem]
 subst hc1
 refine IWp_seqF fun cb hc2 => ?_
 refine IWp_seqF fun cb hc3 => ?_
 refine vcK ?_
 try simp -implicitDefEqProofs (maxSteps := 1000000) (disch := omega) [go_sem]
 subst hc3
 obtain ⟨y4, hl4q, hk4⟩ := bind_some' h
 refine IWp_tailC (fun tm' H' => .inl () = y4 ∧ H = H') ?_ fun cb hc4 => ?_
 ·rintro tm4e H4e ⟨rfl, rfl⟩
  have h : F51_k4 = some r := hk4
  unfold F51_k4 at h
  simp -implicitDefEqProofs only [go_sem]
  subst hc2
  refine IWp_seqF fun cb hc6 => ?_
  refine vcK ?_
  try simp -implicitDefEqProofs (maxSteps := 1000000) (disch := omega) [go_sem]
  subst hc6
  refine vcK ?_
  simp -implicitDefEqProofs only [go_sem]
  have er := Option.some.inj h
  subst er
  try simp -implicitDefEqProofs (maxSteps := 1000000) (disch := omega) [go_sem]
  refine retG_pureA (Ext.refl hw) hK (e := by first | with_reducible rfl | (simp -implicitDefEqProofs (maxSteps := 1000000) (disch := omega) [go_sem] <;> omega))
 ·refine IWp_block ?_
  refine IWp_loopF (fun (s : Int) tm' H' => H = H' ∧ tm' 0 = .sl 1 (a0.map fun x => [.v (str x)]) ∧ tm' 3 = .v (.int .i64 s)) hl4q ?_ ?_
  ·refine .same ⟨rfl, ?_, ?_⟩ <;> first | with_reducible rfl | with_reducible assumption | (simp -implicitDefEqProofs (maxSteps := 1000000) (disch := omega) [go_sem] <;> omega)
  ·rintro I4 hI4 v5 x4 tm4 H4 ⟨rfl, t0_4, t3_4⟩ h hret4
   replace h : F51_b4 a0 v5 = some x4 := h
   unfold F51_b4 at h
   refine IWp_seqF fun cb hc7 => ?_
   refine IWp_seqF fun cb hc8 => ?_
   refine vcK ?_
   try simp -implicitDefEqProofs (maxSteps := 1000000) (disch := omega) [go_sem, t0_4, t3_4]
   subst hc8
   refine IWp_cond_i h (by first | with_reducible rfl | (simp -implicitDefEqProofs (maxSteps := 1000000) (disch := omega) [go_sem, t0_4, t3_4] <;> omega)) rfl ?_ ?_
   ·intro c9 h
    try simp -implicitDefEqProofs (disch := omega) at c9
    refine vcK ?_
    simp -implicitDefEqProofs only [go_sem]
    subst hc7
    refine IWp_seqF fun cb hc10 => ?_
    refine IWp_block ?_
    refine IWp_seqF fun cb hc11 => ?_
    refine vcK ?_
    obtain ⟨g12, h⟩ := gd_some.1 h
    try simp -implicitDefEqProofs (disch := omega) at g12
    try simp -implicitDefEqProofs (maxSteps := 1000000) (disch := omega) [go_sem, t0_4, t3_4]
    refine splitG_f h (by first | with_reducible rfl | (simp -implicitDefEqProofs (maxSteps := 1000000) (disch := omega) [go_sem, t0_4, t3_4] <;> omega)) ?_ ?_
    ·intro c16 h
     try simp -implicitDefEqProofs (disch := omega) at c16
     try simp -implicitDefEqProofs (maxSteps := 1000000) (disch := omega) [go_sem, t0_4, t3_4]
     subst hc11
     refine IWp_cond_t (by first | with_reducible rfl | (simp -implicitDefEqProofs (maxSteps := 1000000) (disch := omega) [go_sem, t0_4, t3_4] <;> omega)) rfl ?_
     refine IWp_seqF fun cb hc13 => ?_
     refine vcK ?_
     try simp -implicitDefEqProofs (maxSteps := 1000000) (disch := omega) [go_sem, t0_4, t3_4]
     subst hc13
     refine vcK ?_
     simp -implicitDefEqProofs only [go_sem]
     have e4 := Option.some.inj h
     subst e4
     have e4 := hret4 _ rfl
     subst e4
     replace h : some false = some r := hk4
     have er := Option.some.inj h
     subst er
     try simp -implicitDefEqProofs (maxSteps := 1000000) (disch := omega) [go_sem, t0_4, t3_4]
     refine retG_pureA (Ext.refl hw) hK (e := by first | with_reducible rfl | (simp -implicitDefEqProofs (maxSteps := 1000000) (disch := omega) [go_sem, t0_4, t3_4] <;> omega))
    ·intro c16 h
     try simp -implicitDefEqProofs (disch := omega) at c16
     try simp -implicitDefEqProofs (maxSteps := 1000000) (disch := omega) [go_sem, t0_4, t3_4]
     subst hc11
     refine IWp_cond_i h (by first | with_reducible rfl | (simp -implicitDefEqProofs (maxSteps := 1000000) (disch := omega) [go_sem, t0_4, t3_4] <;> omega)) rfl ?_ ?_
     ·intro c14 h
      try simp -implicitDefEqProofs (disch := omega) at c14
      refine IWp_seqF fun cb hc15 => ?_
      refine vcK ?_
      try simp -implicitDefEqProofs (maxSteps := 1000000) (disch := omega) [go_sem, t0_4, t3_4]
      subst hc15
      refine vcK ?_
      simp -implicitDefEqProofs only [go_sem]
      have e4 := Option.some.inj h
      subst e4
      have e4 := hret4 _ rfl
      subst e4
      replace h : some false = some r := hk4
      have er := Option.some.inj h
      subst er
      try simp -implicitDefEqProofs (maxSteps := 1000000) (disch := omega) [go_sem, t0_4, t3_4]
      refine retG_pureA (Ext.refl hw) hK (e := by first | with_reducible rfl | (simp -implicitDefEqProofs (maxSteps := 1000000) (disch := omega) [go_sem, t0_4, t3_4] <;> omega))
     ·intro c14 h
      try simp -implicitDefEqProofs (disch := omega) at c14
      refine vcK ?_
      simp -implicitDefEqProofs only [go_sem]
      subst hc10
      refine vcK ?_
      try simp -implicitDefEqProofs (maxSteps := 1000000) (disch := omega) [go_sem, t0_4, t3_4]
      have e4 := Option.some.inj h
      subst e4
      refine loopN_mk hI4 (IntKind.i64.wrap (v5 + 1)) ?_
      refine .same ⟨rfl, ?_, ?_⟩ <;> first | with_reducible rfl | with_reducible assumption | (simp -implicitDefEqProofs (maxSteps := 1000000) (disch := omega) [go_sem, t0_4, t3_4] <;> omega)
   ·intro c9 h
    try simp -implicitDefEqProofs (disch := omega) at c9
    refine vcK ?_
    simp -implicitDefEqProofs only [go_sem]
    have e4 := Option.some.inj h
    subst e4
    have hy4 := hret4 _ rfl
    refine hc4 _ _ ?_
    refine .same ⟨hy4, rfl⟩

/-! cardcase/cardcaseref07.Right -/

/-! cardcase/cardcaseref07.May -/

/-! cardcase/cardcaseref07.Get -/

noncomputable def F23_k4  : Option ((List (List UInt8))) :=
 some []

noncomputable def F23_b4 (a0 : List S50) (a1 : List UInt8) (v5 : Int) : Option (Int ⊕ (Unit ⊕ ((List (List UInt8))))) :=
 if v5 < (a0.length : Int) then (gd (0 ≤ v5 ∧ v5 < a0.length) ((F50 a1).bind fun (x13 : (List UInt8)) => if ((a0.getD v5.toNat S50.zero).fName) = x13 then (some (.inr (.inr ((a0.getD v5.toNat S50.zero).fValues)))) else (some (.inl (IntKind.i64.wrap (v5 + 1)))))) else (some (.inr (.inl ())))

noncomputable def F23 (a0 : List S50) (a1 : List UInt8) : Option ((List (List UInt8))) :=
 (loopO (fun (s : Int) => F23_b4 a0 a1 s) 0).bind fun y => Sum.elim (fun (e : Unit) => F23_k4) (fun (q : (List (List UInt8))) => some q) y

set_option maxHeartbeats 8000000 in
set_option pp.deepTerms false in
set_option maxRecDepth 60000 in
theorem F23_ok {H : IHeap} {K : IEnd → IHeap → Prop} (a0 : List S50) (a1 : List UInt8) {r : (List (List UInt8))} (h : F23 a0 a1 = some r) (hK : K (.ret (.sl 1 (r.map fun x => [.v (str x)]))) H) : ICalls prog 23 [.sl 2 (a0.map fun x => [.v (str x.fName), .sl 1 (x.fValues.map fun x => [.v (str x)])]), .v (str a1)] H K := by
 refine ICalls_iwp (N := 25) func23 (by kernel_rfl) rfl (by kernel_rfl) (by kernel_rfl) fun cb hcb hw hbd hnb => ?_
 clear hbd hnb
 subst hcb
 unfold F23 at h
 refine IWp_seqF fun cb hc1 => ?_
 refine vcK ?_
 try simp -implicitDefEqProofs (maxSteps := 1000000) (disch := omega) [go_sem]
 subst hc1
 refine IWp_seqF fun cb hc2 => ?_
 refine IWp_seqF fun cb hc3 => ?_
 refine vcK ?_
 try simp -implicitDefEqProofs (maxSteps := 1000000) (disch := omega) [go_sem]
 subst hc3
 obtain ⟨y4, hl4q, hk4⟩ := bind_some' h
 refine IWp_tailC (fun tm' H' => .inl () = y4 ∧ H = H') ?_ fun cb hc4 => ?_
 ·rintro tm4e H4e ⟨rfl, rfl⟩
  have h : F23_k4 = some r := hk4
  unfold F23_k4 at h
  simp -implicitDefEqProofs only [go_sem]
  subst hc2
  refine IWp_seqF fun cb hc6 => ?_
  refine vcK ?_
  try simp -implicitDefEqProofs (maxSteps := 1000000) (disch := omega) [go_sem]
  subst hc6
  refine IWp.gh (Gh.slotN 4 1 (by simp -implicitDefEqProofs (maxSteps := 1000000) (disch := omega) [go_sem])) ?_
  refine vcK ?_
  simp -implicitDefEqProofs only [go_sem]
  have er := Option.some.inj h
  subst er
  try simp -implicitDefEqProofs (maxSteps := 1000000) (disch := omega) [go_sem]
  refine retG_pureA (Ext.refl hw) hK (e := by first | with_reducible rfl | (simp -implicitDefEqProofs (maxSteps := 1000000) (disch := omega) [go_sem] <;> omega))
 ·refine IWp_block ?_
  refine IWp_loopF (fun (s : Int) tm' H' => H = H' ∧ tm' 0 = .sl 2 (a0.map fun x => [.v (str x.fName), .sl 1 (x.fValues.map fun x => [.v (str x)])]) ∧ tm' 1 = .v (str a1) ∧ tm' 5 = .v (.int .i64 s)) hl4q ?_ ?_
  ·refine .same ⟨rfl, ?_, ?_, ?_⟩ <;> first | with_reducible rfl | with_reducible assumption | (simp -implicitDefEqProofs (maxSteps := 1000000) (disch := omega) [go_sem] <;> omega)
  ·rintro I4 hI4 v5 x4 tm4 H4 ⟨rfl, t0_4, t1_4, t5_4⟩ h hret4
   replace h : F23_b4 a0 a1 v5 = some x4 := h
   unfold F23_b4 at h
   refine IWp_seqF fun cb hc7 => ?_
   refine IWp_seqF fun cb hc8 => ?_
   refine vcK ?_
   try simp -implicitDefEqProofs (maxSteps := 1000000) (disch := omega) [go_sem, t0_4, t1_4, t5_4]
   subst hc8
   refine IWp_cond_i h (by first | with_reducible rfl | (simp -implicitDefEqProofs (maxSteps := 1000000) (disch := omega) [go_sem, t0_4, t1_4, t5_4] <;> omega)) rfl ?_ ?_
   ·intro c9 h
    try simp -implicitDefEqProofs (disch := omega) at c9
    refine vcK ?_
    simp -implicitDefEqProofs only [go_sem]
    subst hc7
    refine IWp_seqF fun cb hc10 => ?_
    refine IWp_block ?_
    refine IWp_seqF fun cb hc11 => ?_
    refine IWp_drawP [6] [0, 1, 2, 3, 4, 5, 6, 7] (by kernel_rfl) (by kernel_rfl) (fun _ _ _ _ h => h) ?_
    obtain ⟨g12, h⟩ := gd_some.1 h
    try simp -implicitDefEqProofs (disch := omega) at g12
    try simp -implicitDefEqProofs (maxSteps := 1000000) (disch := omega) [go_sem, t0_4, t1_4, t5_4]
    obtain ⟨x13, hx13, h⟩ := bind_some' h
    refine PureC.mk _ (fun _ _ hK => ICalls.eqA (args' := [.v (str a1)]) (by first | with_reducible rfl | (simp -implicitDefEqProofs (maxSteps := 1000000) (disch := omega) [go_sem, t0_4, t1_4, t5_4] <;> omega)) (F50_ok a1 hx13 hK)) ?_
    try simp -implicitDefEqProofs (maxSteps := 1000000) (disch := omega) [go_sem, t0_4, t1_4, t5_4]
    subst hc11
    refine IWp_cond_i h (by first | with_reducible rfl | (simp -implicitDefEqProofs (maxSteps := 1000000) (disch := omega) [go_sem, t0_4, t1_4, t5_4] <;> omega)) rfl ?_ ?_
    ·intro c14 h
     try simp -implicitDefEqProofs (disch := omega) at c14
     refine IWp_seqF fun cb hc15 => ?_
     refine vcK ?_
     try simp -implicitDefEqProofs (maxSteps := 1000000) (disch := omega) [go_sem, t0_4, t1_4, t5_4]
     subst hc15
     refine vcK ?_
     simp -implicitDefEqProofs only [go_sem]
     have e4 := Option.some.inj h
     subst e4
     have e4 := hret4 _ rfl
     subst e4
     replace h : some ((a0.getD v5.toNat S50.zero).fValues) = some r := hk4
     have er := Option.some.inj h
     subst er
     try simp -implicitDefEqProofs (maxSteps := 1000000) (disch := omega) [go_sem, t0_4, t1_4, t5_4]
     refine retG_pureA (Ext.refl hw) hK (e := by first | with_reducible rfl | (simp -implicitDefEqProofs (maxSteps := 1000000) (disch := omega) [go_sem, t0_4, t1_4, t5_4] <;> omega))
    ·intro c14 h
     try simp -implicitDefEqProofs (disch := omega) at c14
     refine vcK ?_
     simp -implicitDefEqProofs only [go_sem]
     subst hc10
     refine vcK ?_
     try simp -implicitDefEqProofs (maxSteps := 1000000) (disch := omega) [go_sem, t0_4, t1_4, t5_4]
     have e4 := Option.some.inj h
     subst e4
     refine loopN_mk hI4 (IntKind.i64.wrap (v5 + 1)) ?_
     refine .same ⟨rfl, ?_, ?_, ?_⟩ <;> first | with_reducible rfl | with_reducible assumption | (simp -implicitDefEqProofs (maxSteps := 1000000) (disch := omega) [go_sem, t0_4, t1_4, t5_4] <;> omega)
   ·intro c9 h
    try simp -implicitDefEqProofs (disch := omega) at c9
    refine vcK ?_
    simp -implicitDefEqProofs only [go_sem]
    have e4 := Option.some.inj h
    subst e4
    have hy4 := hret4 _ rfl
    refine hc4 _ _ ?_
    refine .same ⟨hy4, rfl⟩

/-! cardcase/cardcaseref07.among -/

/-! cardcase/cardcaseref07.twice -/

end Go.Idl

namespace Go.Idl

open Go Go.Proofs.Tryz

/-! cardcase/cardcaseref07.with -/

noncomputable def F54_k6 (a1 : List UInt8) (v11 : List (List UInt8)) (v13 : Bool) : Option ((List (List UInt8))) :=
 if ¬ (v13 = true) then (gd ((v11.length + ([a1]).length) * 16 ≤ 140737488355328) (some (v11 ++ ([a1])))) else (some v11)

noncomputable def F54_k24 (a0 : List (List UInt8)) (a1 : List UInt8) (v10 : Int) (v25 : List (List UInt8)) (v27 : Bool) : Option (((List (List UInt8)) × Bool × Int) ⊕ ((List (List UInt8)) × Bool)) :=
 gd (0 ≤ v10 ∧ v10 < a0.length) (if ¬ (a0.getD v10.toNat []) = a1 then (gd ((v25.length + ([a0.getD v10.toNat []]).length) * 16 ≤ 140737488355328) (some (.inl ((v25 ++ ([a0.getD v10.toNat []]), v27, IntKind.i64.wrap (v10 + 1)))))) else (some (.inl ((v25, v27, IntKind.i64.wrap (v10 + 1))))))

noncomputable def F54_b6 (a0 : List (List UInt8)) (a1 : List UInt8) (v7 : List (List UInt8)) (v9 : Bool) (v10 : Int) : Option (((List (List UInt8)) × Bool × Int) ⊕ ((List (List UInt8)) × Bool)) :=
 if v10 < (a0.length : Int) then (if ¬ (v9 = true) then (gd (0 ≤ v10 ∧ v10 < a0.length) (if ¬ Op.bytesLess (a0.getD v10.toNat []) a1 = true then (gd ((v7.length + ([a1]).length) * 16 ≤ 140737488355328) (F54_k24 a0 a1 v10 (v7 ++ ([a1])) true)) else (F54_k24 a0 a1 v10 v7 v9))) else (F54_k24 a0 a1 v10 v7 v9)) else (some (.inr (v7, v9)))

noncomputable def F54 (a0 : List (List UInt8)) (a1 : List UInt8) : Option ((List (List UInt8))) :=
 (loopO (fun (s : (List (List UInt8)) × Bool × Int) => F54_b6 a0 a1 s.1 s.2.1 s.2.2) ([], false, 0)).bind fun (e : (List (List UInt8)) × Bool) => F54_k6 a1 e.1 e.2

set_option maxHeartbeats 8000000 in
set_option pp.deepTerms false in
set_option maxRecDepth 60000 in
theorem F54_ok {H : IHeap} {K : IEnd → IHeap → Prop} (a0 : List (List UInt8)) (a1 : List UInt8) {r : (List (List UInt8))} (h : F54 a0 a1 = some r) (hK : K (.ret (.sl 1 (r.map fun x => [.v (str x)]))) H) : ICalls prog 54 [.sl 1 (a0.map fun x => [.v (str x)]), .v (str a1)] H K := by
 refine ICalls_iwp (N := 48) func54 (by kernel_rfl) rfl (by kernel_rfl) (by kernel_rfl) fun cb hcb hw hbd hnb => ?_
 clear hbd hnb
 subst hcb
 unfold F54 at h
 refine IWp_seqF fun cb hc1 => ?_
 refine vcK ?_
 try simp -implicitDefEqProofs (maxSteps := 1000000) (disch := omega) [go_sem]
 subst hc1
 refine IWp_seqF fun cb hc2 => ?_
 refine vcK ?_
 try simp -implicitDefEqProofs (maxSteps := 1000000) (disch := omega) [go_sem]
 subst hc2
 refine IWp_seqF fun cb hc3 => ?_
 refine vcK ?_
 try simp -implicitDefEqProofs (maxSteps := 1000000) (disch := omega) [go_sem]
 subst hc3
 refine IWp_seqF fun cb hc4 => ?_
 refine IWp_seqF fun cb hc5 => ?_
 refine vcK ?_
 try simp -implicitDefEqProofs (maxSteps := 1000000) (disch := omega) [go_sem]
 subst hc5
 obtain ⟨y6, hl6q, hk6⟩ := bind_some' h
 refine IWp_tailC (fun tm' H' => ∃ n12 : Nat, ∃ v11 : List (List UInt8), ∃ v13 : Bool, (v11, v13) = y6 ∧ Ext H H' ∧ H.next ≤ H'.next ∧ H.next ≤ n12 ∧ n12 < H'.next ∧ tm' 1 = .v (str a1) ∧ tm' 5 = .os n12 v11.length ∧ tm' 6 = .v (.bool v13) ∧ H'.obj n12 = some (.row 1 (v11.map fun x => [.v (str x)]))) ?_ fun cb hc6 => ?_
 ·rintro tm6e H6e ⟨n12, v11, v13, rfl, he6e, hl6e, hr0_6e, hs0_6e, t1_6e, t5_6e, t6_6e, or0_6e⟩
  have h : F54_k6 a1 v11 v13 = some r := hk6
  unfold F54_k6 at h
  simp -implicitDefEqProofs only [go_sem]
  subst hc4
  refine IWp_seqF fun cb hc14 => ?_
  refine IWp_seqF fun cb hc15 => ?_
  refine vcK ?_
  try simp -implicitDefEqProofs (maxSteps := 1000000) (disch := omega) [go_sem, t1_6e, t5_6e, t6_6e, or0_6e]
  subst hc15
  refine IWp_cond_i h (by first | with_reducible rfl | (simp -implicitDefEqProofs (maxSteps := 1000000) (disch := omega) [go_sem, t1_6e, t5_6e, t6_6e, or0_6e] <;> omega)) rfl ?_ ?_
  ·intro c16 h
   try simp -implicitDefEqProofs (disch := omega) at c16
   refine vcK ?_
   obtain ⟨g17, h⟩ := gd_some.1 h
   try simp -implicitDefEqProofs (disch := omega) at g17
   try simp -implicitDefEqProofs (maxSteps := 1000000) (disch := omega) [go_sem, t1_6e, t5_6e, t6_6e, or0_6e]
   subst hc14
   refine IWp_seqF fun cb hc18 => ?_
   refine vcK ?_
   try simp -implicitDefEqProofs (maxSteps := 1000000) (disch := omega) [go_sem, t1_6e, t5_6e, t6_6e, or0_6e]
   subst hc18
   refine IWp.gh (Gh.freeze (d := 4) (k := n12) (sz := 1) (es := (v11 ++ ([a1])).map fun x => [.v (str x)]) (by simp -implicitDefEqProofs (maxSteps := 1000000) (disch := omega) [go_sem, t1_6e, t5_6e, t6_6e, or0_6e]) (by simp -implicitDefEqProofs (maxSteps := 1000000) (disch := omega) [go_sem, t1_6e, t5_6e, t6_6e, or0_6e])) ?_
   refine vcK ?_
   simp -implicitDefEqProofs only [go_sem]
   have er := Option.some.inj h
   subst er
   try simp -implicitDefEqProofs (maxSteps := 1000000) (disch := omega) [go_sem, t1_6e, t5_6e, t6_6e, or0_6e]
   refine retG_pureA he6e hK (e := by first | with_reducible rfl | (simp -implicitDefEqProofs (maxSteps := 1000000) (disch := omega) [go_sem, t1_6e, t5_6e, t6_6e, or0_6e] <;> omega))
  ·intro c16 h
   try simp -implicitDefEqProofs (disch := omega) at c16
   refine vcK ?_
   simp -implicitDefEqProofs only [go_sem]
   subst hc14
   refine IWp_seqF fun cb hc19 => ?_
   refine vcK ?_
   try simp -implicitDefEqProofs (maxSteps := 1000000) (disch := omega) [go_sem, t1_6e, t5_6e, t6_6e, or0_6e]
   subst hc19
   refine IWp.gh (Gh.freeze (d := 4) (k := n12) (sz := 1) (es := v11.map fun x => [.v (str x)]) (by simp -implicitDefEqProofs (maxSteps := 1000000) (disch := omega) [go_sem, t1_6e, t5_6e, t6_6e, or0_6e]) (by simp -implicitDefEqProofs (maxSteps := 1000000) (disch := omega) [go_sem, t1_6e, t5_6e, t6_6e, or0_6e])) ?_
   refine vcK ?_
   simp -implicitDefEqProofs only [go_sem]
   have er := Option.some.inj h
   subst er
   try simp -implicitDefEqProofs (maxSteps := 1000000) (disch := omega) [go_sem, t1_6e, t5_6e, t6_6e, or0_6e]
   refine retG_pureA he6e hK (e := by first | with_reducible rfl | (simp -implicitDefEqProofs (maxSteps := 1000000) (disch := omega) [go_sem, t1_6e, t5_6e, t6_6e, or0_6e] <;> omega))
 ·refine IWp_block ?_
  refine IWp_loopF (fun (s : (List (List UInt8)) × Bool × Int) tm' H' => ∃ n8 : Nat, Ext H H' ∧ H.next ≤ H'.next ∧ H.next ≤ n8 ∧ n8 < H'.next ∧ tm' 0 = .sl 1 (a0.map fun x => [.v (str x)]) ∧ tm' 1 = .v (str a1) ∧ tm' 5 = .os n8 s.1.length ∧ tm' 6 = .v (.bool s.2.1) ∧ tm' 7 = .v (.int .i64 s.2.2) ∧ H'.obj n8 = some (.row 1 (s.1.map fun x => [.v (str x)]))) hl6q ?_ ?_
  ·refine UpI.gh (Gh.nilrow (d := 5) (sz := 1) (by omega) (by (simp -implicitDefEqProofs (maxSteps := 1000000) (disch := omega) [go_sem] <;> omega))) ?_
   refine .same ⟨H.next, by repeat (first | exact (Ext.refl hw) | refine Ext.new ?_ _ | refine Ext.set ?_ (by first | omega | (simp [go_sem]; done) | (simp [go_sem]; omega)) _ | refine Ext.del ?_ (by first | omega | (simp [go_sem]; done) | (simp [go_sem]; omega))), by first | with_reducible rfl | with_reducible assumption | omega | (simp -implicitDefEqProofs (maxSteps := 1000000) (disch := omega) [go_sem] <;> omega), by first | with_reducible rfl | with_reducible assumption | omega | (simp -implicitDefEqProofs (maxSteps := 1000000) (disch := omega) [go_sem] <;> omega), by first | with_reducible rfl | with_reducible assumption | omega | (simp -implicitDefEqProofs (maxSteps := 1000000) (disch := omega) [go_sem] <;> omega), by first | with_reducible rfl | with_reducible assumption | (simp -implicitDefEqProofs (maxSteps := 1000000) (disch := omega) [go_sem] <;> omega), by first | with_reducible rfl | with_reducible assumption | (simp -implicitDefEqProofs (maxSteps := 1000000) (disch := omega) [go_sem] <;> omega), by first | with_reducible rfl | with_reducible assumption | (simp -implicitDefEqProofs (maxSteps := 1000000) (disch := omega) [go_sem] <;> omega), by first | with_reducible rfl | with_reducible assumption | (simp -implicitDefEqProofs (maxSteps := 1000000) (disch := omega) [go_sem] <;> omega), by first | with_reducible rfl | with_reducible assumption | (simp -implicitDefEqProofs (maxSteps := 1000000) (disch := omega) [go_sem] <;> omega), by first | with_reducible rfl | with_reducible assumption | (simp -implicitDefEqProofs (maxSteps := 1000000) (disch := omega) [go_sem] <;> omega)⟩
  ·rintro I6 hI6 ⟨v7, v9, v10⟩ x6 tm6 H6 ⟨n8, he6, hl6, hr0_6, hs0_6, t0_6, t1_6, t5_6, t6_6, t7_6, or0_6⟩ h hret6
   replace h : F54_b6 a0 a1 v7 v9 v10 = some x6 := h
   unfold F54_b6 at h
   refine IWp_seqF fun cb hc20 => ?_
   refine IWp_seqF fun cb hc21 => ?_
   refine vcK ?_
   try simp -implicitDefEqProofs (maxSteps := 1000000) (disch := omega) [go_sem, t0_6, t1_6, t5_6, t6_6, t7_6, or0_6]
   subst hc21
   refine IWp_cond_i h (by first | with_reducible rfl | (simp -implicitDefEqProofs (maxSteps := 1000000) (disch := omega) [go_sem, t0_6, t1_6, t5_6, t6_6, t7_6, or0_6] <;> omega)) rfl ?_ ?_
   ·intro c22 h
    try simp -implicitDefEqProofs (disch := omega) at c22
    refine vcK ?_
    simp -implicitDefEqProofs only [go_sem]
    subst hc20
    refine IWp_seqF fun cb hc23 => ?_
    refine IWp_block ?_
    refine IWp_seqC (fun tm' H' => ∃ n26 : Nat, ∃ v25 : List (List UInt8), ∃ v27 : Bool, Ext H H' ∧ H6.next ≤ H'.next ∧ H.next ≤ n26 ∧ n26 < H'.next ∧ tm' 0 = .sl 1 (a0.map fun x => [.v (str x)]) ∧ tm' 1 = .v (str a1) ∧ tm' 5 = .os n26 v25.length ∧ tm' 6 = .v (.bool v27) ∧ tm' 7 = .v (.int .i64 v10) ∧ H'.obj n26 = some (.row 1 (v25.map fun x => [.v (str x)])) ∧ F54_k24 a0 a1 v10 v25 v27 = some x6) ?_ fun cb hc24 => ?_
    ·rintro tm24 H24 ⟨n26, v25, v27, he24, hl24, hr0_24, hs0_24, t0_24, t1_24, t5_24, t6_24, t7_24, or0_24, h⟩
     unfold F54_k24 at h
     refine IWp_seqF fun cb hc28 => ?_
     refine vcK ?_
     obtain ⟨g29, h⟩ := gd_some.1 h
     try simp -implicitDefEqProofs (disch := omega) at g29
     try simp -implicitDefEqProofs (maxSteps := 1000000) (disch := omega) [go_sem, t0_24, t1_24, t5_24, t6_24, t7_24, or0_24]
     subst hc28
     refine IWp_cond_i h (by first | with_reducible rfl | (simp -implicitDefEqProofs (maxSteps := 1000000) (disch := omega) [go_sem, t0_24, t1_24, t5_24, t6_24, t7_24, or0_24] <;> omega)) rfl ?_ ?_
     ·intro c30 h
      try simp -implicitDefEqProofs (disch := omega) at c30
      refine vcK ?_
      obtain ⟨g31, h⟩ := gd_some.1 h
      try simp -implicitDefEqProofs (disch := omega) at g31
      try simp -implicitDefEqProofs (maxSteps := 1000000) (disch := omega) [go_sem, t0_24, t1_24, t5_24, t6_24, t7_24, or0_24]
      subst hc23
      refine vcK ?_
      try simp -implicitDefEqProofs (maxSteps := 1000000) (disch := omega) [go_sem, t0_24, t1_24, t5_24, t6_24, t7_24, or0_24]
      have e6 := Option.some.inj h
      subst e6
      refine loopN_mk hI6 ((v25 ++ ([a0.getD v10.toNat []]), v27, IntKind.i64.wrap (v10 + 1))) ?_
      refine .same ⟨n26, by repeat (first | exact he24 | refine Ext.new ?_ _ | refine Ext.set ?_ (by first | omega | (simp [go_sem]; done) | (simp [go_sem]; omega)) _ | refine Ext.del ?_ (by first | omega | (simp [go_sem]; done) | (simp [go_sem]; omega))), by first | with_reducible rfl | with_reducible assumption | omega | (simp -implicitDefEqProofs (maxSteps := 1000000) (disch := omega) [go_sem, t0_24, t1_24, t5_24, t6_24, t7_24, or0_24] <;> omega), by first | with_reducible rfl | with_reducible assumption | omega | (simp -implicitDefEqProofs (maxSteps := 1000000) (disch := omega) [go_sem, t0_24, t1_24, t5_24, t6_24, t7_24, or0_24] <;> omega), by first | with_reducible rfl | with_reducible assumption | omega | (simp -implicitDefEqProofs (maxSteps := 1000000) (disch := omega) [go_sem, t0_24, t1_24, t5_24, t6_24, t7_24, or0_24] <;> omega), by first | with_reducible rfl | with_reducible assumption | (simp -implicitDefEqProofs (maxSteps := 1000000) (disch := omega) [go_sem, t0_24, t1_24, t5_24, t6_24, t7_24, or0_24] <;> omega), by first | with_reducible rfl | with_reducible assumption | (simp -implicitDefEqProofs (maxSteps := 1000000) (disch := omega) [go_sem, t0_24, t1_24, t5_24, t6_24, t7_24, or0_24] <;> omega), by first | with_reducible rfl | with_reducible assumption | (simp -implicitDefEqProofs (maxSteps := 1000000) (disch := omega) [go_sem, t0_24, t1_24, t5_24, t6_24, t7_24, or0_24] <;> omega), by first | with_reducible rfl | with_reducible assumption | (simp -implicitDefEqProofs (maxSteps := 1000000) (disch := omega) [go_sem, t0_24, t1_24, t5_24, t6_24, t7_24, or0_24] <;> omega), by first | with_reducible rfl | with_reducible assumption | (simp -implicitDefEqProofs (maxSteps := 1000000) (disch := omega) [go_sem, t0_24, t1_24, t5_24, t6_24, t7_24, or0_24] <;> omega), by first | with_reducible rfl | with_reducible assumption | (simp -implicitDefEqProofs (maxSteps := 1000000) (disch := omega) [go_sem, t0_24, t1_24, t5_24, t6_24, t7_24, or0_24] <;> omega)⟩
     ·intro c30 h
      try simp -implicitDefEqProofs (disch := omega) at c30
      refine vcK ?_
      simp -implicitDefEqProofs only [go_sem]
      subst hc23
      refine vcK ?_
      try simp -implicitDefEqProofs (maxSteps := 1000000) (disch := omega) [go_sem, t0_24, t1_24, t5_24, t6_24, t7_24, or0_24]
      have e6 := Option.some.inj h
      subst e6
      refine loopN_mk hI6 ((v25, v27, IntKind.i64.wrap (v10 + 1))) ?_
      refine .same ⟨n26, by repeat (first | exact he24 | refine Ext.new ?_ _ | refine Ext.set ?_ (by first | omega | (simp [go_sem]; done) | (simp [go_sem]; omega)) _ | refine Ext.del ?_ (by first | omega | (simp [go_sem]; done) | (simp [go_sem]; omega))), by first | with_reducible rfl | with_reducible assumption | omega | (simp -implicitDefEqProofs (maxSteps := 1000000) (disch := omega) [go_sem, t0_24, t1_24, t5_24, t6_24, t7_24, or0_24] <;> omega), by first | with_reducible rfl | with_reducible assumption | omega | (simp -implicitDefEqProofs (maxSteps := 1000000) (disch := omega) [go_sem, t0_24, t1_24, t5_24, t6_24, t7_24, or0_24] <;> omega), by first | with_reducible rfl | with_reducible assumption | omega | (simp -implicitDefEqProofs (maxSteps := 1000000) (disch := omega) [go_sem, t0_24, t1_24, t5_24, t6_24, t7_24, or0_24] <;> omega), by first | with_reducible rfl | with_reducible assumption | (simp -implicitDefEqProofs (maxSteps := 1000000) (disch := omega) [go_sem, t0_24, t1_24, t5_24, t6_24, t7_24, or0_24] <;> omega), by first | with_reducible rfl | with_reducible assumption | (simp -implicitDefEqProofs (maxSteps := 1000000) (disch := omega) [go_sem, t0_24, t1_24, t5_24, t6_24, t7_24, or0_24] <;> omega), by first | with_reducible rfl | with_reducible assumption | (simp -implicitDefEqProofs (maxSteps := 1000000) (disch := omega) [go_sem, t0_24, t1_24, t5_24, t6_24, t7_24, or0_24] <;> omega), by first | with_reducible rfl | with_reducible assumption | (simp -implicitDefEqProofs (maxSteps := 1000000) (disch := omega) [go_sem, t0_24, t1_24, t5_24, t6_24, t7_24, or0_24] <;> omega), by first | with_reducible rfl | with_reducible assumption | (simp -implicitDefEqProofs (maxSteps := 1000000) (disch := omega) [go_sem, t0_24, t1_24, t5_24, t6_24, t7_24, or0_24] <;> omega), by first | with_reducible rfl | with_reducible assumption | (simp -implicitDefEqProofs (maxSteps := 1000000) (disch := omega) [go_sem, t0_24, t1_24, t5_24, t6_24, t7_24, or0_24] <;> omega)⟩
    ·refine IWp_seqF fun cb hc32 => ?_
     refine vcK ?_
     try simp -implicitDefEqProofs (maxSteps := 1000000) (disch := omega) [go_sem, t0_6, t1_6, t5_6, t6_6, t7_6, or0_6]
     refine splitG_f h (by first | with_reducible rfl | (simp -implicitDefEqProofs (maxSteps := 1000000) (disch := omega) [go_sem, t0_6, t1_6, t5_6, t6_6, t7_6, or0_6] <;> omega)) ?_ ?_
     ·intro c37 h
      try simp -implicitDefEqProofs (disch := omega) at c37
      obtain ⟨g33, h⟩ := gd_some.1 h
      try simp -implicitDefEqProofs (disch := omega) at g33
      try simp -implicitDefEqProofs (maxSteps := 1000000) (disch := omega) [go_sem, t0_6, t1_6, t5_6, t6_6, t7_6, or0_6]
      subst hc32
      refine IWp_cond_i h (by first | with_reducible rfl | (simp -implicitDefEqProofs (maxSteps := 1000000) (disch := omega) [go_sem, t0_6, t1_6, t5_6, t6_6, t7_6, or0_6] <;> omega)) rfl ?_ ?_
      ·intro c34 h
       try simp -implicitDefEqProofs (disch := omega) at c34
       refine IWp_seqF fun cb hc35 => ?_
       refine vcK ?_
       obtain ⟨g36, h⟩ := gd_some.1 h
       try simp -implicitDefEqProofs (disch := omega) at g36
       try simp -implicitDefEqProofs (maxSteps := 1000000) (disch := omega) [go_sem, t0_6, t1_6, t5_6, t6_6, t7_6, or0_6]
       subst hc35
       refine vcK ?_
       try simp -implicitDefEqProofs (maxSteps := 1000000) (disch := omega) [go_sem, t0_6, t1_6, t5_6, t6_6, t7_6, or0_6]
       refine hc24 _ _ ?_
       refine .same ⟨n8, (v7 ++ ([a1])), true, by repeat (first | exact he6 | refine Ext.new ?_ _ | refine Ext.set ?_ (by first | omega | (simp [go_sem]; done) | (simp [go_sem]; omega)) _ | refine Ext.del ?_ (by first | omega | (simp [go_sem]; done) | (simp [go_sem]; omega))), by first | with_reducible rfl | with_reducible assumption | omega | (simp -implicitDefEqProofs (maxSteps := 1000000) (disch := omega) [go_sem, t0_6, t1_6, t5_6, t6_6, t7_6, or0_6] <;> omega), by first | with_reducible rfl | with_reducible assumption | omega | (simp -implicitDefEqProofs (maxSteps := 1000000) (disch := omega) [go_sem, t0_6, t1_6, t5_6, t6_6, t7_6, or0_6] <;> omega), by first | with_reducible rfl | with_reducible assumption | omega | (simp -implicitDefEqProofs (maxSteps := 1000000) (disch := omega) [go_sem, t0_6, t1_6, t5_6, t6_6, t7_6, or0_6] <;> omega), by first | with_reducible rfl | with_reducible assumption | (simp -implicitDefEqProofs (maxSteps := 1000000) (disch := omega) [go_sem, t0_6, t1_6, t5_6, t6_6, t7_6, or0_6] <;> omega), by first | with_reducible rfl | with_reducible assumption | (simp -implicitDefEqProofs (maxSteps := 1000000) (disch := omega) [go_sem, t0_6, t1_6, t5_6, t6_6, t7_6, or0_6] <;> omega), by first | with_reducible rfl | with_reducible assumption | (simp -implicitDefEqProofs (maxSteps := 1000000) (disch := omega) [go_sem, t0_6, t1_6, t5_6, t6_6, t7_6, or0_6] <;> omega), by first | with_reducible rfl | with_reducible assumption | (simp -implicitDefEqProofs (maxSteps := 1000000) (disch := omega) [go_sem, t0_6, t1_6, t5_6, t6_6, t7_6, or0_6] <;> omega), by first | with_reducible rfl | with_reducible assumption | (simp -implicitDefEqProofs (maxSteps := 1000000) (disch := omega) [go_sem, t0_6, t1_6, t5_6, t6_6, t7_6, or0_6] <;> omega), by first | with_reducible rfl | with_reducible assumption | (simp -implicitDefEqProofs (maxSteps := 1000000) (disch := omega) [go_sem, t0_6, t1_6, t5_6, t6_6, t7_6, or0_6] <;> omega), h⟩
      ·intro c34 h
       try simp -implicitDefEqProofs (disch := omega) at c34
       refine vcK ?_
       simp -implicitDefEqProofs only [go_sem]
       refine hc24 _ _ ?_
       refine .same ⟨n8, v7, v9, by repeat (first | exact he6 | refine Ext.new ?_ _ | refine Ext.set ?_ (by first | omega | (simp [go_sem]; done) | (simp [go_sem]; omega)) _ | refine Ext.del ?_ (by first | omega | (simp [go_sem]; done) | (simp [go_sem]; omega))), by first | with_reducible rfl | with_reducible assumption | omega | (simp -implicitDefEqProofs (maxSteps := 1000000) (disch := omega) [go_sem, t0_6, t1_6, t5_6, t6_6, t7_6, or0_6] <;> omega), by first | with_reducible rfl | with_reducible assumption | omega | (simp -implicitDefEqProofs (maxSteps := 1000000) (disch := omega) [go_sem, t0_6, t1_6, t5_6, t6_6, t7_6, or0_6] <;> omega), by first | with_reducible rfl | with_reducible assumption | omega | (simp -implicitDefEqProofs (maxSteps := 1000000) (disch := omega) [go_sem, t0_6, t1_6, t5_6, t6_6, t7_6, or0_6] <;> omega), by first | with_reducible rfl | with_reducible assumption | (simp -implicitDefEqProofs (maxSteps := 1000000) (disch := omega) [go_sem, t0_6, t1_6, t5_6, t6_6, t7_6, or0_6] <;> omega), by first | with_reducible rfl | with_reducible assumption | (simp -implicitDefEqProofs (maxSteps := 1000000) (disch := omega) [go_sem, t0_6, t1_6, t5_6, t6_6, t7_6, or0_6] <;> omega), by first | with_reducible rfl | with_reducible assumption | (simp -implicitDefEqProofs (maxSteps := 1000000) (disch := omega) [go_sem, t0_6, t1_6, t5_6, t6_6, t7_6, or0_6] <;> omega), by first | with_reducible rfl | with_reducible assumption | (simp -implicitDefEqProofs (maxSteps := 1000000) (disch := omega) [go_sem, t0_6, t1_6, t5_6, t6_6, t7_6, or0_6] <;> omega), by first | with_reducible rfl | with_reducible assumption | (simp -implicitDefEqProofs (maxSteps := 1000000) (disch := omega) [go_sem, t0_6, t1_6, t5_6, t6_6, t7_6, or0_6] <;> omega), by first | with_reducible rfl | with_reducible assumption | (simp -implicitDefEqProofs (maxSteps := 1000000) (disch := omega) [go_sem, t0_6, t1_6, t5_6, t6_6, t7_6, or0_6] <;> omega), h⟩
     ·intro c37 h
      try simp -implicitDefEqProofs (disch := omega) at c37
      try simp -implicitDefEqProofs (maxSteps := 1000000) (disch := omega) [go_sem, t0_6, t1_6, t5_6, t6_6, t7_6, or0_6]
      subst hc32
      refine IWp_cond_f (by first | with_reducible rfl | (simp -implicitDefEqProofs (maxSteps := 1000000) (disch := omega) [go_sem, t0_6, t1_6, t5_6, t6_6, t7_6, or0_6] <;> omega)) rfl ?_
      refine vcK ?_
      simp -implicitDefEqProofs only [go_sem]
      refine hc24 _ _ ?_
      refine .same ⟨n8, v7, v9, by repeat (first | exact he6 | refine Ext.new ?_ _ | refine Ext.set ?_ (by first | omega | (simp [go_sem]; done) | (simp [go_sem]; omega)) _ | refine Ext.del ?_ (by first | omega | (simp [go_sem]; done) | (simp [go_sem]; omega))), by first | with_reducible rfl | with_reducible assumption | omega | (simp -implicitDefEqProofs (maxSteps := 1000000) (disch := omega) [go_sem, t0_6, t1_6, t5_6, t6_6, t7_6, or0_6] <;> omega), by first | with_reducible rfl | with_reducible assumption | omega | (simp -implicitDefEqProofs (maxSteps := 1000000) (disch := omega) [go_sem, t0_6, t1_6, t5_6, t6_6, t7_6, or0_6] <;> omega), by first | with_reducible rfl | with_reducible assumption | omega | (simp -implicitDefEqProofs (maxSteps := 1000000) (disch := omega) [go_sem, t0_6, t1_6, t5_6, t6_6, t7_6, or0_6] <;> omega), by first | with_reducible rfl | with_reducible assumption | (simp -implicitDefEqProofs (maxSteps := 1000000) (disch := omega) [go_sem, t0_6, t1_6, t5_6, t6_6, t7_6, or0_6] <;> omega), by first | with_reducible rfl | with_reducible assumption | (simp -implicitDefEqProofs (maxSteps := 1000000) (disch := omega) [go_sem, t0_6, t1_6, t5_6, t6_6, t7_6, or0_6] <;> omega), by first | with_reducible rfl | with_reducible assumption | (simp -implicitDefEqProofs (maxSteps := 1000000) (disch := omega) [go_sem, t0_6, t1_6, t5_6, t6_6, t7_6, or0_6] <;> omega), by first | with_reducible rfl | with_reducible assumption | (simp -implicitDefEqProofs (maxSteps := 1000000) (disch := omega) [go_sem, t0_6, t1_6, t5_6, t6_6, t7_6, or0_6] <;> omega), by first | with_reducible rfl | with_reducible assumption | (simp -implicitDefEqProofs (maxSteps := 1000000) (disch := omega) [go_sem, t0_6, t1_6, t5_6, t6_6, t7_6, or0_6] <;> omega), by first | with_reducible rfl | with_reducible assumption | (simp -implicitDefEqProofs (maxSteps := 1000000) (disch := omega) [go_sem, t0_6, t1_6, t5_6, t6_6, t7_6, or0_6] <;> omega), h⟩
   ·intro c22 h
    try simp -implicitDefEqProofs (disch := omega) at c22
    refine vcK ?_
    simp -implicitDefEqProofs only [go_sem]
    have e6 := Option.some.inj h
    subst e6
    have hy6 := hret6 _ rfl
    refine hc6 _ _ ?_
    refine .same ⟨n8, v7, v9, hy6, by repeat (first | exact he6 | refine Ext.new ?_ _ | refine Ext.set ?_ (by first | omega | (simp [go_sem]; done) | (simp [go_sem]; omega)) _ | refine Ext.del ?_ (by first | omega | (simp [go_sem]; done) | (simp [go_sem]; omega))), by first | with_reducible rfl | with_reducible assumption | omega | (simp -implicitDefEqProofs (maxSteps := 1000000) (disch := omega) [go_sem, t0_6, t1_6, t5_6, t6_6, t7_6, or0_6] <;> omega), by first | with_reducible rfl | with_reducible assumption | omega | (simp -implicitDefEqProofs (maxSteps := 1000000) (disch := omega) [go_sem, t0_6, t1_6, t5_6, t6_6, t7_6, or0_6] <;> omega), by first | with_reducible rfl | with_reducible assumption | omega | (simp -implicitDefEqProofs (maxSteps := 1000000) (disch := omega) [go_sem, t0_6, t1_6, t5_6, t6_6, t7_6, or0_6] <;> omega), by first | with_reducible rfl | with_reducible assumption | (simp -implicitDefEqProofs (maxSteps := 1000000) (disch := omega) [go_sem, t0_6, t1_6, t5_6, t6_6, t7_6, or0_6] <;> omega), by first | with_reducible rfl | with_reducible assumption | (simp -implicitDefEqProofs (maxSteps := 1000000) (disch := omega) [go_sem, t0_6, t1_6, t5_6, t6_6, t7_6, or0_6] <;> omega), by first | with_reducible rfl | with_reducible assumption | (simp -implicitDefEqProofs (maxSteps := 1000000) (disch := omega) [go_sem, t0_6, t1_6, t5_6, t6_6, t7_6, or0_6] <;> omega), by first | with_reducible rfl | with_reducible assumption | (simp -implicitDefEqProofs (maxSteps := 1000000) (disch := omega) [go_sem, t0_6, t1_6, t5_6, t6_6, t7_6, or0_6] <;> omega)⟩

/-! cardcase/cardcaseref07.set -/

noncomputable def F55_k6 (a1 : List UInt8) (a2 : List (List UInt8)) (v11 : List S50) (v13 : Bool) : Option (List S50) :=
 if ¬ (v13 = true) then (gd ((v11.length + ([(⟨a1, a2⟩ : S50)]).length) * 40 ≤ 140737488355328) (some (v11 ++ ([(⟨a1, a2⟩ : S50)])))) else (some v11)

noncomputable def F55_k24 (a0 : List S50) (a1 : List UInt8) (v10 : Int) (v25 : List S50) (v27 : Bool) : Option (((List S50) × Bool × Int) ⊕ ((List S50) × Bool)) :=
 gd (0 ≤ v10 ∧ v10 < a0.length) (if ¬ ((a0.getD v10.toNat S50.zero).fName) = a1 then (gd ((v25.length + ([a0.getD v10.toNat S50.zero]).length) * 40 ≤ 140737488355328) (some (.inl ((v25 ++ ([a0.getD v10.toNat S50.zero]), v27, IntKind.i64.wrap (v10 + 1)))))) else (some (.inl ((v25, v27, IntKind.i64.wrap (v10 + 1))))))

noncomputable def F55_b6 (a0 : List S50) (a1 : List UInt8) (a2 : List (List UInt8)) (v7 : List S50) (v9 : Bool) (v10 : Int) : Option (((List S50) × Bool × Int) ⊕ ((List S50) × Bool)) :=
 if v10 < (a0.length : Int) then (if ¬ (v9 = true) then (gd (0 ≤ v10 ∧ v10 < a0.length) (if ¬ Op.bytesLess ((a0.getD v10.toNat S50.zero).fName) a1 = true then (gd ((v7.length + ([(⟨a1, a2⟩ : S50)]).length) * 40 ≤ 140737488355328) (F55_k24 a0 a1 v10 (v7 ++ ([(⟨a1, a2⟩ : S50)])) true)) else (F55_k24 a0 a1 v10 v7 v9))) else (F55_k24 a0 a1 v10 v7 v9)) else (some (.inr (v7, v9)))

noncomputable def F55 (a0 : List S50) (a1 : List UInt8) (a2 : List (List UInt8)) : Option (List S50) :=
 (loopO (fun (s : (List S50) × Bool × Int) => F55_b6 a0 a1 a2 s.1 s.2.1 s.2.2) ([], (decide ((a2.length : Int) = 0)), 0)).bind fun (e : (List S50) × Bool) => F55_k6 a1 a2 e.1 e.2

set_option maxHeartbeats 8000000 in
set_option pp.deepTerms false in
set_option maxRecDepth 60000 in
theorem F55_ok {H : IHeap} {K : IEnd → IHeap → Prop} (a0 : List S50) (a1 : List UInt8) (a2 : List (List UInt8)) {r : (List S50)} (h : F55 a0 a1 a2 = some r) (hK : K (.ret (.sl 2 (r.map fun x => [.v (str x.fName), .sl 1 (x.fValues.map fun x => [.v (str x)])]))) H) : ICalls prog 55 [.sl 2 (a0.map fun x => [.v (str x.fName), .sl 1 (x.fValues.map fun x => [.v (str x)])]), .v (str a1), .sl 1 (a2.map fun x => [.v (str x)])] H K := by
 refine ICalls_iwp (N := 59) func55 (by kernel_rfl) rfl (by kernel_rfl) (by kernel_rfl) fun cb hcb hw hbd hnb => ?_
 clear hbd hnb
 subst hcb
 unfold F55 at h
 refine IWp_seqF fun cb hc1 => ?_
 refine vcK ?_
 try simp -implicitDefEqProofs (maxSteps := 1000000) (disch := omega) [go_sem, bdP]
 subst hc1
 refine IWp_seqF fun cb hc2 => ?_
 refine vcK ?_
 try simp -implicitDefEqProofs (maxSteps := 1000000) (disch := omega) [go_sem, bdP]
 subst hc2
 refine IWp_seqF fun cb hc3 => ?_
 refine vcK ?_
 try simp -implicitDefEqProofs (maxSteps := 1000000) (disch := omega) [go_sem, bdP]
 subst hc3
 refine IWp_seqF fun cb hc4 => ?_
 refine IWp_seqF fun cb hc5 => ?_
 refine vcK ?_
 try simp -implicitDefEqProofs (maxSteps := 1000000) (disch := omega) [go_sem, bdP]
 subst hc5
 obtain ⟨y6, hl6q, hk6⟩ := bind_some' h
 refine IWp_tailC (fun tm' H' => ∃ n12 : Nat, ∃ v11 : List S50, ∃ v13 : Bool, (v11, v13) = y6 ∧ Ext H H' ∧ H.next ≤ H'.next ∧ H.next ≤ n12 ∧ n12 < H'.next ∧ tm' 1 = .v (str a1) ∧ tm' 2 = .sl 1 (a2.map fun x => [.v (str x)]) ∧ tm' 7 = .os n12 v11.length ∧ tm' 8 = .v (.bool v13) ∧ H'.obj n12 = some (.row 2 (v11.map fun x => [.v (str x.fName), .sl 1 (x.fValues.map fun x => [.v (str x)])]))) ?_ fun cb hc6 => ?_
 ·rintro tm6e H6e ⟨n12, v11, v13, rfl, he6e, hl6e, hr0_6e, hs0_6e, t1_6e, t2_6e, t7_6e, t8_6e, or0_6e⟩
  have h : F55_k6 a1 a2 v11 v13 = some r := hk6
  unfold F55_k6 at h
  simp -implicitDefEqProofs only [go_sem]
  subst hc4
  refine IWp_seqF fun cb hc14 => ?_
  refine IWp_seqF fun cb hc15 => ?_
  refine vcK ?_
  try simp -implicitDefEqProofs (maxSteps := 1000000) (disch := omega) [go_sem, bdP, t1_6e, t2_6e, t7_6e, t8_6e, or0_6e]
  subst hc15
  refine IWp_cond_i h (by first | with_reducible rfl | (simp -implicitDefEqProofs (maxSteps := 1000000) (disch := omega) [go_sem, bdP, t1_6e, t2_6e, t7_6e, t8_6e, or0_6e] <;> omega)) rfl ?_ ?_
  ·intro c16 h
   try simp -implicitDefEqProofs (disch := omega) at c16
   refine vcK ?_
   obtain ⟨g17, h⟩ := gd_some.1 h
   try simp -implicitDefEqProofs (disch := omega) at g17
   try simp -implicitDefEqProofs (maxSteps := 1000000) (disch := omega) [go_sem, bdP, t1_6e, t2_6e, t7_6e, t8_6e, or0_6e]
   subst hc14
   refine IWp_seqF fun cb hc18 => ?_
   refine vcK ?_
   try simp -implicitDefEqProofs (maxSteps := 1000000) (disch := omega) [go_sem, bdP, t1_6e, t2_6e, t7_6e, t8_6e, or0_6e]
   subst hc18
   refine IWp.gh (Gh.freeze (d := 6) (k := n12) (sz := 2) (es := (v11 ++ ([(⟨a1, a2⟩ : S50)])).map fun x => [.v (str x.fName), .sl 1 (x.fValues.map fun x => [.v (str x)])]) (by simp -implicitDefEqProofs (maxSteps := 1000000) (disch := omega) [go_sem, bdP, t1_6e, t2_6e, t7_6e, t8_6e, or0_6e]) (by simp -implicitDefEqProofs (maxSteps := 1000000) (disch := omega) [go_sem, bdP, t1_6e, t2_6e, t7_6e, t8_6e, or0_6e])) ?_
   refine vcK ?_
   simp -implicitDefEqProofs only [go_sem]
   have er := Option.some.inj h
   subst er
   try simp -implicitDefEqProofs (maxSteps := 1000000) (disch := omega) [go_sem, bdP, t1_6e, t2_6e, t7_6e, t8_6e, or0_6e]
   refine retG_pureA he6e hK (e := by first | with_reducible rfl | (simp -implicitDefEqProofs (maxSteps := 1000000) (disch := omega) [go_sem, bdP, t1_6e, t2_6e, t7_6e, t8_6e, or0_6e] <;> omega))
  ·intro c16 h
   try simp -implicitDefEqProofs (disch := omega) at c16
   refine vcK ?_
   simp -implicitDefEqProofs only [go_sem]
   subst hc14
   refine IWp_seqF fun cb hc19 => ?_
   refine vcK ?_
   try simp -implicitDefEqProofs (maxSteps := 1000000) (disch := omega) [go_sem, bdP, t1_6e, t2_6e, t7_6e, t8_6e, or0_6e]
   subst hc19
   refine IWp.gh (Gh.freeze (d := 6) (k := n12) (sz := 2) (es := v11.map fun x => [.v (str x.fName), .sl 1 (x.fValues.map fun x => [.v (str x)])]) (by simp -implicitDefEqProofs (maxSteps := 1000000) (disch := omega) [go_sem, bdP, t1_6e, t2_6e, t7_6e, t8_6e, or0_6e]) (by simp -implicitDefEqProofs (maxSteps := 1000000) (disch := omega) [go_sem, bdP, t1_6e, t2_6e, t7_6e, t8_6e, or0_6e])) ?_
   refine vcK ?_
   simp -implicitDefEqProofs only [go_sem]
   have er := Option.some.inj h
   subst er
   try simp -implicitDefEqProofs (maxSteps := 1000000) (disch := omega) [go_sem, bdP, t1_6e, t2_6e, t7_6e, t8_6e, or0_6e]
   refine retG_pureA he6e hK (e := by first | with_reducible rfl | (simp -implicitDefEqProofs (maxSteps := 1000000) (disch := omega) [go_sem, bdP, t1_6e, t2_6e, t7_6e, t8_6e, or0_6e] <;> omega))
 ·refine IWp_block ?_
  refine IWp_loopF (fun (s : (List S50) × Bool × Int) tm' H' => ∃ n8 : Nat, Ext H H' ∧ H.next ≤ H'.next ∧ H.next ≤ n8 ∧ n8 < H'.next ∧ tm' 0 = .sl 2 (a0.map fun x => [.v (str x.fName), .sl 1 (x.fValues.map fun x => [.v (str x)])]) ∧ tm' 1 = .v (str a1) ∧ tm' 2 = .sl 1 (a2.map fun x => [.v (str x)]) ∧ tm' 7 = .os n8 s.1.length ∧ tm' 8 = .v (.bool s.2.1) ∧ tm' 9 = .v (.int .i64 s.2.2) ∧ H'.obj n8 = some (.row 2 (s.1.map fun x => [.v (str x.fName), .sl 1 (x.fValues.map fun x => [.v (str x)])]))) hl6q ?_ ?_
  ·refine UpI.gh (Gh.nilrow (d := 7) (sz := 2) (by omega) (by (simp -implicitDefEqProofs (maxSteps := 1000000) (disch := omega) [go_sem, bdP] <;> omega))) ?_
   refine .same ⟨H.next, by repeat (first | exact (Ext.refl hw) | refine Ext.new ?_ _ | refine Ext.set ?_ (by first | omega | (simp [go_sem]; done) | (simp [go_sem]; omega)) _ | refine Ext.del ?_ (by first | omega | (simp [go_sem]; done) | (simp [go_sem]; omega))), by first | with_reducible rfl | with_reducible assumption | omega | (simp -implicitDefEqProofs (maxSteps := 1000000) (disch := omega) [go_sem, bdP] <;> omega), by first | with_reducible rfl | with_reducible assumption | omega | (simp -implicitDefEqProofs (maxSteps := 1000000) (disch := omega) [go_sem, bdP] <;> omega), by first | with_reducible rfl | with_reducible assumption | omega | (simp -implicitDefEqProofs (maxSteps := 1000000) (disch := omega) [go_sem, bdP] <;> omega), by first | with_reducible rfl | with_reducible assumption | (simp -implicitDefEqProofs (maxSteps := 1000000) (disch := omega) [go_sem, bdP] <;> omega), by first | with_reducible rfl | with_reducible assumption | (simp -implicitDefEqProofs (maxSteps := 1000000) (disch := omega) [go_sem, bdP] <;> omega), by first | with_reducible rfl | with_reducible assumption | (simp -implicitDefEqProofs (maxSteps := 1000000) (disch := omega) [go_sem, bdP] <;> omega), by first | with_reducible rfl | with_reducible assumption | (simp -implicitDefEqProofs (maxSteps := 1000000) (disch := omega) [go_sem, bdP] <;> omega), by first | with_reducible rfl | with_reducible assumption | (simp -implicitDefEqProofs (maxSteps := 1000000) (disch := omega) [go_sem, bdP] <;> omega), by first | with_reducible rfl | with_reducible assumption | (simp -implicitDefEqProofs (maxSteps := 1000000) (disch := omega) [go_sem, bdP] <;> omega), by first | with_reducible rfl | with_reducible assumption | (simp -implicitDefEqProofs (maxSteps := 1000000) (disch := omega) [go_sem, bdP] <;> omega)⟩
  ·rintro I6 hI6 ⟨v7, v9, v10⟩ x6 tm6 H6 ⟨n8, he6, hl6, hr0_6, hs0_6, t0_6, t1_6, t2_6, t7_6, t8_6, t9_6, or0_6⟩ h hret6
   replace h : F55_b6 a0 a1 a2 v7 v9 v10 = some x6 := h
   unfold F55_b6 at h
   refine IWp_seqF fun cb hc20 => ?_
   refine IWp_seqF fun cb hc21 => ?_
   refine vcK ?_
   try simp -implicitDefEqProofs (maxSteps := 1000000) (disch := omega) [go_sem, bdP, t0_6, t1_6, t2_6, t7_6, t8_6, t9_6, or0_6]
   subst hc21
   refine IWp_cond_i h (by first | with_reducible rfl | (simp -implicitDefEqProofs (maxSteps := 1000000) (disch := omega) [go_sem, bdP, t0_6, t1_6, t2_6, t7_6, t8_6, t9_6, or0_6] <;> omega)) rfl ?_ ?_
   ·intro c22 h
    try simp -implicitDefEqProofs (disch := omega) at c22
    refine vcK ?_
    simp -implicitDefEqProofs only [go_sem]
    subst hc20
    refine IWp_seqF fun cb hc23 => ?_
    refine IWp_block ?_
    refine IWp_seqC (fun tm' H' => ∃ n26 : Nat, ∃ v25 : List S50, ∃ v27 : Bool, Ext H H' ∧ H6.next ≤ H'.next ∧ H.next ≤ n26 ∧ n26 < H'.next ∧ tm' 0 = .sl 2 (a0.map fun x => [.v (str x.fName), .sl 1 (x.fValues.map fun x => [.v (str x)])]) ∧ tm' 1 = .v (str a1) ∧ tm' 2 = .sl 1 (a2.map fun x => [.v (str x)]) ∧ tm' 7 = .os n26 v25.length ∧ tm' 8 = .v (.bool v27) ∧ tm' 9 = .v (.int .i64 v10) ∧ H'.obj n26 = some (.row 2 (v25.map fun x => [.v (str x.fName), .sl 1 (x.fValues.map fun x => [.v (str x)])])) ∧ F55_k24 a0 a1 v10 v25 v27 = some x6) ?_ fun cb hc24 => ?_
    ·rintro tm24 H24 ⟨n26, v25, v27, he24, hl24, hr0_24, hs0_24, t0_24, t1_24, t2_24, t7_24, t8_24, t9_24, or0_24, h⟩
     unfold F55_k24 at h
     refine IWp_seqF fun cb hc28 => ?_
     refine vcK ?_
     obtain ⟨g29, h⟩ := gd_some.1 h
     try simp -implicitDefEqProofs (disch := omega) at g29
     try simp -implicitDefEqProofs (maxSteps := 1000000) (disch := omega) [go_sem, bdP, t0_24, t1_24, t2_24, t7_24, t8_24, t9_24, or0_24]
     subst hc28
     refine IWp_cond_i h (by first | with_reducible rfl | (simp -implicitDefEqProofs (maxSteps := 1000000) (disch := omega) [go_sem, bdP, t0_24, t1_24, t2_24, t7_24, t8_24, t9_24, or0_24] <;> omega)) rfl ?_ ?_
     ·intro c30 h
      try simp -implicitDefEqProofs (disch := omega) at c30
      refine vcK ?_
      obtain ⟨g31, h⟩ := gd_some.1 h
      try simp -implicitDefEqProofs (disch := omega) at g31
      try simp -implicitDefEqProofs (maxSteps := 1000000) (disch := omega) [go_sem, bdP, t0_24, t1_24, t2_24, t7_24, t8_24, t9_24, or0_24]
      subst hc23
      refine vcK ?_
      try simp -implicitDefEqProofs (maxSteps := 1000000) (disch := omega) [go_sem, bdP, t0_24, t1_24, t2_24, t7_24, t8_24, t9_24, or0_24]
      have e6 := Option.some.inj h
      subst e6
      refine loopN_mk hI6 ((v25 ++ ([a0.getD v10.toNat S50.zero]), v27, IntKind.i64.wrap (v10 + 1))) ?_
      refine .same ⟨n26, by repeat (first | exact he24 | refine Ext.new ?_ _ | refine Ext.set ?_ (by first | omega | (simp [go_sem]; done) | (simp [go_sem]; omega)) _ | refine Ext.del ?_ (by first | omega | (simp [go_sem]; done) | (simp [go_sem]; omega))), by first | with_reducible rfl | with_reducible assumption | omega | (simp -implicitDefEqProofs (maxSteps := 1000000) (disch := omega) [go_sem, bdP, t0_24, t1_24, t2_24, t7_24, t8_24, t9_24, or0_24] <;> omega), by first | with_reducible rfl | with_reducible assumption | omega | (simp -implicitDefEqProofs (maxSteps := 1000000) (disch := omega) [go_sem, bdP, t0_24, t1_24, t2_24, t7_24, t8_24, t9_24, or0_24] <;> omega), by first | with_reducible rfl | with_reducible assumption | omega | (simp -implicitDefEqProofs (maxSteps := 1000000) (disch := omega) [go_sem, bdP, t0_24, t1_24, t2_24, t7_24, t8_24, t9_24, or0_24] <;> omega), by first | with_reducible rfl | with_reducible assumption | (simp -implicitDefEqProofs (maxSteps := 1000000) (disch := omega) [go_sem, bdP, t0_24, t1_24, t2_24, t7_24, t8_24, t9_24, or0_24] <;> omega), by first | with_reducible rfl | with_reducible assumption | (simp -implicitDefEqProofs (maxSteps := 1000000) (disch := omega) [go_sem, bdP, t0_24, t1_24, t2_24, t7_24, t8_24, t9_24, or0_24] <;> omega), by first | with_reducible rfl | with_reducible assumption | (simp -implicitDefEqProofs (maxSteps := 1000000) (disch := omega) [go_sem, bdP, t0_24, t1_24, t2_24, t7_24, t8_24, t9_24, or0_24] <;> omega), by first | with_reducible rfl | with_reducible assumption | (simp -implicitDefEqProofs (maxSteps := 1000000) (disch := omega) [go_sem, bdP, t0_24, t1_24, t2_24, t7_24, t8_24, t9_24, or0_24] <;> omega), by first | with_reducible rfl | with_reducible assumption | (simp -implicitDefEqProofs (maxSteps := 1000000) (disch := omega) [go_sem, bdP, t0_24, t1_24, t2_24, t7_24, t8_24, t9_24, or0_24] <;> omega), by first | with_reducible rfl | with_reducible assumption | (simp -implicitDefEqProofs (maxSteps := 1000000) (disch := omega) [go_sem, bdP, t0_24, t1_24, t2_24, t7_24, t8_24, t9_24, or0_24] <;> omega), by first | with_reducible rfl | with_reducible assumption | (simp -implicitDefEqProofs (maxSteps := 1000000) (disch := omega) [go_sem, bdP, t0_24, t1_24, t2_24, t7_24, t8_24, t9_24, or0_24] <;> omega)⟩
     ·intro c30 h
      try simp -implicitDefEqProofs (disch := omega) at c30
      refine vcK ?_
      simp -implicitDefEqProofs only [go_sem]
      subst hc23
      refine vcK ?_
      try simp -implicitDefEqProofs (maxSteps := 1000000) (disch := omega) [go_sem, bdP, t0_24, t1_24, t2_24, t7_24, t8_24, t9_24, or0_24]
      have e6 := Option.some.inj h
      subst e6
      refine loopN_mk hI6 ((v25, v27, IntKind.i64.wrap (v10 + 1))) ?_
      refine .same ⟨n26, by repeat (first | exact he24 | refine Ext.new ?_ _ | refine Ext.set ?_ (by first | omega | (simp [go_sem]; done) | (simp [go_sem]; omega)) _ | refine Ext.del ?_ (by first | omega | (simp [go_sem]; done) | (simp [go_sem]; omega))), by first | with_reducible rfl | with_reducible assumption | omega | (simp -implicitDefEqProofs (maxSteps := 1000000) (disch := omega) [go_sem, bdP, t0_24, t1_24, t2_24, t7_24, t8_24, t9_24, or0_24] <;> omega), by first | with_reducible rfl | with_reducible assumption | omega | (simp -implicitDefEqProofs (maxSteps := 1000000) (disch := omega) [go_sem, bdP, t0_24, t1_24, t2_24, t7_24, t8_24, t9_24, or0_24] <;> omega), by first | with_reducible rfl | with_reducible assumption | omega | (simp -implicitDefEqProofs (maxSteps := 1000000) (disch := omega) [go_sem, bdP, t0_24, t1_24, t2_24, t7_24, t8_24, t9_24, or0_24] <;> omega), by first | with_reducible rfl | with_reducible assumption | (simp -implicitDefEqProofs (maxSteps := 1000000) (disch := omega) [go_sem, bdP, t0_24, t1_24, t2_24, t7_24, t8_24, t9_24, or0_24] <;> omega), by first | with_reducible rfl | with_reducible assumption | (simp -implicitDefEqProofs (maxSteps := 1000000) (disch := omega) [go_sem, bdP, t0_24, t1_24, t2_24, t7_24, t8_24, t9_24, or0_24] <;> omega), by first | with_reducible rfl | with_reducible assumption | (simp -implicitDefEqProofs (maxSteps := 1000000) (disch := omega) [go_sem, bdP, t0_24, t1_24, t2_24, t7_24, t8_24, t9_24, or0_24] <;> omega), by first | with_reducible rfl | with_reducible assumption | (simp -implicitDefEqProofs (maxSteps := 1000000) (disch := omega) [go_sem, bdP, t0_24, t1_24, t2_24, t7_24, t8_24, t9_24, or0_24] <;> omega), by first | with_reducible rfl | with_reducible assumption | (simp -implicitDefEqProofs (maxSteps := 1000000) (disch := omega) [go_sem, bdP, t0_24, t1_24, t2_24, t7_24, t8_24, t9_24, or0_24] <;> omega), by first | with_reducible rfl | with_reducible assumption | (simp -implicitDefEqProofs (maxSteps := 1000000) (disch := omega) [go_sem, bdP, t0_24, t1_24, t2_24, t7_24, t8_24, t9_24, or0_24] <;> omega), by first | with_reducible rfl | with_reducible assumption | (simp -implicitDefEqProofs (maxSteps := 1000000) (disch := omega) [go_sem, bdP, t0_24, t1_24, t2_24, t7_24, t8_24, t9_24, or0_24] <;> omega)⟩
    ·refine IWp_seqF fun cb hc32 => ?_
     refine vcK ?_
     try simp -implicitDefEqProofs (maxSteps := 1000000) (disch := omega) [go_sem, bdP, t0_6, t1_6, t2_6, t7_6, t8_6, t9_6, or0_6]
     refine splitG_f h (by first | with_reducible rfl | (simp -implicitDefEqProofs (maxSteps := 1000000) (disch := omega) [go_sem, bdP, t0_6, t1_6, t2_6, t7_6, t8_6, t9_6, or0_6] <;> omega)) ?_ ?_
     ·intro c37 h
      try simp -implicitDefEqProofs (disch := omega) at c37
      obtain ⟨g33, h⟩ := gd_some.1 h
      try simp -implicitDefEqProofs (disch := omega) at g33
      try simp -implicitDefEqProofs (maxSteps := 1000000) (disch := omega) [go_sem, bdP, t0_6, t1_6, t2_6, t7_6, t8_6, t9_6, or0_6]
      subst hc32
      refine IWp_cond_i h (by first | with_reducible rfl | (simp -implicitDefEqProofs (maxSteps := 1000000) (disch := omega) [go_sem, bdP, t0_6, t1_6, t2_6, t7_6, t8_6, t9_6, or0_6] <;> omega)) rfl ?_ ?_
      ·intro c34 h
       try simp -implicitDefEqProofs (disch := omega) at c34
       refine IWp_seqF fun cb hc35 => ?_
       refine vcK ?_
       obtain ⟨g36, h⟩ := gd_some.1 h
       try simp -implicitDefEqProofs (disch := omega) at g36
       try simp -implicitDefEqProofs (maxSteps := 1000000) (disch := omega) [go_sem, bdP, t0_6, t1_6, t2_6, t7_6, t8_6, t9_6, or0_6]
       subst hc35
       refine vcK ?_
       try simp -implicitDefEqProofs (maxSteps := 1000000) (disch := omega) [go_sem, bdP, t0_6, t1_6, t2_6, t7_6, t8_6, t9_6, or0_6]
       refine hc24 _ _ ?_
       refine .same ⟨n8, (v7 ++ ([(⟨a1, a2⟩ : S50)])), true, by repeat (first | exact he6 | refine Ext.new ?_ _ | refine Ext.set ?_ (by first | omega | (simp [go_sem]; done) | (simp [go_sem]; omega)) _ | refine Ext.del ?_ (by first | omega | (simp [go_sem]; done) | (simp [go_sem]; omega))), by first | with_reducible rfl | with_reducible assumption | omega | (simp -implicitDefEqProofs (maxSteps := 1000000) (disch := omega) [go_sem, bdP, t0_6, t1_6, t2_6, t7_6, t8_6, t9_6, or0_6] <;> omega), by first | with_reducible rfl | with_reducible assumption | omega | (simp -implicitDefEqProofs (maxSteps := 1000000) (disch := omega) [go_sem, bdP, t0_6, t1_6, t2_6, t7_6, t8_6, t9_6, or0_6] <;> omega), by first | with_reducible rfl | with_reducible assumption | omega | (simp -implicitDefEqProofs (maxSteps := 1000000) (disch := omega) [go_sem, bdP, t0_6, t1_6, t2_6, t7_6, t8_6, t9_6, or0_6] <;> omega), by first | with_reducible rfl | with_reducible assumption | (simp -implicitDefEqProofs (maxSteps := 1000000) (disch := omega) [go_sem, bdP, t0_6, t1_6, t2_6, t7_6, t8_6, t9_6, or0_6] <;> omega), by first | with_reducible rfl | with_reducible assumption | (simp -implicitDefEqProofs (maxSteps := 1000000) (disch := omega) [go_sem, bdP, t0_6, t1_6, t2_6, t7_6, t8_6, t9_6, or0_6] <;> omega), by first | with_reducible rfl | with_reducible assumption | (simp -implicitDefEqProofs (maxSteps := 1000000) (disch := omega) [go_sem, bdP, t0_6, t1_6, t2_6, t7_6, t8_6, t9_6, or0_6] <;> omega), by first | with_reducible rfl | with_reducible assumption | (simp -implicitDefEqProofs (maxSteps := 1000000) (disch := omega) [go_sem, bdP, t0_6, t1_6, t2_6, t7_6, t8_6, t9_6, or0_6] <;> omega), by first | with_reducible rfl | with_reducible assumption | (simp -implicitDefEqProofs (maxSteps := 1000000) (disch := omega) [go_sem, bdP, t0_6, t1_6, t2_6, t7_6, t8_6, t9_6, or0_6] <;> omega), by first | with_reducible rfl | with_reducible assumption | (simp -implicitDefEqProofs (maxSteps := 1000000) (disch := omega) [go_sem, bdP, t0_6, t1_6, t2_6, t7_6, t8_6, t9_6, or0_6] <;> omega), by first | with_reducible rfl | with_reducible assumption | (simp -implicitDefEqProofs (maxSteps := 1000000) (disch := omega) [go_sem, bdP, t0_6, t1_6, t2_6, t7_6, t8_6, t9_6, or0_6] <;> omega), h⟩
      ·intro c34 h
       try simp -implicitDefEqProofs (disch := omega) at c34
       refine vcK ?_
       simp -implicitDefEqProofs only [go_sem]
       refine hc24 _ _ ?_
       refine .same ⟨n8, v7, v9, by repeat (first | exact he6 | refine Ext.new ?_ _ | refine Ext.set ?_ (by first | omega | (simp [go_sem]; done) | (simp [go_sem]; omega)) _ | refine Ext.del ?_ (by first | omega | (simp [go_sem]; done) | (simp [go_sem]; omega))), by first | with_reducible rfl | with_reducible assumption | omega | (simp -implicitDefEqProofs (maxSteps := 1000000) (disch := omega) [go_sem, bdP, t0_6, t1_6, t2_6, t7_6, t8_6, t9_6, or0_6] <;> omega), by first | with_reducible rfl | with_reducible assumption | omega | (simp -implicitDefEqProofs (maxSteps := 1000000) (disch := omega) [go_sem, bdP, t0_6, t1_6, t2_6, t7_6, t8_6, t9_6, or0_6] <;> omega), by first | with_reducible rfl | with_reducible assumption | omega | (simp -implicitDefEqProofs (maxSteps := 1000000) (disch := omega) [go_sem, bdP, t0_6, t1_6, t2_6, t7_6, t8_6, t9_6, or0_6] <;> omega), by first | with_reducible rfl | with_reducible assumption | (simp -implicitDefEqProofs (maxSteps := 1000000) (disch := omega) [go_sem, bdP, t0_6, t1_6, t2_6, t7_6, t8_6, t9_6, or0_6] <;> omega), by first | with_reducible rfl | with_reducible assumption | (simp -implicitDefEqProofs (maxSteps := 1000000) (disch := omega) [go_sem, bdP, t0_6, t1_6, t2_6, t7_6, t8_6, t9_6, or0_6] <;> omega), by first | with_reducible rfl | with_reducible assumption | (simp -implicitDefEqProofs (maxSteps := 1000000) (disch := omega) [go_sem, bdP, t0_6, t1_6, t2_6, t7_6, t8_6, t9_6, or0_6] <;> omega), by first | with_reducible rfl | with_reducible assumption | (simp -implicitDefEqProofs (maxSteps := 1000000) (disch := omega) [go_sem, bdP, t0_6, t1_6, t2_6, t7_6, t8_6, t9_6, or0_6] <;> omega), by first | with_reducible rfl | with_reducible assumption | (simp -implicitDefEqProofs (maxSteps := 1000000) (disch := omega) [go_sem, bdP, t0_6, t1_6, t2_6, t7_6, t8_6, t9_6, or0_6] <;> omega), by first | with_reducible rfl | with_reducible assumption | (simp -implicitDefEqProofs (maxSteps := 1000000) (disch := omega) [go_sem, bdP, t0_6, t1_6, t2_6, t7_6, t8_6, t9_6, or0_6] <;> omega), by first | with_reducible rfl | with_reducible assumption | (simp -implicitDefEqProofs (maxSteps := 1000000) (disch := omega) [go_sem, bdP, t0_6, t1_6, t2_6, t7_6, t8_6, t9_6, or0_6] <;> omega), h⟩
     ·intro c37 h
      try simp -implicitDefEqProofs (disch := omega) at c37
      try simp -implicitDefEqProofs (maxSteps := 1000000) (disch := omega) [go_sem, bdP, t0_6, t1_6, t2_6, t7_6, t8_6, t9_6, or0_6]
      subst hc32
      refine IWp_cond_f (by first | with_reducible rfl | (simp -implicitDefEqProofs (maxSteps := 1000000) (disch := omega) [go_sem, bdP, t0_6, t1_6, t2_6, t7_6, t8_6, t9_6, or0_6] <;> omega)) rfl ?_
      refine vcK ?_
      simp -implicitDefEqProofs only [go_sem]
      refine hc24 _ _ ?_
      refine .same ⟨n8, v7, v9, by repeat (first | exact he6 | refine Ext.new ?_ _ | refine Ext.set ?_ (by first | omega | (simp [go_sem]; done) | (simp [go_sem]; omega)) _ | refine Ext.del ?_ (by first | omega | (simp [go_sem]; done) | (simp [go_sem]; omega))), by first | with_reducible rfl | with_reducible assumption | omega | (simp -implicitDefEqProofs (maxSteps := 1000000) (disch := omega) [go_sem, bdP, t0_6, t1_6, t2_6, t7_6, t8_6, t9_6, or0_6] <;> omega), by first | with_reducible rfl | with_reducible assumption | omega | (simp -implicitDefEqProofs (maxSteps := 1000000) (disch := omega) [go_sem, bdP, t0_6, t1_6, t2_6, t7_6, t8_6, t9_6, or0_6] <;> omega), by first | with_reducible rfl | with_reducible assumption | omega | (simp -implicitDefEqProofs (maxSteps := 1000000) (disch := omega) [go_sem, bdP, t0_6, t1_6, t2_6, t7_6, t8_6, t9_6, or0_6] <;> omega), by first | with_reducible rfl | with_reducible assumption | (simp -implicitDefEqProofs (maxSteps := 1000000) (disch := omega) [go_sem, bdP, t0_6, t1_6, t2_6, t7_6, t8_6, t9_6, or0_6] <;> omega), by first | with_reducible rfl | with_reducible assumption | (simp -implicitDefEqProofs (maxSteps := 1000000) (disch := omega) [go_sem, bdP, t0_6, t1_6, t2_6, t7_6, t8_6, t9_6, or0_6] <;> omega), by first | with_reducible rfl | with_reducible assumption | (simp -implicitDefEqProofs (maxSteps := 1000000) (disch := omega) [go_sem, bdP, t0_6, t1_6, t2_6, t7_6, t8_6, t9_6, or0_6] <;> omega), by first | with_reducible rfl | with_reducible assumption | (simp -implicitDefEqProofs (maxSteps := 1000000) (disch := omega) [go_sem, bdP, t0_6, t1_6, t2_6, t7_6, t8_6, t9_6, or0_6] <;> omega), by first | with_reducible rfl | with_reducible assumption | (simp -implicitDefEqProofs (maxSteps := 1000000) (disch := omega) [go_sem, bdP, t0_6, t1_6, t2_6, t7_6, t8_6, t9_6, or0_6] <;> omega), by first | with_reducible rfl | with_reducible assumption | (simp -implicitDefEqProofs (maxSteps := 1000000) (disch := omega) [go_sem, bdP, t0_6, t1_6, t2_6, t7_6, t8_6, t9_6, or0_6] <;> omega), by first | with_reducible rfl | with_reducible assumption | (simp -implicitDefEqProofs (maxSteps := 1000000) (disch := omega) [go_sem, bdP, t0_6, t1_6, t2_6, t7_6, t8_6, t9_6, or0_6] <;> omega), h⟩
   ·intro c22 h
    try simp -implicitDefEqProofs (disch := omega) at c22
    refine vcK ?_
    simp -implicitDefEqProofs only [go_sem]
    have e6 := Option.some.inj h
    subst e6
    have hy6 := hret6 _ rfl
    refine hc6 _ _ ?_
    refine .same ⟨n8, v7, v9, hy6, by repeat (first | exact he6 | refine Ext.new ?_ _ | refine Ext.set ?_ (by first | omega | (simp [go_sem]; done) | (simp [go_sem]; omega)) _ | refine Ext.del ?_ (by first | omega | (simp [go_sem]; done) | (simp [go_sem]; omega))), by first | with_reducible rfl | with_reducible assumption | omega | (simp -implicitDefEqProofs (maxSteps := 1000000) (disch := omega) [go_sem, bdP, t0_6, t1_6, t2_6, t7_6, t8_6, t9_6, or0_6] <;> omega), by first | with_reducible rfl | with_reducible assumption | omega | (simp -implicitDefEqProofs (maxSteps := 1000000) (disch := omega) [go_sem, bdP, t0_6, t1_6, t2_6, t7_6, t8_6, t9_6, or0_6] <;> omega), by first | with_reducible rfl | with_reducible assumption | omega | (simp -implicitDefEqProofs (maxSteps := 1000000) (disch := omega) [go_sem, bdP, t0_6, t1_6, t2_6, t7_6, t8_6, t9_6, or0_6] <;> omega), by first | with_reducible rfl | with_reducible assumption | (simp -implicitDefEqProofs (maxSteps := 1000000) (disch := omega) [go_sem, bdP, t0_6, t1_6, t2_6, t7_6, t8_6, t9_6, or0_6] <;> omega), by first | with_reducible rfl | with_reducible assumption | (simp -implicitDefEqProofs (maxSteps := 1000000) (disch := omega) [go_sem, bdP, t0_6, t1_6, t2_6, t7_6, t8_6, t9_6, or0_6] <;> omega), by first | with_reducible rfl | with_reducible assumption | (simp -implicitDefEqProofs (maxSteps := 1000000) (disch := omega) [go_sem, bdP, t0_6, t1_6, t2_6, t7_6, t8_6, t9_6, or0_6] <;> omega), by first | with_reducible rfl | with_reducible assumption | (simp -implicitDefEqProofs (maxSteps := 1000000) (disch := omega) [go_sem, bdP, t0_6, t1_6, t2_6, t7_6, t8_6, t9_6, or0_6] <;> omega), by first | with_reducible rfl | with_reducible assumption | (simp -implicitDefEqProofs (maxSteps := 1000000) (disch := omega) [go_sem, bdP, t0_6, t1_6, t2_6, t7_6, t8_6, t9_6, or0_6] <;> omega)⟩

end Go.Idl

namespace Go.Idl

open Go Go.Proofs.Tryz

/-! cardcase/cardcaseref07.one -/

/-! cardcase/cardcaseref07.Do -/

/-! cardcase/cardcaseref07.Texts -/

noncomputable def F21_k8  : Option Bool :=
 some true

noncomputable def F21_b8 (a0 : List (List UInt8)) (a1 : List (List UInt8)) (v9 : Int) : Option (Int ⊕ (Unit ⊕ Bool)) :=
 if v9 < (a0.length : Int) then (gd (0 ≤ v9 ∧ v9 < a0.length) (gd (0 ≤ v9 ∧ v9 < a1.length) (if ¬ (a0.getD v9.toNat []) = (a1.getD v9.toNat []) then (some (.inr (.inr false))) else (some (.inl (IntKind.i64.wrap (v9 + 1))))))) else (some (.inr (.inl ())))

noncomputable def F21 (a0 : List (List UInt8)) (a1 : List (List UInt8)) : Option Bool :=
 if ¬ (a0.length : Int) = (a1.length : Int) then (some false) else ((loopO (fun (s : Int) => F21_b8 a0 a1 s) 0).bind fun y => Sum.elim (fun (e : Unit) => F21_k8) (fun (q : Bool) => some q) y)

set_option maxHeartbeats 8000000 in
set_option pp.deepTerms false in
set_option maxRecDepth 60000 in
theorem F21_ok {H : IHeap} {K : IEnd → IHeap → Prop} (a0 : List (List UInt8)) (a1 : List (List UInt8)) {r : Bool} (h : F21 a0 a1 = some r) (hK : K (.ret (.v (.bool r))) H) : ICalls prog 21 [.sl 1 (a0.map fun x => [.v (str x)]), .sl 1 (a1.map fun x => [.v (str x)])] H K := by
 refine ICalls_iwp (N := 26) func21 (by kernel_rfl) rfl (by kernel_rfl) (by kernel_rfl) fun cb hcb hw hbd hnb => ?_
 clear hbd hnb
 subst hcb
 unfold F21 at h
 refine IWp_seqF fun cb hc1 => ?_
 refine vcK ?_
 try simp -implicitDefEqProofs (maxSteps := 1000000) (disch := omega) [go_sem]
 subst hc1
 refine IWp_seqF fun cb hc2 => ?_
 refine IWp_seqF fun cb hc3 => ?_
 refine vcK ?_
 try simp -implicitDefEqProofs (maxSteps := 1000000) (disch := omega) [go_sem]
 subst hc3
 refine IWp_cond_i h (by first | with_reducible rfl | (simp -implicitDefEqProofs (maxSteps := 1000000) (disch := omega) [go_sem] <;> omega)) rfl ?_ ?_
 ·intro c4 h
  try simp -implicitDefEqProofs (disch := omega) at c4
  refine IWp_seqF fun cb hc5 => ?_
  refine vcK ?_
  try simp -implicitDefEqProofs (maxSteps := 1000000) (disch := omega) [go_sem]
  subst hc5
  refine vcK ?_
  simp -implicitDefEqProofs only [go_sem]
  have er := Option.some.inj h
  subst er
  try simp -implicitDefEqProofs (maxSteps := 1000000) (disch := omega) [go_sem]
  refine retG_pureA (Ext.refl hw) hK (e := by first | with_reducible rfl | (simp -implicitDefEqProofs (maxSteps := 1000000) (disch := omega) [go_sem] <;> omega))
 ·intro c4 h
  try simp -implicitDefEqProofs (disch := omega) at c4
  refine vcK ?_
  simp -implicitDefEqProofs only [go_sem]
  subst hc2
  refine IWp_seqF fun cb hc6 => ?_
  refine IWp_seqF fun cb hc7 => ?_
  refine vcK ?_
  try simp -implicitDefEqProofs (maxSteps := 1000000) (disch := omega) [go_sem]
  subst hc7
  obtain ⟨y8, hl8q, hk8⟩ := bind_some' h
  refine IWp_tailC (fun tm' H' => .inl () = y8 ∧ H = H') ?_ fun cb hc8 => ?_
  ·rintro tm8e H8e ⟨rfl, rfl⟩
   have h : F21_k8 = some r := hk8
   unfold F21_k8 at h
   simp -implicitDefEqProofs only [go_sem]
   subst hc6
   refine IWp_seqF fun cb hc10 => ?_
   refine vcK ?_
   try simp -implicitDefEqProofs (maxSteps := 1000000) (disch := omega) [go_sem]
   subst hc10
   refine vcK ?_
   simp -implicitDefEqProofs only [go_sem]
   have er := Option.some.inj h
   subst er
   try simp -implicitDefEqProofs (maxSteps := 1000000) (disch := omega) [go_sem]
   refine retG_pureA (Ext.refl hw) hK (e := by first | with_reducible rfl | (simp -implicitDefEqProofs (maxSteps := 1000000) (disch := omega) [go_sem] <;> omega))
  ·refine IWp_block ?_
   refine IWp_loopF (fun (s : Int) tm' H' => H = H' ∧ tm' 0 = .sl 1 (a0.map fun x => [.v (str x)]) ∧ tm' 1 = .sl 1 (a1.map fun x => [.v (str x)]) ∧ tm' 5 = .v (.int .i64 s)) hl8q ?_ ?_
   ·refine .same ⟨rfl, ?_, ?_, ?_⟩ <;> first | with_reducible rfl | with_reducible assumption | (simp -implicitDefEqProofs (maxSteps := 1000000) (disch := omega) [go_sem] <;> omega)
   ·rintro I8 hI8 v9 x8 tm8 H8 ⟨rfl, t0_8, t1_8, t5_8⟩ h hret8
    replace h : F21_b8 a0 a1 v9 = some x8 := h
    unfold F21_b8 at h
    refine IWp_seqF fun cb hc11 => ?_
    refine IWp_seqF fun cb hc12 => ?_
    refine vcK ?_
    try simp -implicitDefEqProofs (maxSteps := 1000000) (disch := omega) [go_sem, t0_8, t1_8, t5_8]
    subst hc12
    refine IWp_cond_i h (by first | with_reducible rfl | (simp -implicitDefEqProofs (maxSteps := 1000000) (disch := omega) [go_sem, t0_8, t1_8, t5_8] <;> omega)) rfl ?_ ?_
    ·intro c13 h
     try simp -implicitDefEqProofs (disch := omega) at c13
     refine vcK ?_
     simp -implicitDefEqProofs only [go_sem]
     subst hc11
     refine IWp_seqF fun cb hc14 => ?_
     refine IWp_block ?_
     refine IWp_seqF fun cb hc15 => ?_
     refine IWp_drawP [] [0, 1, 2, 3, 4, 5, 6, 7, 8] (by kernel_rfl) (by kernel_rfl) (fun _ _ _ _ h => h) ?_
     obtain ⟨g16, h⟩ := gd_some.1 h
     try simp -implicitDefEqProofs (disch := omega) at g16
     obtain ⟨g17, h⟩ := gd_some.1 h
     try simp -implicitDefEqProofs (disch := omega) at g17
     try simp -implicitDefEqProofs (maxSteps := 1000000) (disch := omega) [go_sem, t0_8, t1_8, t5_8]
     subst hc15
     refine IWp_cond_i h (by first | with_reducible rfl | (simp -implicitDefEqProofs (maxSteps := 1000000) (disch := omega) [go_sem, t0_8, t1_8, t5_8] <;> omega)) rfl ?_ ?_
     ·intro c18 h
      try simp -implicitDefEqProofs (disch := omega) at c18
      refine IWp_seqF fun cb hc19 => ?_
      refine vcK ?_
      try simp -implicitDefEqProofs (maxSteps := 1000000) (disch := omega) [go_sem, t0_8, t1_8, t5_8]
      subst hc19
      refine vcK ?_
      simp -implicitDefEqProofs only [go_sem]
      have e8 := Option.some.inj h
      subst e8
      have e8 := hret8 _ rfl
      subst e8
      replace h : some false = some r := hk8
      have er := Option.some.inj h
      subst er
      try simp -implicitDefEqProofs (maxSteps := 1000000) (disch := omega) [go_sem, t0_8, t1_8, t5_8]
      refine retG_pureA (Ext.refl hw) hK (e := by first | with_reducible rfl | (simp -implicitDefEqProofs (maxSteps := 1000000) (disch := omega) [go_sem, t0_8, t1_8, t5_8] <;> omega))
     ·intro c18 h
      try simp -implicitDefEqProofs (disch := omega) at c18
      refine vcK ?_
      simp -implicitDefEqProofs only [go_sem]
      subst hc14
      refine vcK ?_
      try simp -implicitDefEqProofs (maxSteps := 1000000) (disch := omega) [go_sem, t0_8, t1_8, t5_8]
      have e8 := Option.some.inj h
      subst e8
      refine loopN_mk hI8 (IntKind.i64.wrap (v9 + 1)) ?_
      refine .same ⟨rfl, ?_, ?_, ?_⟩ <;> first | with_reducible rfl | with_reducible assumption | (simp -implicitDefEqProofs (maxSteps := 1000000) (disch := omega) [go_sem, t0_8, t1_8, t5_8] <;> omega)
    ·intro c13 h
     try simp -implicitDefEqProofs (disch := omega) at c13
     refine vcK ?_
     simp -implicitDefEqProofs only [go_sem]
     have e8 := Option.some.inj h
     subst e8
     have hy8 := hret8 _ rfl
     refine hc8 _ _ ?_
     refine .same ⟨hy8, rfl⟩

end Go.Idl

namespace Go.Idl

open Go Go.Proofs.Tryz

/-! cardcase/cardcaseref07.Same -/

noncomputable def F16_k8  : Option Bool :=
 some true

noncomputable def F16_b8 (a0 : List S50) (a1 : List S50) (v9 : Int) : Option (Int ⊕ (Unit ⊕ Bool)) :=
 if v9 < (a0.length : Int) then (gd (0 ≤ v9 ∧ v9 < a0.length) (gd (0 ≤ v9 ∧ v9 < a1.length) (if ¬ ((a0.getD v9.toNat S50.zero).fName) = ((a1.getD v9.toNat S50.zero).fName) then (some (.inr (.inr false))) else ((F21 ((a0.getD v9.toNat S50.zero).fValues) ((a1.getD v9.toNat S50.zero).fValues)).bind fun (x19 : Bool) => if ¬ (x19 = true) then (some (.inr (.inr false))) else (some (.inl (IntKind.i64.wrap (v9 + 1)))))))) else (some (.inr (.inl ())))

noncomputable def F16 (a0 : List S50) (a1 : List S50) : Option Bool :=
 if ¬ (a0.length : Int) = (a1.length : Int) then (some false) else ((loopO (fun (s : Int) => F16_b8 a0 a1 s) 0).bind fun y => Sum.elim (fun (e : Unit) => F16_k8) (fun (q : Bool) => some q) y)

set_option maxHeartbeats 8000000 in
set_option pp.deepTerms false in
set_option maxRecDepth 60000 in
theorem F16_ok {H : IHeap} {K : IEnd → IHeap → Prop} (a0 : List S50) (a1 : List S50) {r : Bool} (h : F16 a0 a1 = some r) (hK : K (.ret (.v (.bool r))) H) : ICalls prog 16 [.sl 2 (a0.map fun x => [.v (str x.fName), .sl 1 (x.fValues.map fun x => [.v (str x)])]), .sl 2 (a1.map fun x => [.v (str x.fName), .sl 1 (x.fValues.map fun x => [.v (str x)])])] H K := by
 refine ICalls_iwp (N := 42) func16 (by kernel_rfl) rfl (by kernel_rfl) (by kernel_rfl) fun cb hcb hw hbd hnb => ?_
 clear hbd hnb
 subst hcb
 unfold F16 at h
 refine IWp_seqF fun cb hc1 => ?_
 refine vcK ?_
 try simp -implicitDefEqProofs (maxSteps := 1000000) (disch := omega) [go_sem]
 subst hc1
 refine IWp_seqF fun cb hc2 => ?_
 refine IWp_seqF fun cb hc3 => ?_
 refine vcK ?_
 try simp -implicitDefEqProofs (maxSteps := 1000000) (disch := omega) [go_sem]
 subst hc3
 refine IWp_cond_i h (by first | with_reducible rfl | (simp -implicitDefEqProofs (maxSteps := 1000000) (disch := omega) [go_sem] <;> omega)) rfl ?_ ?_
 ·intro c4 h
  try simp -implicitDefEqProofs (disch := omega) at c4
  refine IWp_seqF fun cb hc5 => ?_
  refine vcK ?_
  try simp -implicitDefEqProofs (maxSteps := 1000000) (disch := omega) [go_sem]
  subst hc5
  refine vcK ?_
  simp -implicitDefEqProofs only [go_sem]
  have er := Option.some.inj h
  subst er
  try simp -implicitDefEqProofs (maxSteps := 1000000) (disch := omega) [go_sem]
  refine retG_pureA (Ext.refl hw) hK (e := by first | with_reducible rfl | (simp -implicitDefEqProofs (maxSteps := 1000000) (disch := omega) [go_sem] <;> omega))
 ·intro c4 h
  try simp -implicitDefEqProofs (disch := omega) at c4
  refine vcK ?_
  simp -implicitDefEqProofs only [go_sem]
  subst hc2
  refine IWp_seqF fun cb hc6 => ?_
  refine IWp_seqF fun cb hc7 => ?_
  refine vcK ?_
  try simp -implicitDefEqProofs (maxSteps := 1000000) (disch := omega) [go_sem]
  subst hc7
  obtain ⟨y8, hl8q, hk8⟩ := bind_some' h
  refine IWp_tailC (fun tm' H' => .inl () = y8 ∧ H = H') ?_ fun cb hc8 => ?_
  ·rintro tm8e H8e ⟨rfl, rfl⟩
   have h : F16_k8 = some r := hk8
   unfold F16_k8 at h
   simp -implicitDefEqProofs only [go_sem]
   subst hc6
   refine IWp_seqF fun cb hc10 => ?_
   refine vcK ?_
   try simp -implicitDefEqProofs (maxSteps := 1000000) (disch := omega) [go_sem]
   subst hc10
   refine vcK ?_
   simp -implicitDefEqProofs only [go_sem]
   have er := Option.some.inj h
   subst er
   try simp -implicitDefEqProofs (maxSteps := 1000000) (disch := omega) [go_sem]
   refine retG_pureA (Ext.refl hw) hK (e := by first | with_reducible rfl | (simp -implicitDefEqProofs (maxSteps := 1000000) (disch := omega) [go_sem] <;> omega))
  ·refine IWp_block ?_
   refine IWp_loopF (fun (s : Int) tm' H' => H = H' ∧ tm' 0 = .sl 2 (a0.map fun x => [.v (str x.fName), .sl 1 (x.fValues.map fun x => [.v (str x)])]) ∧ tm' 1 = .sl 2 (a1.map fun x => [.v (str x.fName), .sl 1 (x.fValues.map fun x => [.v (str x)])]) ∧ tm' 5 = .v (.int .i64 s)) hl8q ?_ ?_
   ·refine .same ⟨rfl, ?_, ?_, ?_⟩ <;> first | with_reducible rfl | with_reducible assumption | (simp -implicitDefEqProofs (maxSteps := 1000000) (disch := omega) [go_sem] <;> omega)
   ·rintro I8 hI8 v9 x8 tm8 H8 ⟨rfl, t0_8, t1_8, t5_8⟩ h hret8
    replace h : F16_b8 a0 a1 v9 = some x8 := h
    unfold F16_b8 at h
    refine IWp_seqF fun cb hc11 => ?_
    refine IWp_seqF fun cb hc12 => ?_
    refine vcK ?_
    try simp -implicitDefEqProofs (maxSteps := 1000000) (disch := omega) [go_sem, t0_8, t1_8, t5_8]
    subst hc12
    refine IWp_cond_i h (by first | with_reducible rfl | (simp -implicitDefEqProofs (maxSteps := 1000000) (disch := omega) [go_sem, t0_8, t1_8, t5_8] <;> omega)) rfl ?_ ?_
    ·intro c13 h
     try simp -implicitDefEqProofs (disch := omega) at c13
     refine vcK ?_
     simp -implicitDefEqProofs only [go_sem]
     subst hc11
     refine IWp_seqF fun cb hc14 => ?_
     refine IWp_block ?_
     refine IWp_seqF fun cb hc15 => ?_
     refine IWp_drawP [22] [0, 1, 2, 3, 4, 5, 6, 7, 8, 9, 10, 11, 12, 13, 14, 15, 16, 17, 18, 19, 20, 21, 22, 23, 24] (by kernel_rfl) (by kernel_rfl) (fun _ _ _ _ h => h) ?_
     obtain ⟨g16, h⟩ := gd_some.1 h
     try simp -implicitDefEqProofs (disch := omega) at g16
     obtain ⟨g17, h⟩ := gd_some.1 h
     try simp -implicitDefEqProofs (disch := omega) at g17
     try simp -implicitDefEqProofs (maxSteps := 1000000) (disch := omega) [go_sem, t0_8, t1_8, t5_8]
     refine splitG_f h (by first | with_reducible rfl | (simp -implicitDefEqProofs (maxSteps := 1000000) (disch := omega) [go_sem, t0_8, t1_8, t5_8] <;> omega)) ?_ ?_
     ·intro c22 h
      try simp -implicitDefEqProofs (disch := omega) at c22
      try simp -implicitDefEqProofs (maxSteps := 1000000) (disch := omega) [go_sem, t0_8, t1_8, t5_8]
      subst hc15
      refine IWp_cond_t (by first | with_reducible rfl | (simp -implicitDefEqProofs (maxSteps := 1000000) (disch := omega) [go_sem, t0_8, t1_8, t5_8] <;> omega)) rfl ?_
      refine IWp_seqF fun cb hc18 => ?_
      refine vcK ?_
      try simp -implicitDefEqProofs (maxSteps := 1000000) (disch := omega) [go_sem, t0_8, t1_8, t5_8]
      subst hc18
      refine vcK ?_
      simp -implicitDefEqProofs only [go_sem]
      have e8 := Option.some.inj h
      subst e8
      have e8 := hret8 _ rfl
      subst e8
      replace h : some false = some r := hk8
      have er := Option.some.inj h
      subst er
      try simp -implicitDefEqProofs (maxSteps := 1000000) (disch := omega) [go_sem, t0_8, t1_8, t5_8]
      refine retG_pureA (Ext.refl hw) hK (e := by first | with_reducible rfl | (simp -implicitDefEqProofs (maxSteps := 1000000) (disch := omega) [go_sem, t0_8, t1_8, t5_8] <;> omega))
     ·intro c22 h
      try simp -implicitDefEqProofs (disch := omega) at c22
      try simp -implicitDefEqProofs (maxSteps := 1000000) (disch := omega) [go_sem, t0_8, t1_8, t5_8]
      obtain ⟨x19, hx19, h⟩ := bind_some' h
      refine PureC.mk _ (fun _ _ hK => ICalls.eqA (args' := [.sl 1 (((a0.getD v9.toNat S50.zero).fValues).map fun x => [.v (str x)]), .sl 1 (((a1.getD v9.toNat S50.zero).fValues).map fun x => [.v (str x)])]) (by first | with_reducible rfl | (simp -implicitDefEqProofs (maxSteps := 1000000) (disch := omega) [go_sem, t0_8, t1_8, t5_8] <;> omega)) (F21_ok ((a0.getD v9.toNat S50.zero).fValues) ((a1.getD v9.toNat S50.zero).fValues) hx19 hK)) ?_
      try simp -implicitDefEqProofs (maxSteps := 1000000) (disch := omega) [go_sem, t0_8, t1_8, t5_8]
      subst hc15
      refine IWp_cond_i h (by first | with_reducible rfl | (simp -implicitDefEqProofs (maxSteps := 1000000) (disch := omega) [go_sem, t0_8, t1_8, t5_8] <;> omega)) rfl ?_ ?_
      ·intro c20 h
       try simp -implicitDefEqProofs (disch := omega) at c20
       refine IWp_seqF fun cb hc21 => ?_
       refine vcK ?_
       try simp -implicitDefEqProofs (maxSteps := 1000000) (disch := omega) [go_sem, t0_8, t1_8, t5_8]
       subst hc21
       refine vcK ?_
       simp -implicitDefEqProofs only [go_sem]
       have e8 := Option.some.inj h
       subst e8
       have e8 := hret8 _ rfl
       subst e8
       replace h : some false = some r := hk8
       have er := Option.some.inj h
       subst er
       try simp -implicitDefEqProofs (maxSteps := 1000000) (disch := omega) [go_sem, t0_8, t1_8, t5_8]
       refine retG_pureA (Ext.refl hw) hK (e := by first | with_reducible rfl | (simp -implicitDefEqProofs (maxSteps := 1000000) (disch := omega) [go_sem, t0_8, t1_8, t5_8] <;> omega))
      ·intro c20 h
       try simp -implicitDefEqProofs (disch := omega) at c20
       refine vcK ?_
       simp -implicitDefEqProofs only [go_sem]
       subst hc14
       refine vcK ?_
       try simp -implicitDefEqProofs (maxSteps := 1000000) (disch := omega) [go_sem, t0_8, t1_8, t5_8]
       have e8 := Option.some.inj h
       subst e8
       refine loopN_mk hI8 (IntKind.i64.wrap (v9 + 1)) ?_
       refine .same ⟨rfl, ?_, ?_, ?_⟩ <;> first | with_reducible rfl | with_reducible assumption | (simp -implicitDefEqProofs (maxSteps := 1000000) (disch := omega) [go_sem, t0_8, t1_8, t5_8] <;> omega)
    ·intro c13 h
     try simp -implicitDefEqProofs (disch := omega) at c13
     refine vcK ?_
     simp -implicitDefEqProofs only [go_sem]
     have e8 := Option.some.inj h
     subst e8
     have hy8 := hret8 _ rfl
     refine hc8 _ _ ?_
     refine .same ⟨hy8, rfl⟩

/-! cardcase/cardcaselaw07.EntryDoes -/

/-! cardcase/cardcaseref07.Order -/

noncomputable def F20_k10 (v14 : List S50) (v15 : Bool) : Option ((List S50) × Int) :=
 if v15 = true then (some ([], 3)) else (if 24 < (v14.length : Int) then (some ([], 3)) else (some (v14, 0)))

noncomputable def F20_k32 (a0 : List S50) (v11 : List S50) (v12 : Bool) (v13 : Int) (v35 : List (List UInt8)) : Option (((List S50) × Bool × Int) ⊕ ((List S50) × Bool)) :=
 if v12 = true then ((F50 ((a0.getD v13.toNat S50.zero).fName)).bind fun (x37 : (List UInt8)) => (F55 v11 x37 v35).bind fun (x38 : (List S50)) => some (.inl ((x38, true, IntKind.i64.wrap (v13 + 1))))) else ((F50 ((a0.getD v13.toNat S50.zero).fName)).bind fun (x39 : (List UInt8)) => (F55 v11 x39 v35).bind fun (x40 : (List S50)) => some (.inl ((x40, decide (16 < (v35.length : Int)), IntKind.i64.wrap (v13 + 1)))))

noncomputable def F20_b32 (a0 : List S50) (v13 : Int) (v33 : List (List UInt8)) (v34 : Int) : Option (((List (List UInt8)) × Int) ⊕ ((List (List UInt8)))) :=
 if v34 < ((((a0.getD v13.toNat S50.zero).fValues).length : Int)) then (gd (0 ≤ v34 ∧ v34 < ((a0.getD v13.toNat S50.zero).fValues).length) ((F54 v33 (((a0.getD v13.toNat S50.zero).fValues).getD v34.toNat [])).bind fun (x47 : (List (List UInt8))) => some (.inl ((x47, IntKind.i64.wrap (v34 + 1)))))) else (some (.inr v33))

noncomputable def F20_b10 (a0 : List S50) (v11 : List S50) (v12 : Bool) (v13 : Int) : Option (((List S50) × Bool × Int) ⊕ ((List S50) × Bool)) :=
 if v13 < (a0.length : Int) then (gd (0 ≤ v13 ∧ v13 < a0.length) ((F23 v11 ((a0.getD v13.toNat S50.zero).fName)).bind fun (x29 : (List (List UInt8))) => (loopO (fun (s : (List (List UInt8)) × Int) => F20_b32 a0 v13 s.1 s.2) (x29, 0)).bind fun (e : (List (List UInt8))) => F20_k32 a0 v11 v12 v13 e)) else (some (.inr (v11, v12)))

noncomputable def F20_k6 (a0 : List S50) : Option ((List S50) × Int) :=
 (loopO (fun (s : (List S50) × Bool × Int) => F20_b10 a0 s.1 s.2.1 s.2.2) ([], false, 0)).bind fun (e : (List S50) × Bool) => F20_k10 e.1 e.2

noncomputable def F20_b6 (a0 : List S50) (v7 : Int) : Option (Int ⊕ (Unit ⊕ ((List S50) × Int))) :=
 if v7 < (a0.length : Int) then (gd (0 ≤ v7 ∧ v7 < a0.length) ((F49 ((a0.getD v7.toNat S50.zero).fName)).bind fun (x54 : Bool) => if ¬ (x54 = true) then (some (.inr (.inr ([], 2)))) else ((F51 ((a0.getD v7.toNat S50.zero).fValues)).bind fun (x56 : Bool) => if ¬ (x56 = true) then (some (.inr (.inr ([], 2)))) else (some (.inl (IntKind.i64.wrap (v7 + 1))))))) else (some (.inr (.inl ())))

noncomputable def F20 (a0 : List S50) : Option ((List S50) × Int) :=
 (loopO (fun (s : Int) => F20_b6 a0 s) 0).bind fun y => Sum.elim (fun (e : Unit) => F20_k6 a0) (fun (q : (List S50) × Int) => some q) y

set_option maxHeartbeats 8000000 in
set_option pp.deepTerms false in
set_option maxRecDepth 60000 in
theorem F20_ok {H : IHeap} {K : IEnd → IHeap → Prop} (a0 : List S50) {r : (List S50) × Int} (h : F20 a0 = some r) (hK : K (.ret (.tu [.sl 2 (r.1.map fun x => [.v (str x.fName), .sl 1 (x.fValues.map fun x => [.v (str x)])]), .v (.int .i64 r.2)])) H) : ICalls prog 20 [.sl 2 (a0.map fun x => [.v (str x.fName), .sl 1 (x.fValues.map fun x => [.v (str x)])])] H K := by
 refine ICalls_iwp (N := 87) func20 (by kernel_rfl) rfl (by kernel_rfl) (by kernel_rfl) fun cb hcb hw hbd hnb => ?_
 clear hbd hnb
 subst hcb
 unfold F20 at h
 refine IWp_seqF fun cb hc1 => ?_
 refine vcK ?_
 try simp -implicitDefEqProofs (maxSteps := 1000000) (disch := omega) [go_sem]
 subst hc1
 refine IWp_seqF fun cb hc2 => ?_
 refine vcK ?_
 try simp -implicitDefEqProofs (maxSteps := 1000000) (disch := omega) [go_sem]
 subst hc2
 refine IWp_seqF fun cb hc3 => ?_
 refine vcK ?_
 try simp -implicitDefEqProofs (maxSteps := 1000000) (disch := omega) [go_sem]
 subst hc3
 refine IWp_seqF fun cb hc4 => ?_
 refine IWp_seqF fun cb hc5 => ?_
 refine vcK ?_
 try simp -implicitDefEqProofs (maxSteps := 1000000) (disch := omega) [go_sem]
 subst hc5
 obtain ⟨y6, hl6q, hk6⟩ := bind_some' h
 refine IWp_tailC (fun tm' H' => .inl () = y6 ∧ H = H' ∧ tm' 0 = .sl 2 (a0.map fun x => [.v (str x.fName), .sl 1 (x.fValues.map fun x => [.v (str x)])]) ∧ tm' 4 = .v (.slice none 0 0) ∧ tm' 5 = .v (.bool false)) ?_ fun cb hc6 => ?_
 ·rintro tm6e H6e ⟨rfl, rfl, t0_6e, t4_6e, t5_6e⟩
  have h : F20_k6 a0 = some r := hk6
  unfold F20_k6 at h
  simp -implicitDefEqProofs only [go_sem]
  subst hc4
  refine IWp_seqF fun cb hc8 => ?_
  refine IWp_seqF fun cb hc9 => ?_
  refine vcK ?_
  try simp -implicitDefEqProofs (maxSteps := 1000000) (disch := omega) [go_sem, t0_6e, t4_6e, t5_6e]
  subst hc9
  obtain ⟨y10, hl10q, hk10⟩ := bind_some' h
  refine IWp_tailC (fun tm' H' => ∃ v14 : List S50, ∃ v15 : Bool, (v14, v15) = y10 ∧ H = H' ∧ tm' 4 = .sl 2 (v14.map fun x => [.v (str x.fName), .sl 1 (x.fValues.map fun x => [.v (str x)])]) ∧ tm' 5 = .v (.bool v15)) ?_ fun cb hc10 => ?_
  ·rintro tm10e H10e ⟨v14, v15, rfl, rfl, t4_10e, t5_10e⟩
   have h : F20_k10 v14 v15 = some r := hk10
   unfold F20_k10 at h
   simp -implicitDefEqProofs only [go_sem]
   subst hc8
   refine IWp_seqF fun cb hc16 => ?_
   refine IWp_seqF fun cb hc17 => ?_
   refine vcK ?_
   try simp -implicitDefEqProofs (maxSteps := 1000000) (disch := omega) [go_sem, t4_10e, t5_10e]
   refine splitG_f h (by first | with_reducible rfl | (simp -implicitDefEqProofs (maxSteps := 1000000) (disch := omega) [go_sem, t4_10e, t5_10e] <;> omega)) ?_ ?_
   ·intro c22 h
    try simp -implicitDefEqProofs (disch := omega) at c22
    try simp -implicitDefEqProofs (maxSteps := 1000000) (disch := omega) [go_sem, t4_10e, t5_10e]
    subst hc17
    refine IWp_cond_t (by first | with_reducible rfl | (simp -implicitDefEqProofs (maxSteps := 1000000) (disch := omega) [go_sem, t4_10e, t5_10e] <;> omega)) rfl ?_
    refine IWp_seqF fun cb hc18 => ?_
    refine vcK ?_
    try simp -implicitDefEqProofs (maxSteps := 1000000) (disch := omega) [go_sem, t4_10e, t5_10e]
    subst hc18
    refine IWp.gh (Gh.slotN 2 2 (by simp -implicitDefEqProofs (maxSteps := 1000000) (disch := omega) [go_sem, t4_10e, t5_10e])) ?_
    refine vcK ?_
    simp -implicitDefEqProofs only [go_sem]
    have er := Option.some.inj h
    subst er
    try simp -implicitDefEqProofs (maxSteps := 1000000) (disch := omega) [go_sem, t4_10e, t5_10e]
    refine retG_pureA (Ext.refl hw) hK (e := by first | with_reducible rfl | (simp -implicitDefEqProofs (maxSteps := 1000000) (disch := omega) [go_sem, t4_10e, t5_10e] <;> omega))
   ·intro c22 h
    try simp -implicitDefEqProofs (disch := omega) at c22
    try simp -implicitDefEqProofs (maxSteps := 1000000) (disch := omega) [go_sem, t4_10e, t5_10e]
    subst hc17
    refine IWp_cond_i h (by first | with_reducible rfl | (simp -implicitDefEqProofs (maxSteps := 1000000) (disch := omega) [go_sem, t4_10e, t5_10e] <;> omega)) rfl ?_ ?_
    ·intro c19 h
     try simp -implicitDefEqProofs (disch := omega) at c19
     refine IWp_seqF fun cb hc20 => ?_
     refine vcK ?_
     try simp -implicitDefEqProofs (maxSteps := 1000000) (disch := omega) [go_sem, t4_10e, t5_10e]
     subst hc20
     refine IWp.gh (Gh.slotN 2 2 (by simp -implicitDefEqProofs (maxSteps := 1000000) (disch := omega) [go_sem, t4_10e, t5_10e])) ?_
     refine vcK ?_
     simp -implicitDefEqProofs only [go_sem]
     have er := Option.some.inj h
     subst er
     try simp -implicitDefEqProofs (maxSteps := 1000000) (disch := omega) [go_sem, t4_10e, t5_10e]
     refine retG_pureA (Ext.refl hw) hK (e := by first | with_reducible rfl | (simp -implicitDefEqProofs (maxSteps := 1000000) (disch := omega) [go_sem, t4_10e, t5_10e] <;> omega))
    ·intro c19 h
     try simp -implicitDefEqProofs (disch := omega) at c19
     refine vcK ?_
     simp -implicitDefEqProofs only [go_sem]
     subst hc16
     refine IWp_seqF fun cb hc21 => ?_
     refine vcK ?_
     try simp -implicitDefEqProofs (maxSteps := 1000000) (disch := omega) [go_sem, t4_10e, t5_10e]
     subst hc21
     refine vcK ?_
     simp -implicitDefEqProofs only [go_sem]
     have er := Option.some.inj h
     subst er
     try simp -implicitDefEqProofs (maxSteps := 1000000) (disch := omega) [go_sem, t4_10e, t5_10e]
     refine retG_pureA (Ext.refl hw) hK (e := by first | with_reducible rfl | (simp -implicitDefEqProofs (maxSteps := 1000000) (disch := omega) [go_sem, t4_10e, t5_10e] <;> omega))
  ·refine IWp_block ?_
   refine IWp_loopF (fun (s : (List S50) × Bool × Int) tm' H' => H = H' ∧ tm' 0 = .sl 2 (a0.map fun x => [.v (str x.fName), .sl 1 (x.fValues.map fun x => [.v (str x)])]) ∧ tm' 4 = .sl 2 (s.1.map fun x => [.v (str x.fName), .sl 1 (x.fValues.map fun x => [.v (str x)])]) ∧ tm' 5 = .v (.bool s.2.1) ∧ tm' 7 = .v (.int .i64 s.2.2)) hl10q ?_ ?_
   ·refine UpI.gh (Gh.slotN 4 2 (by (simp -implicitDefEqProofs (maxSteps := 1000000) (disch := omega) [go_sem, t0_6e, t4_6e, t5_6e] <;> omega))) ?_
    refine .same ⟨rfl, ?_, ?_, ?_, ?_⟩ <;> first | with_reducible rfl | with_reducible assumption | (simp -implicitDefEqProofs (maxSteps := 1000000) (disch := omega) [go_sem, t0_6e, t4_6e, t5_6e] <;> omega)
   ·rintro I10 hI10 ⟨v11, v12, v13⟩ x10 tm10 H10 ⟨rfl, t0_10, t4_10, t5_10, t7_10⟩ h hret10
    replace h : F20_b10 a0 v11 v12 v13 = some x10 := h
    unfold F20_b10 at h
    refine IWp_seqF fun cb hc23 => ?_
    refine IWp_seqF fun cb hc24 => ?_
    refine vcK ?_
    try simp -implicitDefEqProofs (maxSteps := 1000000) (disch := omega) [go_sem, t0_10, t4_10, t5_10, t7_10]
    subst hc24
    refine IWp_cond_i h (by first | with_reducible rfl | (simp -implicitDefEqProofs (maxSteps := 1000000) (disch := omega) [go_sem, t0_10, t4_10, t5_10, t7_10] <;> omega)) rfl ?_ ?_
    ·intro c25 h
     try simp -implicitDefEqProofs (disch := omega) at c25
     refine vcK ?_
     simp -implicitDefEqProofs only [go_sem]
     subst hc23
     refine IWp_seqF fun cb hc26 => ?_
     refine IWp_block ?_
     refine IWp_seqF fun cb hc27 => ?_
     refine vcK ?_
     obtain ⟨g28, h⟩ := gd_some.1 h
     try simp -implicitDefEqProofs (disch := omega) at g28
     try simp -implicitDefEqProofs (maxSteps := 1000000) (disch := omega) [go_sem, t0_10, t4_10, t5_10, t7_10]
     obtain ⟨x29, hx29, h⟩ := bind_some' h
     refine ICalls.eqA (args' := [.sl 2 (v11.map fun x => [.v (str x.fName), .sl 1 (x.fValues.map fun x => [.v (str x)])]), .v (str ((a0.getD v13.toNat S50.zero).fName))]) (by first | with_reducible rfl | (simp -implicitDefEqProofs (maxSteps := 1000000) (disch := omega) [go_sem, t0_10, t4_10, t5_10, t7_10] <;> omega)) (F23_ok v11 ((a0.getD v13.toNat S50.zero).fName) hx29 ?_)
     try simp -implicitDefEqProofs (maxSteps := 1000000) (disch := omega) [go_sem, t0_10, t4_10, t5_10, t7_10]
     subst hc27
     refine IWp_seqF fun cb hc30 => ?_
     refine IWp_seqF fun cb hc31 => ?_
     refine vcK ?_
     try simp -implicitDefEqProofs (maxSteps := 1000000) (disch := omega) [go_sem, t0_10, t4_10, t5_10, t7_10]
     subst hc31
     obtain ⟨y32, hl32q, hk32⟩ := bind_some' h
     refine IWp_tailC (fun tm' H' => ∃ v35 : List (List UInt8), v35 = y32 ∧ H = H' ∧ tm' 0 = .sl 2 (a0.map fun x => [.v (str x.fName), .sl 1 (x.fValues.map fun x => [.v (str x)])]) ∧ tm' 4 = .sl 2 (v11.map fun x => [.v (str x.fName), .sl 1 (x.fValues.map fun x => [.v (str x)])]) ∧ tm' 5 = .v (.bool v12) ∧ tm' 7 = .v (.int .i64 v13) ∧ tm' 8 = .sl 1 (v35.map fun x => [.v (str x)])) ?_ fun cb hc32 => ?_
     ·rintro tm32e H32e ⟨v35, rfl, rfl, t0_32e, t4_32e, t5_32e, t7_32e, t8_32e⟩
      have h : F20_k32 a0 v11 v12 v13 v35 = some x10 := hk32
      unfold F20_k32 at h
      simp -implicitDefEqProofs only [go_sem]
      subst hc30
      refine IWp_seqF fun cb hc36 => ?_
      refine vcK ?_
      try simp -implicitDefEqProofs (maxSteps := 1000000) (disch := omega) [go_sem, t0_32e, t4_32e, t5_32e, t7_32e, t8_32e]
      refine splitG_f h (by first | with_reducible rfl | (simp -implicitDefEqProofs (maxSteps := 1000000) (disch := omega) [go_sem, t0_32e, t4_32e, t5_32e, t7_32e, t8_32e] <;> omega)) ?_ ?_
      ·intro c41 h
       try simp -implicitDefEqProofs (disch := omega) at c41
       try simp -implicitDefEqProofs (maxSteps := 1000000) (disch := omega) [go_sem, t0_32e, t4_32e, t5_32e, t7_32e, t8_32e]
       subst hc36
       refine vcK ?_
       try simp -implicitDefEqProofs (maxSteps := 1000000) (disch := omega) [go_sem, t0_32e, t4_32e, t5_32e, t7_32e, t8_32e]
       obtain ⟨x37, hx37, h⟩ := bind_some' h
       refine ICalls.eqA (args' := [.v (str ((a0.getD v13.toNat S50.zero).fName))]) (by first | with_reducible rfl | (simp -implicitDefEqProofs (maxSteps := 1000000) (disch := omega) [go_sem, t0_32e, t4_32e, t5_32e, t7_32e, t8_32e] <;> omega)) (F50_ok ((a0.getD v13.toNat S50.zero).fName) hx37 ?_)
       try simp -implicitDefEqProofs (maxSteps := 1000000) (disch := omega) [go_sem, t0_32e, t4_32e, t5_32e, t7_32e, t8_32e]
       obtain ⟨x38, hx38, h⟩ := bind_some' h
       refine ICalls.eqA (args' := [.sl 2 (v11.map fun x => [.v (str x.fName), .sl 1 (x.fValues.map fun x => [.v (str x)])]), .v (str x37), .sl 1 (v35.map fun x => [.v (str x)])]) (by first | with_reducible rfl | (simp -implicitDefEqProofs (maxSteps := 1000000) (disch := omega) [go_sem, t0_32e, t4_32e, t5_32e, t7_32e, t8_32e] <;> omega)) (F55_ok v11 x37 v35 hx38 ?_)
       try simp -implicitDefEqProofs (maxSteps := 1000000) (disch := omega) [go_sem, t0_32e, t4_32e, t5_32e, t7_32e, t8_32e]
       subst hc26
       refine vcK ?_
       try simp -implicitDefEqProofs (maxSteps := 1000000) (disch := omega) [go_sem, t0_32e, t4_32e, t5_32e, t7_32e, t8_32e]
       have e10 := Option.some.inj h
       subst e10
       refine loopN_mk hI10 ((x38, true, IntKind.i64.wrap (v13 + 1))) ?_
       refine .same ⟨rfl, ?_, ?_, ?_, ?_⟩ <;> first | with_reducible rfl | with_reducible assumption | (simp -implicitDefEqProofs (maxSteps := 1000000) (disch := omega) [go_sem, t0_32e, t4_32e, t5_32e, t7_32e, t8_32e] <;> omega)
      ·intro c41 h
       try simp -implicitDefEqProofs (disch := omega) at c41
       try simp -implicitDefEqProofs (maxSteps := 1000000) (disch := omega) [go_sem, t0_32e, t4_32e, t5_32e, t7_32e, t8_32e]
       subst hc36
       refine vcK ?_
       try simp -implicitDefEqProofs (maxSteps := 1000000) (disch := omega) [go_sem, t0_32e, t4_32e, t5_32e, t7_32e, t8_32e]
       obtain ⟨x39, hx39, h⟩ := bind_some' h
       refine ICalls.eqA (args' := [.v (str ((a0.getD v13.toNat S50.zero).fName))]) (by first | with_reducible rfl | (simp -implicitDefEqProofs (maxSteps := 1000000) (disch := omega) [go_sem, t0_32e, t4_32e, t5_32e, t7_32e, t8_32e] <;> omega)) (F50_ok ((a0.getD v13.toNat S50.zero).fName) hx39 ?_)
       try simp -implicitDefEqProofs (maxSteps := 1000000) (disch := omega) [go_sem, t0_32e, t4_32e, t5_32e, t7_32e, t8_32e]
       obtain ⟨x40, hx40, h⟩ := bind_some' h
       refine ICalls.eqA (args' := [.sl 2 (v11.map fun x => [.v (str x.fName), .sl 1 (x.fValues.map fun x => [.v (str x)])]), .v (str x39), .sl 1 (v35.map fun x => [.v (str x)])]) (by first | with_reducible rfl | (simp -implicitDefEqProofs (maxSteps := 1000000) (disch := omega) [go_sem, t0_32e, t4_32e, t5_32e, t7_32e, t8_32e] <;> omega)) (F55_ok v11 x39 v35 hx40 ?_)
       try simp -implicitDefEqProofs (maxSteps := 1000000) (disch := omega) [go_sem, t0_32e, t4_32e, t5_32e, t7_32e, t8_32e]
       subst hc26
       refine vcK ?_
       try simp -implicitDefEqProofs (maxSteps := 1000000) (disch := omega) [go_sem, t0_32e, t4_32e, t5_32e, t7_32e, t8_32e]
       have e10 := Option.some.inj h
       subst e10
       refine loopN_mk hI10 ((x40, decide (16 < (v35.length : Int)), IntKind.i64.wrap (v13 + 1))) ?_
       refine .same ⟨rfl, ?_, ?_, ?_, ?_⟩ <;> first | with_reducible rfl | with_reducible assumption | (simp -implicitDefEqProofs (maxSteps := 1000000) (disch := omega) [go_sem, t0_32e, t4_32e, t5_32e, t7_32e, t8_32e] <;> omega)
     ·refine IWp_block ?_
      refine IWp_loopF (fun (s : (List (List UInt8)) × Int) tm' H' => H = H' ∧ tm' 0 = .sl 2 (a0.map fun x => [.v (str x.fName), .sl 1 (x.fValues.map fun x => [.v (str x)])]) ∧ tm' 4 = .sl 2 (v11.map fun x => [.v (str x.fName), .sl 1 (x.fValues.map fun x => [.v (str x)])]) ∧ tm' 5 = .v (.bool v12) ∧ tm' 7 = .v (.int .i64 v13) ∧ tm' 8 = .sl 1 (s.1.map fun x => [.v (str x)]) ∧ tm' 9 = .v (.int .i64 s.2)) hl32q ?_ ?_
      ·refine .same ⟨rfl, ?_, ?_, ?_, ?_, ?_, ?_⟩ <;> first | with_reducible rfl | with_reducible assumption | (simp -implicitDefEqProofs (maxSteps := 1000000) (disch := omega) [go_sem, t0_10, t4_10, t5_10, t7_10] <;> omega)
      ·rintro I32 hI32 ⟨v33, v34⟩ x32 tm32 H32 ⟨rfl, t0_32, t4_32, t5_32, t7_32, t8_32, t9_32⟩ h hret32
       replace h : F20_b32 a0 v13 v33 v34 = some x32 := h
       unfold F20_b32 at h
       refine IWp_seqF fun cb hc42 => ?_
       refine IWp_seqF fun cb hc43 => ?_
       refine vcK ?_
       try simp -implicitDefEqProofs (maxSteps := 1000000) (disch := omega) [go_sem, t0_32, t4_32, t5_32, t7_32, t8_32, t9_32]
       subst hc43
       refine IWp_cond_i h (by first | with_reducible rfl | (simp -implicitDefEqProofs (maxSteps := 1000000) (disch := omega) [go_sem, t0_32, t4_32, t5_32, t7_32, t8_32, t9_32] <;> omega)) rfl ?_ ?_
       ·intro c44 h
        try simp -implicitDefEqProofs (disch := omega) at c44
        refine vcK ?_
        simp -implicitDefEqProofs only [go_sem]
        subst hc42
        refine IWp_seqF fun cb hc45 => ?_
        refine IWp_block ?_
        refine vcK ?_
        obtain ⟨g46, h⟩ := gd_some.1 h
        try simp -implicitDefEqProofs (disch := omega) at g46
        try simp -implicitDefEqProofs (maxSteps := 1000000) (disch := omega) [go_sem, t0_32, t4_32, t5_32, t7_32, t8_32, t9_32]
        obtain ⟨x47, hx47, h⟩ := bind_some' h
        refine ICalls.eqA (args' := [.sl 1 (v33.map fun x => [.v (str x)]), .v (str (((a0.getD v13.toNat S50.zero).fValues).getD v34.toNat []))]) (by first | with_reducible rfl | (simp -implicitDefEqProofs (maxSteps := 1000000) (disch := omega) [go_sem, t0_32, t4_32, t5_32, t7_32, t8_32, t9_32] <;> omega)) (F54_ok v33 (((a0.getD v13.toNat S50.zero).fValues).getD v34.toNat []) hx47 ?_)
        try simp -implicitDefEqProofs (maxSteps := 1000000) (disch := omega) [go_sem, t0_32, t4_32, t5_32, t7_32, t8_32, t9_32]
        subst hc45
        refine vcK ?_
        try simp -implicitDefEqProofs (maxSteps := 1000000) (disch := omega) [go_sem, t0_32, t4_32, t5_32, t7_32, t8_32, t9_32]
        have e32 := Option.some.inj h
        subst e32
        refine loopN_mk hI32 ((x47, IntKind.i64.wrap (v34 + 1))) ?_
        refine .same ⟨rfl, ?_, ?_, ?_, ?_, ?_, ?_⟩ <;> first | with_reducible rfl | with_reducible assumption | (simp -implicitDefEqProofs (maxSteps := 1000000) (disch := omega) [go_sem, t0_32, t4_32, t5_32, t7_32, t8_32, t9_32] <;> omega)
       ·intro c44 h
        try simp -implicitDefEqProofs (disch := omega) at c44
        refine vcK ?_
        simp -implicitDefEqProofs only [go_sem]
        have e32 := Option.some.inj h
        subst e32
        have hy32 := hret32 _ rfl
        refine hc32 _ _ ?_
        refine .same ⟨v33, hy32, rfl, ?_, ?_, ?_, ?_, ?_⟩ <;> first | with_reducible rfl | with_reducible assumption | (simp -implicitDefEqProofs (maxSteps := 1000000) (disch := omega) [go_sem, t0_32, t4_32, t5_32, t7_32, t8_32, t9_32] <;> omega)
    ·intro c25 h
     try simp -implicitDefEqProofs (disch := omega) at c25
     refine vcK ?_
     simp -implicitDefEqProofs only [go_sem]
     have e10 := Option.some.inj h
     subst e10
     have hy10 := hret10 _ rfl
     refine hc10 _ _ ?_
     refine .same ⟨v11, v12, hy10, rfl, ?_, ?_⟩ <;> first | with_reducible rfl | with_reducible assumption | (simp -implicitDefEqProofs (maxSteps := 1000000) (disch := omega) [go_sem, t0_10, t4_10, t5_10, t7_10] <;> omega)
 ·refine IWp_block ?_
  refine IWp_loopF (fun (s : Int) tm' H' => H = H' ∧ tm' 0 = .sl 2 (a0.map fun x => [.v (str x.fName), .sl 1 (x.fValues.map fun x => [.v (str x)])]) ∧ tm' 4 = .v (.slice none 0 0) ∧ tm' 5 = .v (.bool false) ∧ tm' 6 = .v (.int .i64 s)) hl6q ?_ ?_
  ·refine .same ⟨rfl, ?_, ?_, ?_, ?_⟩ <;> first | with_reducible rfl | with_reducible assumption | (simp -implicitDefEqProofs (maxSteps := 1000000) (disch := omega) [go_sem] <;> omega)
  ·rintro I6 hI6 v7 x6 tm6 H6 ⟨rfl, t0_6, t4_6, t5_6, t6_6⟩ h hret6
   replace h : F20_b6 a0 v7 = some x6 := h
   unfold F20_b6 at h
   refine IWp_seqF fun cb hc48 => ?_
   refine IWp_seqF fun cb hc49 => ?_
   refine vcK ?_
   try simp -implicitDefEqProofs (maxSteps := 1000000) (disch := omega) [go_sem, t0_6, t4_6, t5_6, t6_6]
   subst hc49
   refine IWp_cond_i h (by first | with_reducible rfl | (simp -implicitDefEqProofs (maxSteps := 1000000) (disch := omega) [go_sem, t0_6, t4_6, t5_6, t6_6] <;> omega)) rfl ?_ ?_
   ·intro c50 h
    try simp -implicitDefEqProofs (disch := omega) at c50
    refine vcK ?_
    simp -implicitDefEqProofs only [go_sem]
    subst hc48
    refine IWp_seqF fun cb hc51 => ?_
    refine IWp_block ?_
    refine IWp_seqF fun cb hc52 => ?_
    refine vcK ?_
    obtain ⟨g53, h⟩ := gd_some.1 h
    try simp -implicitDefEqProofs (disch := omega) at g53
    try simp -implicitDefEqProofs (maxSteps := 1000000) (disch := omega) [go_sem, t0_6, t4_6, t5_6, t6_6]
    obtain ⟨x54, hx54, h⟩ := bind_some' h
    refine ICalls.eqA (args' := [.v (str ((a0.getD v7.toNat S50.zero).fName))]) (by first | with_reducible rfl | (simp -implicitDefEqProofs (maxSteps := 1000000) (disch := omega) [go_sem, t0_6, t4_6, t5_6, t6_6] <;> omega)) (F49_ok ((a0.getD v7.toNat S50.zero).fName) hx54 ?_)
    try simp -implicitDefEqProofs (maxSteps := 1000000) (disch := omega) [go_sem, t0_6, t4_6, t5_6, t6_6]
    refine splitG_f h (by first | with_reducible rfl | (simp -implicitDefEqProofs (maxSteps := 1000000) (disch := omega) [go_sem, t0_6, t4_6, t5_6, t6_6] <;> omega)) ?_ ?_
    ·intro c59 h
     try simp -implicitDefEqProofs (disch := omega) at c59
     try simp -implicitDefEqProofs (maxSteps := 1000000) (disch := omega) [go_sem, t0_6, t4_6, t5_6, t6_6]
     subst hc52
     refine IWp_cond_t (by first | with_reducible rfl | (simp -implicitDefEqProofs (maxSteps := 1000000) (disch := omega) [go_sem, t0_6, t4_6, t5_6, t6_6] <;> omega)) rfl ?_
     refine IWp_seqF fun cb hc55 => ?_
     refine vcK ?_
     try simp -implicitDefEqProofs (maxSteps := 1000000) (disch := omega) [go_sem, t0_6, t4_6, t5_6, t6_6]
     subst hc55
     refine IWp.gh (Gh.slotN 2 2 (by simp -implicitDefEqProofs (maxSteps := 1000000) (disch := omega) [go_sem, t0_6, t4_6, t5_6, t6_6])) ?_
     refine vcK ?_
     simp -implicitDefEqProofs only [go_sem]
     have e6 := Option.some.inj h
     subst e6
     have e6 := hret6 _ rfl
     subst e6
     replace h : some ([], 2) = some r := hk6
     have er := Option.some.inj h
     subst er
     try simp -implicitDefEqProofs (maxSteps := 1000000) (disch := omega) [go_sem, t0_6, t4_6, t5_6, t6_6]
     refine retG_pureA (Ext.refl hw) hK (e := by first | with_reducible rfl | (simp -implicitDefEqProofs (maxSteps := 1000000) (disch := omega) [go_sem, t0_6, t4_6, t5_6, t6_6] <;> omega))
    ·intro c59 h
     try simp -implicitDefEqProofs (disch := omega) at c59
     try simp -implicitDefEqProofs (maxSteps := 1000000) (disch := omega) [go_sem, t0_6, t4_6, t5_6, t6_6]
     obtain ⟨x56, hx56, h⟩ := bind_some' h
     refine ICalls.eqA (args' := [.sl 1 (((a0.getD v7.toNat S50.zero).fValues).map fun x => [.v (str x)])]) (by first | with_reducible rfl | (simp -implicitDefEqProofs (maxSteps := 1000000) (disch := omega) [go_sem, t0_6, t4_6, t5_6, t6_6] <;> omega)) (F51_ok ((a0.getD v7.toNat S50.zero).fValues) hx56 ?_)
     try simp -implicitDefEqProofs (maxSteps := 1000000) (disch := omega) [go_sem, t0_6, t4_6, t5_6, t6_6]
     subst hc52
     refine IWp_cond_i h (by first | with_reducible rfl | (simp -implicitDefEqProofs (maxSteps := 1000000) (disch := omega) [go_sem, t0_6, t4_6, t5_6, t6_6] <;> omega)) rfl ?_ ?_
     ·intro c57 h
      try simp -implicitDefEqProofs (disch := omega) at c57
      refine IWp_seqF fun cb hc58 => ?_
      refine vcK ?_
      try simp -implicitDefEqProofs (maxSteps := 1000000) (disch := omega) [go_sem, t0_6, t4_6, t5_6, t6_6]
      subst hc58
      refine IWp.gh (Gh.slotN 2 2 (by simp -implicitDefEqProofs (maxSteps := 1000000) (disch := omega) [go_sem, t0_6, t4_6, t5_6, t6_6])) ?_
      refine vcK ?_
      simp -implicitDefEqProofs only [go_sem]
      have e6 := Option.some.inj h
      subst e6
      have e6 := hret6 _ rfl
      subst e6
      replace h : some ([], 2) = some r := hk6
      have er := Option.some.inj h
      subst er
      try simp -implicitDefEqProofs (maxSteps := 1000000) (disch := omega) [go_sem, t0_6, t4_6, t5_6, t6_6]
      refine retG_pureA (Ext.refl hw) hK (e := by first | with_reducible rfl | (simp -implicitDefEqProofs (maxSteps := 1000000) (disch := omega) [go_sem, t0_6, t4_6, t5_6, t6_6] <;> omega))
     ·intro c57 h
      try simp -implicitDefEqProofs (disch := omega) at c57
      refine vcK ?_
      simp -implicitDefEqProofs only [go_sem]
      subst hc51
      refine vcK ?_
      try simp -implicitDefEqProofs (maxSteps := 1000000) (disch := omega) [go_sem, t0_6, t4_6, t5_6, t6_6]
      have e6 := Option.some.inj h
      subst e6
      refine loopN_mk hI6 (IntKind.i64.wrap (v7 + 1)) ?_
      refine .same ⟨rfl, ?_, ?_, ?_, ?_⟩ <;> first | with_reducible rfl | with_reducible assumption | (simp -implicitDefEqProofs (maxSteps := 1000000) (disch := omega) [go_sem, t0_6, t4_6, t5_6, t6_6] <;> omega)
   ·intro c50 h
    try simp -implicitDefEqProofs (disch := omega) at c50
    refine vcK ?_
    simp -implicitDefEqProofs only [go_sem]
    have e6 := Option.some.inj h
    subst e6
    have hy6 := hret6 _ rfl
    refine hc6 _ _ ?_
    refine .same ⟨hy6, rfl, ?_, ?_, ?_⟩ <;> first | with_reducible rfl | with_reducible assumption | (simp -implicitDefEqProofs (maxSteps := 1000000) (disch := omega) [go_sem, t0_6, t4_6, t5_6, t6_6] <;> omega)

/-! cardcase/cardcaselaw07.EntryOrder -/

noncomputable def F4 (a0 : List S50) (a1 : List UInt8) : Option Bool :=
 (F11 a0).bind fun (x4 : Bool) => if ¬ (x4 = true) then ((F13 ).bind fun (x6 : Bool) => some x6) else (if 200 < (a1.length : Int) then ((F13 ).bind fun (x9 : Bool) => some x9) else ((F19 a0).bind fun (x11 : (List S50) × Int) => (F20 a0).bind fun (x13 : (List S50) × Int) => if ¬ x11.2 = x13.2 then (some false) else ((F16 x11.1 x13.1).bind fun (x17 : Bool) => if ¬ (x17 = true) then (some false) else (if ¬ x13.2 = 0 then ((F13 ).bind fun (x21 : Bool) => some x21) else ((F17 x11.1).bind fun (x22 : Int) => if x22 = 0 then ((F22 x11.1 a1).bind fun (x23 : (List (List UInt8))) => (F23 x13.1 a1).bind fun (x24 : (List (List UInt8))) => (F21 x23 x24).bind fun (x25 : Bool) => if x25 = true then ((F13 ).bind fun (x26 : Bool) => some x26) else (some false)) else (some false))))))

set_option maxHeartbeats 8000000 in
set_option pp.deepTerms false in
set_option maxRecDepth 60000 in
theorem F4_ok {H : IHeap} {K : IEnd → IHeap → Prop} (a0 : List S50) (a1 : List UInt8) {r : Bool} (h : F4 a0 a1 = some r) (hK : K (.ret (.v (.bool r))) H) : ICalls prog 4 [.sl 2 (a0.map fun x => [.v (str x.fName), .sl 1 (x.fValues.map fun x => [.v (str x)])]), .v (str a1)] H K := by
 refine ICalls_iwp (N := 56) func4 (by kernel_rfl) rfl (by kernel_rfl) (by kernel_rfl) fun cb hcb hw hbd hnb => ?_
 clear hbd hnb
 subst hcb
 unfold F4 at h
 refine IWp_seqF fun cb hc1 => ?_
 refine vcK ?_
 try simp -implicitDefEqProofs (maxSteps := 1000000) (disch := omega) [go_sem]
 subst hc1
 refine IWp_seqF fun cb hc2 => ?_
 refine IWp_seqF fun cb hc3 => ?_
 refine vcK ?_
 try simp -implicitDefEqProofs (maxSteps := 1000000) (disch := omega) [go_sem]
 obtain ⟨x4, hx4, h⟩ := bind_some' h
 refine ICalls.eqA (args' := [.sl 2 (a0.map fun x => [.v (str x.fName), .sl 1 (x.fValues.map fun x => [.v (str x)])])]) (by first | with_reducible rfl | (simp -implicitDefEqProofs (maxSteps := 1000000) (disch := omega) [go_sem] <;> omega)) (F11_ok a0 hx4 ?_)
 try simp -implicitDefEqProofs (maxSteps := 1000000) (disch := omega) [go_sem]
 refine splitG_f h (by first | with_reducible rfl | (simp -implicitDefEqProofs (maxSteps := 1000000) (disch := omega) [go_sem] <;> omega)) ?_ ?_
 ·intro c31 h
  try simp -implicitDefEqProofs (disch := omega) at c31
  try simp -implicitDefEqProofs (maxSteps := 1000000) (disch := omega) [go_sem]
  subst hc3
  refine IWp_cond_t (by first | with_reducible rfl | (simp -implicitDefEqProofs (maxSteps := 1000000) (disch := omega) [go_sem] <;> omega)) rfl ?_
  refine IWp_seqF fun cb hc5 => ?_
  refine vcK ?_
  try simp -implicitDefEqProofs (maxSteps := 1000000) (disch := omega) [go_sem]
  obtain ⟨x6, hx6, h⟩ := bind_some' h
  refine ICalls.eqA (args' := []) (by first | with_reducible rfl | (simp -implicitDefEqProofs (maxSteps := 1000000) (disch := omega) [go_sem] <;> omega)) (F13_ok  hx6 ?_)
  try simp -implicitDefEqProofs (maxSteps := 1000000) (disch := omega) [go_sem]
  subst hc5
  refine vcK ?_
  simp -implicitDefEqProofs only [go_sem]
  have er := Option.some.inj h
  subst er
  try simp -implicitDefEqProofs (maxSteps := 1000000) (disch := omega) [go_sem]
  refine retG_pureA (Ext.refl hw) hK (e := by first | with_reducible rfl | (simp -implicitDefEqProofs (maxSteps := 1000000) (disch := omega) [go_sem] <;> omega))
 ·intro c31 h
  try simp -implicitDefEqProofs (disch := omega) at c31
  try simp -implicitDefEqProofs (maxSteps := 1000000) (disch := omega) [go_sem]
  subst hc3
  refine IWp_cond_i h (by first | with_reducible rfl | (simp -implicitDefEqProofs (maxSteps := 1000000) (disch := omega) [go_sem] <;> omega)) rfl ?_ ?_
  ·intro c7 h
   try simp -implicitDefEqProofs (disch := omega) at c7
   refine IWp_seqF fun cb hc8 => ?_
   refine vcK ?_
   try simp -implicitDefEqProofs (maxSteps := 1000000) (disch := omega) [go_sem]
   obtain ⟨x9, hx9, h⟩ := bind_some' h
   refine ICalls.eqA (args' := []) (by first | with_reducible rfl | (simp -implicitDefEqProofs (maxSteps := 1000000) (disch := omega) [go_sem] <;> omega)) (F13_ok  hx9 ?_)
   try simp -implicitDefEqProofs (maxSteps := 1000000) (disch := omega) [go_sem]
   subst hc8
   refine vcK ?_
   simp -implicitDefEqProofs only [go_sem]
   have er := Option.some.inj h
   subst er
   try simp -implicitDefEqProofs (maxSteps := 1000000) (disch := omega) [go_sem]
   refine retG_pureA (Ext.refl hw) hK (e := by first | with_reducible rfl | (simp -implicitDefEqProofs (maxSteps := 1000000) (disch := omega) [go_sem] <;> omega))
  ·intro c7 h
   try simp -implicitDefEqProofs (disch := omega) at c7
   refine vcK ?_
   simp -implicitDefEqProofs only [go_sem]
   subst hc2
   refine IWp_seqF fun cb hc10 => ?_
   refine vcK ?_
   try simp -implicitDefEqProofs (maxSteps := 1000000) (disch := omega) [go_sem]
   obtain ⟨x11, hx11, h⟩ := bind_some' h
   refine ICalls.eqA (args' := [.sl 2 (a0.map fun x => [.v (str x.fName), .sl 1 (x.fValues.map fun x => [.v (str x)])])]) (by first | with_reducible rfl | (simp -implicitDefEqProofs (maxSteps := 1000000) (disch := omega) [go_sem] <;> omega)) (F19_ok a0 hx11 ?_)
   try simp -implicitDefEqProofs (maxSteps := 1000000) (disch := omega) [go_sem]
   subst hc10
   refine IWp_seqF fun cb hc12 => ?_
   refine vcK ?_
   try simp -implicitDefEqProofs (maxSteps := 1000000) (disch := omega) [go_sem]
   obtain ⟨x13, hx13, h⟩ := bind_some' h
   refine ICalls.eqA (args' := [.sl 2 (a0.map fun x => [.v (str x.fName), .sl 1 (x.fValues.map fun x => [.v (str x)])])]) (by first | with_reducible rfl | (simp -implicitDefEqProofs (maxSteps := 1000000) (disch := omega) [go_sem] <;> omega)) (F20_ok a0 hx13 ?_)
   try simp -implicitDefEqProofs (maxSteps := 1000000) (disch := omega) [go_sem]
   subst hc12
   refine IWp_seqF fun cb hc14 => ?_
   refine IWp_seqF fun cb hc15 => ?_
   refine vcK ?_
   try simp -implicitDefEqProofs (maxSteps := 1000000) (disch := omega) [go_sem]
   refine splitG_f h (by first | with_reducible rfl | (simp -implicitDefEqProofs (maxSteps := 1000000) (disch := omega) [go_sem] <;> omega)) ?_ ?_
   ·intro c30 h
    try simp -implicitDefEqProofs (disch := omega) at c30
    try simp -implicitDefEqProofs (maxSteps := 1000000) (disch := omega) [go_sem]
    subst hc15
    refine IWp_cond_t (by first | with_reducible rfl | (simp -implicitDefEqProofs (maxSteps := 1000000) (disch := omega) [go_sem] <;> omega)) rfl ?_
    refine IWp_seqF fun cb hc16 => ?_
    refine vcK ?_
    try simp -implicitDefEqProofs (maxSteps := 1000000) (disch := omega) [go_sem]
    subst hc16
    refine vcK ?_
    simp -implicitDefEqProofs only [go_sem]
    have er := Option.some.inj h
    subst er
    try simp -implicitDefEqProofs (maxSteps := 1000000) (disch := omega) [go_sem]
    refine retG_pureA (Ext.refl hw) hK (e := by first | with_reducible rfl | (simp -implicitDefEqProofs (maxSteps := 1000000) (disch := omega) [go_sem] <;> omega))
   ·intro c30 h
    try simp -implicitDefEqProofs (disch := omega) at c30
    try simp -implicitDefEqProofs (maxSteps := 1000000) (disch := omega) [go_sem]
    obtain ⟨x17, hx17, h⟩ := bind_some' h
    refine ICalls.eqA (args' := [.sl 2 (x11.1.map fun x => [.v (str x.fName), .sl 1 (x.fValues.map fun x => [.v (str x)])]), .sl 2 (x13.1.map fun x => [.v (str x.fName), .sl 1 (x.fValues.map fun x => [.v (str x)])])]) (by first | with_reducible rfl | (simp -implicitDefEqProofs (maxSteps := 1000000) (disch := omega) [go_sem] <;> omega)) (F16_ok x11.1 x13.1 hx17 ?_)
    try simp -implicitDefEqProofs (maxSteps := 1000000) (disch := omega) [go_sem]
    subst hc15
    refine IWp_cond_i h (by first | with_reducible rfl | (simp -implicitDefEqProofs (maxSteps := 1000000) (disch := omega) [go_sem] <;> omega)) rfl ?_ ?_
    ·intro c18 h
     try simp -implicitDefEqProofs (disch := omega) at c18
     refine IWp_seqF fun cb hc19 => ?_
     refine vcK ?_
     try simp -implicitDefEqProofs (maxSteps := 1000000) (disch := omega) [go_sem]
     subst hc19
     refine vcK ?_
     simp -implicitDefEqProofs only [go_sem]
     have er := Option.some.inj h
     subst er
     try simp -implicitDefEqProofs (maxSteps := 1000000) (disch := omega) [go_sem]
     refine retG_pureA (Ext.refl hw) hK (e := by first | with_reducible rfl | (simp -implicitDefEqProofs (maxSteps := 1000000) (disch := omega) [go_sem] <;> omega))
    ·intro c18 h
     try simp -implicitDefEqProofs (disch := omega) at c18
     refine vcK ?_
     simp -implicitDefEqProofs only [go_sem]
     subst hc14
     refine IWp_seqF fun cb hc20 => ?_
     refine vcK ?_
     try simp -implicitDefEqProofs (maxSteps := 1000000) (disch := omega) [go_sem]
     refine splitG_f h (by first | with_reducible rfl | (simp -implicitDefEqProofs (maxSteps := 1000000) (disch := omega) [go_sem] <;> omega)) ?_ ?_
     ·intro c29 h
      try simp -implicitDefEqProofs (disch := omega) at c29
      try simp -implicitDefEqProofs (maxSteps := 1000000) (disch := omega) [go_sem]
      obtain ⟨x21, hx21, h⟩ := bind_some' h
      refine ICalls.eqA (args' := []) (by first | with_reducible rfl | (simp -implicitDefEqProofs (maxSteps := 1000000) (disch := omega) [go_sem] <;> omega)) (F13_ok  hx21 ?_)
      try simp -implicitDefEqProofs (maxSteps := 1000000) (disch := omega) [go_sem]
      subst hc20
      refine vcK ?_
      simp -implicitDefEqProofs only [go_sem]
      have er := Option.some.inj h
      subst er
      try simp -implicitDefEqProofs (maxSteps := 1000000) (disch := omega) [go_sem]
      refine retG_pureA (Ext.refl hw) hK (e := by first | with_reducible rfl | (simp -implicitDefEqProofs (maxSteps := 1000000) (disch := omega) [go_sem] <;> omega))
     ·intro c29 h
      try simp -implicitDefEqProofs (disch := omega) at c29
      try simp -implicitDefEqProofs (maxSteps := 1000000) (disch := omega) [go_sem]
      obtain ⟨x22, hx22, h⟩ := bind_some' h
      refine ICalls.eqA (args' := [.sl 2 (x11.1.map fun x => [.v (str x.fName), .sl 1 (x.fValues.map fun x => [.v (str x)])])]) (by first | with_reducible rfl | (simp -implicitDefEqProofs (maxSteps := 1000000) (disch := omega) [go_sem] <;> omega)) (F17_ok x11.1 hx22 ?_)
      try simp -implicitDefEqProofs (maxSteps := 1000000) (disch := omega) [go_sem]
      refine splitG_f h (by first | with_reducible rfl | (simp -implicitDefEqProofs (maxSteps := 1000000) (disch := omega) [go_sem] <;> omega)) ?_ ?_
      ·intro c28 h
       try simp -implicitDefEqProofs (disch := omega) at c28
       try simp -implicitDefEqProofs (maxSteps := 1000000) (disch := omega) [go_sem]
       obtain ⟨x23, hx23, h⟩ := bind_some' h
       refine ICalls.eqA (args' := [.sl 2 (x11.1.map fun x => [.v (str x.fName), .sl 1 (x.fValues.map fun x => [.v (str x)])]), .v (str a1)]) (by first | with_reducible rfl | (simp -implicitDefEqProofs (maxSteps := 1000000) (disch := omega) [go_sem] <;> omega)) (F22_ok x11.1 a1 hx23 ?_)
       try simp -implicitDefEqProofs (maxSteps := 1000000) (disch := omega) [go_sem]
       obtain ⟨x24, hx24, h⟩ := bind_some' h
       refine ICalls.eqA (args' := [.sl 2 (x13.1.map fun x => [.v (str x.fName), .sl 1 (x.fValues.map fun x => [.v (str x)])]), .v (str a1)]) (by first | with_reducible rfl | (simp -implicitDefEqProofs (maxSteps := 1000000) (disch := omega) [go_sem] <;> omega)) (F23_ok x13.1 a1 hx24 ?_)
       try simp -implicitDefEqProofs (maxSteps := 1000000) (disch := omega) [go_sem]
       obtain ⟨x25, hx25, h⟩ := bind_some' h
       refine ICalls.eqA (args' := [.sl 1 (x23.map fun x => [.v (str x)]), .sl 1 (x24.map fun x => [.v (str x)])]) (by first | with_reducible rfl | (simp -implicitDefEqProofs (maxSteps := 1000000) (disch := omega) [go_sem] <;> omega)) (F21_ok x23 x24 hx25 ?_)
       try simp -implicitDefEqProofs (maxSteps := 1000000) (disch := omega) [go_sem]
       refine splitG_f h (by first | with_reducible rfl | (simp -implicitDefEqProofs (maxSteps := 1000000) (disch := omega) [go_sem] <;> omega)) ?_ ?_
       ·intro c27 h
        try simp -implicitDefEqProofs (disch := omega) at c27
        try simp -implicitDefEqProofs (maxSteps := 1000000) (disch := omega) [go_sem]
        obtain ⟨x26, hx26, h⟩ := bind_some' h
        refine ICalls.eqA (args' := []) (by first | with_reducible rfl | (simp -implicitDefEqProofs (maxSteps := 1000000) (disch := omega) [go_sem] <;> omega)) (F13_ok  hx26 ?_)
        try simp -implicitDefEqProofs (maxSteps := 1000000) (disch := omega) [go_sem]
        subst hc20
        refine vcK ?_
        simp -implicitDefEqProofs only [go_sem]
        have er := Option.some.inj h
        subst er
        try simp -implicitDefEqProofs (maxSteps := 1000000) (disch := omega) [go_sem]
        refine retG_pureA (Ext.refl hw) hK (e := by first | with_reducible rfl | (simp -implicitDefEqProofs (maxSteps := 1000000) (disch := omega) [go_sem] <;> omega))
       ·intro c27 h
        try simp -implicitDefEqProofs (disch := omega) at c27
        try simp -implicitDefEqProofs (maxSteps := 1000000) (disch := omega) [go_sem]
        subst hc20
        refine vcK ?_
        simp -implicitDefEqProofs only [go_sem]
        have er := Option.some.inj h
        subst er
        try simp -implicitDefEqProofs (maxSteps := 1000000) (disch := omega) [go_sem]
        refine retG_pureA (Ext.refl hw) hK (e := by first | with_reducible rfl | (simp -implicitDefEqProofs (maxSteps := 1000000) (disch := omega) [go_sem] <;> omega))
      ·intro c28 h
       try simp -implicitDefEqProofs (disch := omega) at c28
       try simp -implicitDefEqProofs (maxSteps := 1000000) (disch := omega) [go_sem]
       subst hc20
       refine vcK ?_
       simp -implicitDefEqProofs only [go_sem]
       have er := Option.some.inj h
       subst er
       try simp -implicitDefEqProofs (maxSteps := 1000000) (disch := omega) [go_sem]
       refine retG_pureA (Ext.refl hw) hK (e := by first | with_reducible rfl | (simp -implicitDefEqProofs (maxSteps := 1000000) (disch := omega) [go_sem] <;> omega))

end Go.Idl

namespace Go.Idl

open Go Go.Proofs.Tryz

/-! cardcase/cardcaseref07.Diff -/

/-! cardcase/cardcaseref07.SameMods -/

/-! cardcase/cardcaselaw07.EntryDiffs -/

end Go.Idl

namespace Go.Idl

open Go Go.Proofs.Tryz

/-! cardcase/cardcaselaw07.EntryBackAgain -/

/-! cardcase/cardcaselaw07.ordered -/

/-! cardcase/cardcaselaw07.EntryOne -/

end Go.Idl

namespace Go.Idl

open Go

def findI {α ρ : Type} (f : Nat → α → Option ρ) (d : ρ) : Nat → List α → ρ
  | _, [] => d
  | i, x :: l => match f i x with
    | none => findI f d (i + 1) l
    | some r => r

def runI {α σ ρ : Type} (f : Nat → σ → α → σ ⊕ ρ) (fin : σ → ρ) : Nat → σ → List α → ρ
  | _, a, [] => fin a
  | i, a, x :: l => match f i a x with
    | .inl a' => runI f fin (i + 1) a' l
    | .inr r => r

theorem findI_cons {α ρ : Type} {f : Nat → α → Option ρ} {d : ρ} {i : Nat} {x : α} {l : List α} : findI f d i (x :: l) = match f i x with
    | none => findI f d (i + 1) l
    | some r => r := rfl

theorem runI_cons {α σ ρ : Type} {f : Nat → σ → α → σ ⊕ ρ} {fin : σ → ρ} {i : Nat} {a : σ} {x : α} {l : List α} : runI f fin i a (x :: l) = match f i a x with
    | .inl a' => runI f fin (i + 1) a' l
    | .inr r => r := rfl

theorem loopO_find {α ρ : Type} (l : List α) {step : Int → Option (Int ⊕ ρ)} (f : Nat → α → Option ρ) (d : ρ) (hl : l.length ≤ 1000000000)
    (hs : ∀ (i : Nat) (h : i < l.length), step (i : Int) = some (match f i l[i] with | none => .inl (IntKind.i64.wrap ((i : Int) + 1)) | some r => .inr r))
    (hf : step (l.length : Int) = some (.inr d)) : loopO step 0 = some (findI f d 0 l) := by
  obtain ⟨r, h1, h2⟩ := loopO_for (step := step) (Post := fun r => r = findI f d 0 l) l.length (fun i => findI f d i (l.drop i) = findI f d 0 l) (by simp)
    (fun i hi hI => by
      rw [hs i hi]
      rw [List.drop_eq_getElem_cons hi] at hI
      rw [findI_cons] at hI
      cases hfi : f i l[i] with
      | none =>
        rw [hfi] at hI
        rw [wrap_nat (by omega)]
        exact .inl ⟨rfl, hI⟩
      | some r =>
        rw [hfi] at hI
        exact .inr ⟨r, rfl, hI⟩)
    (fun hI => ⟨d, hf, by rw [List.drop_length] at hI; exact hI⟩)
  rw [h1, h2]

theorem loopO_run {α σ ρ : Type} (l : List α) {step : σ × Int → Option ((σ × Int) ⊕ ρ)} (f : Nat → σ → α → σ ⊕ ρ) (fin : σ → ρ) (Inv : Nat → σ → Prop) {a : σ} (hl : l.length ≤ 1000000000) (h0 : Inv 0 a)
    (hs : ∀ (i : Nat) (h : i < l.length) (a : σ), Inv i a → step (a, (i : Int)) = some (match f i a l[i] with | .inl a' => .inl (a', IntKind.i64.wrap ((i : Int) + 1)) | .inr r => .inr r))
    (hn : ∀ (i : Nat) (h : i < l.length) (a a' : σ), Inv i a → f i a l[i] = .inl a' → Inv (i + 1) a')
    (hf : ∀ a, Inv l.length a → step (a, (l.length : Int)) = some (.inr (fin a))) : loopO step (a, 0) = some (runI f fin 0 a l) := by
  obtain ⟨r, h1, h2⟩ := loopO_for2 (step := step) (Post := fun r => r = runI f fin 0 a l) l.length (fun i a' => Inv i a' ∧ runI f fin i a' (l.drop i) = runI f fin 0 a l) (a := a) ⟨h0, by simp⟩
    (fun i a' hi hI => by
      obtain ⟨hI, hR⟩ := hI
      rw [hs i hi a' hI]
      rw [List.drop_eq_getElem_cons hi] at hR
      rw [runI_cons] at hR
      cases hfi : f i a' l[i] with
      | inl a2 =>
        rw [hfi] at hR
        rw [wrap_nat (by omega)]
        exact .inl ⟨a2, rfl, hn i hi a' a2 hI hfi, hR⟩
      | inr r =>
        rw [hfi] at hR
        exact .inr ⟨r, rfl, hR⟩)
    (fun a' hI => ⟨_, hf a' hI.1, by have := hI.2; rw [List.drop_length] at this; exact this⟩)
  rw [h1, h2]

theorem loopO_run2 {α σ τ ρ : Type} (l : List α) {step : σ × τ × Int → Option ((σ × τ × Int) ⊕ ρ)} (f : Nat → σ × τ → α → (σ × τ) ⊕ ρ) (fin : σ × τ → ρ) (Inv : Nat → σ × τ → Prop) {a : σ} {b : τ} (hl : l.length ≤ 1000000000) (h0 : Inv 0 (a, b))
    (hs : ∀ (i : Nat) (h : i < l.length) (a : σ) (b : τ), Inv i (a, b) → step (a, b, (i : Int)) = some (match f i (a, b) l[i] with | .inl a' => .inl (a'.1, a'.2, IntKind.i64.wrap ((i : Int) + 1)) | .inr r => .inr r))
    (hn : ∀ (i : Nat) (h : i < l.length) (a a' : σ × τ), Inv i a → f i a l[i] = .inl a' → Inv (i + 1) a')
    (hf : ∀ a b, Inv l.length (a, b) → step (a, b, (l.length : Int)) = some (.inr (fin (a, b)))) : loopO step (a, b, 0) = some (runI f fin 0 (a, b) l) := by
  have key : ∃ r, loopO step (a, b, 0) = some r ∧ r = runI f fin 0 (a, b) l := by
    refine loopO_inv (fun s : σ × τ × Int => ∃ i : Nat, i ≤ l.length ∧ s.2.2 = (i : Int) ∧ Inv i (s.1, s.2.1) ∧ runI f fin i (s.1, s.2.1) (l.drop i) = runI f fin 0 (a, b) l) (fun s : σ × τ × Int => l.length - s.2.2.toNat) ?_ ⟨0, Nat.zero_le _, rfl, h0, by simp⟩
    rintro ⟨a', b', s⟩ ⟨i, hi, hs2, hI, hR⟩
    simp only at hs2 hI hR
    subst hs2
    rcases Nat.lt_or_ge i l.length with h | h
    · rw [hs i h a' b' hI]
      rw [List.drop_eq_getElem_cons h] at hR
      rw [runI_cons] at hR
      cases hfi : f i (a', b') l[i] with
      | inl a2 =>
        rw [hfi] at hR
        rw [wrap_nat (by omega)]
        exact .inl ⟨_, rfl, ⟨i + 1, h, rfl, hn i h _ a2 hI hfi, hR⟩, by simp; omega⟩
      | inr r =>
        rw [hfi] at hR
        exact .inr ⟨r, rfl, hR⟩
    · have e : i = l.length := by omega
      subst e
      rw [List.drop_length] at hR
      exact .inr ⟨_, hf a' b' hI, hR⟩
  obtain ⟨r, h1, h2⟩ := key
  rw [h1, h2]

theorem findI_all {α ρ : Type} (p : α → Bool) (bad good : ρ) : ∀ (l : List α) (i : Nat), findI (fun _ x => if p x = true then none else some bad) good i l = if l.all p = true then good else bad
  | [], _ => by simp [findI]
  | x :: l, i => by
    unfold findI
    by_cases h : p x = true
    · rw [if_pos h]
      simp only [findI_all p bad good l (i + 1), List.all_cons, h, Bool.true_and]
    · rw [if_neg h]
      have : (List.all (x :: l) p) = false := by simp [List.all_cons, Bool.eq_false_iff.2 h]
      simp [this]

end Go.Idl

namespace Go.Idl

open Go

def letterB (b : UInt8) : Bool := decide (65 ≤ b.toNat ∧ b.toNat ≤ 90 ∨ 97 ≤ b.toNat ∧ b.toNat ≤ 122)

def restB (b : UInt8) : Bool := letterB b || decide (48 ≤ b.toNat ∧ b.toNat ≤ 57) || decide (b.toNat = 45)

def nameB (s : Str) : Bool := decide (1 ≤ s.length ∧ s.length ≤ 64) && letterB (s.getD 0 0) && s.all restB

abbrev smallS (s : Str) : Str := s.map lowB

theorem lowB_nat (b : UInt8) : (lowB b).toNat = if 65 ≤ b.toNat ∧ b.toNat ≤ 90 then b.toNat + 32 else b.toNat := by
  have h := lowB_int b
  split
  · rename_i c; have := h.1 (by omega); omega
  · rename_i c; rw [h.2 (by omega)]

theorem letter_low (b : UInt8) : letterB (lowB b) = letterB b := by
  have h := lowB_nat b
  simp only [letterB, decide_eq_decide]
  split at h <;> omega

theorem rest_low (b : UInt8) : restB (lowB b) = restB b := by
  have h := lowB_nat b
  simp only [restB, letter_low]
  congr 1
  · congr 1
    simp only [decide_eq_decide]
    split at h <;> omega
  · simp only [decide_eq_decide]
    split at h <;> omega

theorem low_low (b : UInt8) : lowB (lowB b) = lowB b := by
  refine UInt8.toNat_inj.1 ?_
  have h := lowB_nat b
  have h2 := lowB_nat (lowB b)
  split at h <;> split at h2 <;> omega

theorem small_small (s : Str) : smallS (smallS s) = smallS s := by
  simp [smallS, low_low]

theorem name_small (s : Str) : nameB (smallS s) = nameB s := by
  unfold nameB
  congr 1
  · congr 1
    · simp [smallS]
    · cases s with
      | nil => rfl
      | cons b s => simp [smallS, letter_low]
  · simp only [smallS, List.all_map]
    congr 1
    funext b
    exact rest_low b

theorem F41_eq (s : Str) (h : s.length ≤ 1000000) : F41 s = some (smallS s) := gd_pos (by omega)

theorem F113_eq (a b c : Int) : F113 a b c = some (decide (b ≤ a ∧ a ≤ c)) := by
  unfold F113
  by_cases h : b ≤ a
  · rw [if_pos h]; simp [h]
  · rw [if_neg h]; simp [h]

theorem F87_eq (b : UInt8) : F87 (b.toNat : Int) = some (letterB b) := by
  unfold F87 letterB
  by_cases h1 : 65 ≤ (b.toNat : Int) <;> by_cases h2 : (b.toNat : Int) ≤ 90 <;> by_cases h3 : 97 ≤ (b.toNat : Int) <;> simp only [h1, h2, h3, if_true, if_false, Option.some.injEq] <;> first | (symm; simp only [decide_eq_true_eq]; omega) | (symm; simp only [decide_eq_false_iff_not]; omega) | (simp only [decide_eq_decide]; omega)

theorem F50_eq (s : Str) (hl : s.length ≤ 1000000) : F50 s = some (smallS s) := by
  unfold F50
  rw [loopO_run s (fun _ a b => .inl (a ++ [lowB b])) id (fun i a => a.length = i) (by omega) rfl
    (fun i hi a hI => by
      simp only [F50_b5]
      rw [if_pos (by omega), gd_pos (by omega), Int.toNat_natCast, getD_some hi]
      have hb := UInt8.toNat_lt s[i]
      have hlb := lowB_nat s[i]
      by_cases h1 : 65 ≤ (s[i].toNat : Int)
      · rw [if_pos h1]
        by_cases h2 : (s[i].toNat : Int) ≤ 90
        · have hw : IntKind.u8.wrap ((s[i].toNat : Int) + 32) = ((lowB s[i]).toNat : Int) := by
            rw [if_pos (by omega)] at hlb
            rw [hlb]
            simp only [IntKind.wrap, IntKind.signed, IntKind.bits, Bool.false_and, Bool.false_eq_true, if_false]
            omega
          have hb2 := UInt8.toNat_lt (lowB s[i])
          rw [if_pos h2, hw, gd_pos (by omega), gd_pos (by simp only [List.length_cons, List.length_nil]; omega)]
          simp
        · rw [if_neg (by omega)] at hlb
          rw [if_neg h2, gd_pos (by omega), gd_pos (by simp only [List.length_cons, List.length_nil]; omega)]
          have : lowB s[i] = s[i] := UInt8.toNat_inj.1 hlb
          simp [this]
      · rw [if_neg (by omega)] at hlb
        rw [if_neg h1, gd_pos (by omega), gd_pos (by simp only [List.length_cons, List.length_nil]; omega)]
        have : lowB s[i] = s[i] := UInt8.toNat_inj.1 hlb
        simp [this])
    (fun i hi a a' hI h => by simp only [Sum.inl.injEq] at h; subst h; simp [hI])
    (fun a hI => by simp only [F50_b5]; rw [if_neg (by omega)]; rfl)]
  have : ∀ (l : Str) (i : Nat) (a : Str), runI (fun _ a b => (.inl (a ++ [lowB b]) : Str ⊕ Str)) id i a l = a ++ smallS l := by
    intro l
    induction l with
    | nil => intro i a; simp [runI]
    | cons x l ih => intro i a; rw [runI_cons]; simp only [ih]; simp
  rw [this]
  simp [F50_k5]

theorem F49_eq (s : Str) : F49 s = some (nameB s) := by
  unfold F49
  by_cases h1 : (s.length : Int) < 1
  · rw [if_pos h1]
    have : s = [] := List.eq_nil_of_length_eq_zero (by omega)
    subst this
    rfl
  · rw [if_neg h1]
    by_cases h2 : 64 < (s.length : Int)
    · rw [if_pos h2]
      have : nameB s = false := by simp [nameB]; omega
      rw [this]
    · rw [if_neg h2, gd_pos (by omega), F87_eq]
      have h3 : decide (1 ≤ s.length ∧ s.length ≤ 64) = true := by simp; omega
      simp only [Option.bind_some, nameB, h3, Bool.true_and]
      by_cases h4 : letterB (s.getD 0 0) = true
      · rw [if_neg (by simp only [h4, not_true, not_false_eq_true]), h4, Bool.true_and]
        rw [loopO_find s (fun _ b => if restB b = true then none else some (.inr false)) (.inl ()) (by omega)
          (fun i hi => by
            simp only [F49_b12]
            rw [if_pos (by omega), gd_pos (by omega), Int.toNat_natCast, getD_some hi, F87_eq]
            simp only [Option.bind_some]
            by_cases h5 : letterB s[i] = true
            · rw [if_neg (by simp [h5])]
              simp [restB, h5]
            · rw [if_pos h5]
              by_cases h6 : (s[i].toNat : Int) < 48
              · rw [if_pos h6]
                by_cases h7 : (s[i].toNat : Int) = 45
                · have : restB s[i] = true := by simp [restB]; omega
                  simp [h7, this]
                · have : restB s[i] = false := by simp [restB, h5]; omega
                  simp [h7, this]
              · rw [if_neg h6]
                by_cases h8 : 57 < (s[i].toNat : Int)
                · rw [if_pos h8]
                  have h7 : ¬ (s[i].toNat : Int) = 45 := by omega
                  have : restB s[i] = false := by simp [restB, h5]; omega
                  simp [h7, this]
                · rw [if_neg h8]
                  have : restB s[i] = true := by simp [restB]; omega
                  simp [this])
          (by simp only [F49_b12]; rw [if_neg (by omega)])]
        rw [findI_all]
        cases h : s.all restB <;> simp [F49_k12]
      · rw [if_pos h4]
        rw [Bool.eq_false_iff.2 h4]
        rfl

end Go.Idl

namespace Go.Idl

open Go

theorem F103_eq (s : Str) (hl : s.length ≤ 1000000) : F103 s = some (nameB s) := by
  unfold F103
  rw [gd_pos (by omega)]
  rw [loopO_find s (fun i b => if letterB b = true then none else if i = 0 then some (.inr false) else if restB b = true then none else some (.inr false)) (.inl ()) (by omega)
    (fun i hi => by
      simp only [F103_b5]
      rw [if_pos (by omega), gd_pos (by omega), Int.toNat_natCast, getD_some hi, F113_eq, F113_eq, F113_eq]
      simp only [Option.bind_some]
      by_cases h1 : letterB s[i] = true
      · rw [if_pos h1]
        have h1' := h1
        simp only [letterB, decide_eq_true_eq] at h1'
        by_cases h2 : 97 ≤ (s[i].toNat : Int) ∧ (s[i].toNat : Int) ≤ 122
        · rw [if_neg (by simp [h2])]
        · rw [if_pos (by simpa using h2), if_neg (by simp; omega)]
      · rw [if_neg h1]
        have h1' := h1
        simp only [letterB, decide_eq_true_eq] at h1'
        rw [if_pos (by simp; omega), if_pos (by simp; omega)]
        by_cases h3 : i = 0
        · rw [if_pos (by omega), if_pos h3]
        · rw [if_neg (by omega), if_neg h3]
          by_cases h4 : 48 ≤ (s[i].toNat : Int) ∧ (s[i].toNat : Int) ≤ 57
          · rw [if_neg (by simp [h4])]
            have : restB s[i] = true := by simp [restB]; omega
            rw [if_pos this]
          · rw [if_pos (by simpa using h4)]
            by_cases h5 : (s[i].toNat : Int) = 45
            · have : restB s[i] = true := by simp [restB]; omega
              rw [if_neg (by simpa using h5), if_pos this]
            · have : ¬ restB s[i] = true := by simp [restB, h1]; omega
              rw [if_pos h5, if_neg this])
    (by simp only [F103_b5]; rw [if_neg (by omega)])]
  have htl : ∀ (l : Str) (i : Nat), findI (fun i b => if letterB b = true then none else if i = 0 then some (.inr false) else if restB b = true then none else some (.inr false)) (.inl ()) (i + 1) l = if l.all restB = true then (.inl () : Unit ⊕ Bool) else .inr false := by
    intro l
    induction l with
    | nil => intro i; simp [findI]
    | cons x l ih =>
      intro i
      rw [findI_cons]
      by_cases h1 : letterB x = true
      · have h2 : restB x = true := by simp [restB, h1]
        simp only [h1, if_true, ih, List.all_cons, h2, Bool.true_and]
      · rw [if_neg h1, if_neg (by omega)]
        by_cases h2 : restB x = true
        · simp only [h2, if_true, ih, List.all_cons, Bool.true_and]
        · rw [if_neg h2]
          simp [List.all_cons, Bool.eq_false_iff.2 h2]
  cases s with
  | nil => simp [findI, F103_k5, nameB]
  | cons x l =>
    rw [findI_cons]
    by_cases h1 : letterB x = true
    · have h2 : restB x = true := by simp [restB, h1]
      rw [if_pos h1]
      simp only [htl l 0]
      by_cases h3 : l.all restB = true
      · simp only [h3, if_true, Option.bind_some, Sum.elim_inl, F103_k5, nameB, List.getD_cons_zero, h1, List.all_cons, h2, Bool.and_true]
        by_cases h4 : 1 ≤ ((x :: l).length : Int)
        · rw [if_pos h4]
          simp only [Option.some.injEq, decide_eq_decide]
          omega
        · simp at h4; omega
      · simp [h3, nameB, h1, h2]
    · rw [if_neg h1, if_pos rfl]
      simp only [Option.bind_some, Sum.elim_inr, nameB, List.getD_cons_zero]
      rw [Bool.eq_false_iff.2 h1]
      simp

theorem F45_eq (s : Str) (hl : s.length ≤ 1000000) : F45 s = some (nameB s) := by
  unfold F45
  rw [F41_eq s hl]
  simp only [Option.bind_some]
  have hl2 : (smallS s).length ≤ 1000000 := by simpa using hl
  have h102 : F102 ⟨smallS s, [120]⟩ = some (nameB s) := by
    simp only [F102, F103_eq _ hl2, Option.bind_some, name_small]
    cases h : nameB s with
    | false => rfl
    | true =>
      rw [if_pos rfl, F41_eq _ hl2]
      simp only [Option.bind_some, small_small, if_true, List.length_cons, List.length_nil]
      rfl
  have h129 : F129 [⟨smallS s, [120]⟩] = some (if nameB s = true then -1 else 0) := by
    unfold F129
    rw [loopO_find [(⟨smallS s, [120]⟩ : S112)] (fun i _ => if nameB s = true then none else some (.inr (i : Int))) (.inl ()) (by simp)
      (fun i hi => by
        simp only [F129_b4]
        have h0 : i = 0 := by simpa using hi
        subst h0
        rw [if_pos (by simp), gd_pos (by simp)]
        simp only [F115, Int.toNat_natCast, getD_some hi, List.getElem_cons_zero, h102, Option.bind_some]
        cases nameB s <;> simp)
      (by simp only [F129_b4]; rw [if_neg (by simp)])]
    cases nameB s <;> simp [findI, F129_k4]
  simp only [F84, F104, F114, h129, Option.bind_some, List.length_cons, List.length_nil]
  cases nameB s <;> simp

def valB (s : Str) : Bool := decide (1 ≤ s.length ∧ s.length ≤ 2048)

theorem F47_eq (s : Str) : F47 s = some (valB s) := by
  unfold F47 valB
  by_cases h : 1 ≤ (s.length : Int)
  · rw [if_pos h]
    simp only [Option.some.injEq, decide_eq_decide]
    omega
  · rw [if_neg h]
    symm
    simp; omega

theorem findI_place {α : Type} (p : α → Bool) : ∀ (l : List α) (i : Nat), (l.all p = true ∧ findI (fun i x => if p x = true then none else some (.inr (i : Int))) (.inl ()) i l = (.inl () : Unit ⊕ Int)) ∨ (l.all p = false ∧ ∃ j : Nat, findI (fun i x => if p x = true then none else some (.inr (i : Int))) (.inl ()) i l = (.inr (j : Int) : Unit ⊕ Int))
  | [], _ => .inl ⟨rfl, rfl⟩
  | x :: l, i => by
    rw [findI_cons]
    by_cases h : p x = true
    · rw [if_pos h]
      rcases findI_place p l (i + 1) with ⟨h1, h2⟩ | ⟨h1, j, h2⟩
      · exact .inl ⟨by simp only [List.all_cons, h, h1, Bool.true_and], h2⟩
      · exact .inr ⟨by simp only [List.all_cons, h, h1, Bool.true_and], j, h2⟩
    · rw [if_neg h]
      exact .inr ⟨by simp only [List.all_cons, Bool.eq_false_iff.2 h, Bool.false_and], i, rfl⟩

theorem F46_eq (l : List Str) (hl : l.length ≤ 1000000) : F46 l = some (l.all valB) := by
  have h100 : ∃ j : Int, F100 l = some j ∧ decide (0 ≤ j) = !l.all valB := by
    unfold F100
    rw [loopO_find l (fun i x => if valB x = true then none else some (.inr (i : Int))) (.inl ()) (by omega)
      (fun i hi => by
        simp only [F100_b4]
        rw [if_pos (by omega), gd_pos (by omega), Int.toNat_natCast, getD_some hi]
        simp only [F86, F47_eq, Option.bind_some]
        cases valB l[i] <;> simp)
      (by simp only [F100_b4]; rw [if_neg (by omega)])]
    rcases findI_place valB l 0 with ⟨h1, h2⟩ | ⟨h1, j, h2⟩
    · rw [h2, h1]; exact ⟨-1, rfl, rfl⟩
    · rw [h2, h1]; exact ⟨j, rfl, by simp⟩
  obtain ⟨j, h1, h2⟩ := h100
  simp only [F46, F85, h1, Option.bind_some, h2, Bool.not_not]

theorem F51_eq (l : List Str) (hl : l.length ≤ 1000000) : F51 l = some (l.all valB) := by
  unfold F51
  rw [loopO_find l (fun _ x => if valB x = true then none else some (.inr false)) (.inl ()) (by omega)
    (fun i hi => by
      simp only [F51_b4]
      rw [if_pos (by omega), gd_pos (by omega), Int.toNat_natCast, getD_some hi]
      by_cases h1 : (l[i].length : Int) < 1
      · have : ¬ valB l[i] = true := by simp [valB]; omega
        rw [if_pos h1, if_neg this]
      · rw [if_neg h1]
        by_cases h2 : 2048 < (l[i].length : Int)
        · have : ¬ valB l[i] = true := by simp [valB]; omega
          rw [if_pos h2, if_neg this]
        · have : valB l[i] = true := by simp [valB]; omega
          rw [if_neg h2, if_pos this])
    (by simp only [F51_b4]; rw [if_neg (by omega)])]
  rw [findI_all]
  cases l.all valB <;> simp [F51_k4]

end Go.Idl

namespace Go.Idl

open Go

def lt8 (a b : Str) : Prop := Op.bytesLess a b = true

instance (a b : Str) : Decidable (lt8 a b) := inferInstanceAs (Decidable (Op.bytesLess a b = true))

theorem lt8_iff (a b : Str) : lt8 a b ↔ a < b := by rw [lt8, Go.Proofs.bytesLess_eq, decide_eq_true_eq]

theorem lt8_irrefl (a : Str) : ¬ lt8 a a := by rw [lt8_iff]; exact List.lt_irrefl a

theorem lt8_trans {a b c : Str} (h : lt8 a b) (k : lt8 b c) : lt8 a c := by rw [lt8_iff] at *; exact List.lt_trans h k

theorem lt8_tri {a b : Str} (h : ¬ lt8 a b) (hne : ¬ a = b) : lt8 b a := by
  rw [lt8_iff] at *
  have h1 : b ≤ a := List.not_lt.1 h
  rcases List.le_iff_lt_or_eq.1 h1 with h2 | h2
  · exact h2
  · exact absurd h2.symm hne

abbrev Rise (l : List Str) : Prop := l.Pairwise lt8

theorem rise_uniq : ∀ {l m : List Str}, Rise l → Rise m → (∀ x, x ∈ l ↔ x ∈ m) → l = m
  | [], [], _, _, _ => rfl
  | [], y :: m, _, _, h => by have := (h y).2 (by simp); simp at this
  | x :: l, [], _, _, h => by have := (h x).1 (by simp); simp at this
  | x :: l, y :: m, hl, hm, h => by
    rw [Rise, List.pairwise_cons] at hl hm
    have hxy : x = y := by
      have h1 := (h x).1 (by simp)
      have h2 := (h y).2 (by simp)
      rcases List.mem_cons.1 h1 with h1 | h1
      · exact h1
      · rcases List.mem_cons.1 h2 with h2 | h2
        · exact h2.symm
        · exact absurd (lt8_trans (hm.1 x h1) (hl.1 y h2)) (lt8_irrefl y)
    subst hxy
    rw [rise_uniq hl.2 hm.2 fun z => ?_]
    constructor
    · intro hz
      have := (h z).1 (by simp [hz])
      rcases List.mem_cons.1 this with e | e
      · exact absurd (e ▸ hl.1 z hz) (lt8_irrefl _)
      · exact e
    · intro hz
      have := (h z).2 (by simp [hz])
      rcases List.mem_cons.1 this with e | e
      · exact absurd (e ▸ hm.1 z hz) (lt8_irrefl _)
      · exact e

def insS : List Str → Str → List Str
  | [], s => [s]
  | x :: l, s => if Op.bytesLess x s = true then x :: insS l s else if x = s then x :: l else s :: x :: l

theorem insS_mem (l : List Str) (s x : Str) : x ∈ insS l s ↔ x ∈ l ∨ x = s := by
  induction l with
  | nil => simp [insS]
  | cons y l ih =>
    simp only [insS]
    split
    · simp [ih, or_assoc]
    · split
      · rename_i e
        simp only [List.mem_cons]
        constructor
        · exact .inl
        · rintro (h | h)
          · exact h
          · exact .inl (h.trans e.symm)
      · simp only [List.mem_cons]
        constructor
        · rintro (h | h | h)
          · exact .inr h
          · exact .inl (.inl h)
          · exact .inl (.inr h)
        · rintro ((h | h) | h)
          · exact .inr (.inl h)
          · exact .inr (.inr h)
          · exact .inl h

theorem insS_rise (l : List Str) (s : Str) (h : Rise l) : Rise (insS l s) := by
  induction l with
  | nil => simp [insS, Rise]
  | cons y l ih =>
    rw [Rise, List.pairwise_cons] at h
    simp only [insS]
    split
    · rename_i hlt
      rw [Rise, List.pairwise_cons]
      refine ⟨fun z hz => ?_, ih h.2⟩
      rcases (insS_mem l s z).1 hz with hz | hz
      · exact h.1 z hz
      · exact hz ▸ hlt
    · rename_i hlt
      split
      · rw [Rise, List.pairwise_cons]; exact h
      · rename_i hne
        have hys : lt8 s y := lt8_tri hlt hne
        rw [Rise, List.pairwise_cons, List.pairwise_cons]
        refine ⟨fun z hz => ?_, h⟩
        rcases List.mem_cons.1 hz with hz | hz
        · exact hz ▸ hys
        · exact lt8_trans hys (h.1 z hz)

theorem compT_mem' : ∀ (t : List Str) (p x : Str), x ∈ t → x = p ∨ x ∈ compT p t
  | [], _, _, h => by simp at h
  | y :: t, p, x, h => by
    simp only [compT]
    rcases List.mem_cons.1 h with h | h
    · by_cases e : y = p
      · exact .inl (h.trans e)
      · rw [if_neg e]; exact .inr (by simp [h])
    · rcases compT_mem' t y x h with h | h
      · by_cases e : y = p
        · exact .inl (h.trans e)
        · rw [if_neg e]; exact .inr (by simp [h])
      · split
        · exact .inr h
        · exact .inr (by simp [h])

theorem compT_rise : ∀ (t : List Str) (p : Str), (p :: t).Pairwise (fun a b => a ≤ b) → Rise (compT p t) ∧ ∀ x ∈ compT p t, lt8 p x
  | [], p, _ => by simp [compT, Rise]
  | y :: t, p, h => by
    rw [List.pairwise_cons] at h
    obtain ⟨h1, h2⟩ := compT_rise t y h.2
    have hpy := h.1 y (by simp)
    simp only [compT]
    by_cases e : y = p
    · rw [if_pos e]
      exact ⟨h1, fun x hx => e ▸ h2 x hx⟩
    · rw [if_neg e]
      have hlt : lt8 p y := by
        rw [lt8_iff]
        rcases List.le_iff_lt_or_eq.1 hpy with h | h
        · exact h
        · exact absurd h.symm e
      rw [Rise, List.pairwise_cons]
      refine ⟨⟨h2, h1⟩, fun x hx => ?_⟩
      rcases List.mem_cons.1 hx with hx | hx
      · exact hx ▸ hlt
      · exact lt8_trans hlt (h2 x hx)

theorem compT_mem : ∀ (t : List (List UInt8)) (p x : List UInt8), x ∈ compT p t → x ∈ t
  | [], _, _, h => by simp [compT] at h
  | y :: t, p, x, h => by
    simp only [compT] at h
    split at h
    · exact List.mem_cons_of_mem _ (compT_mem t y x h)
    · rcases List.mem_cons.1 h with h | h
      · rw [h]; exact List.mem_cons_self
      · exact List.mem_cons_of_mem _ (compT_mem t y x h)

theorem compact_mem {l : List (List UInt8)} {x : List UInt8} (h : x ∈ compactS l) : x ∈ l := by
  cases l with
  | nil => simp [compactS] at h
  | cons y t =>
    rcases List.mem_cons.1 h with h | h
    · rw [h]; exact List.mem_cons_self
    · exact List.mem_cons_of_mem _ (compT_mem t y x h)

theorem compact_sort (l : List Str) : Rise (compactS (sortS l)) ∧ ∀ x, x ∈ compactS (sortS l) ↔ x ∈ l := by
  have hs : (sortS l).Pairwise (fun a b => a ≤ b) := by
    have := List.pairwise_mergeSort (le := fun (x y : Str) => decide (x ≤ y)) (fun a b c h1 h2 => by simp only [decide_eq_true_eq] at *; exact List.le_trans h1 h2) (fun a b => by simp only [Bool.or_eq_true, decide_eq_true_eq]; exact List.le_total a b) l
    exact this.imp fun h => by simpa using h
  have hm : ∀ x, x ∈ sortS l ↔ x ∈ l := fun x => by simp [sortS]
  generalize sortS l = m at hs hm
  cases m with
  | nil =>
    refine ⟨by simp [compactS, Rise], fun x => ?_⟩
    rw [← hm x]; simp [compactS]
  | cons p t =>
    obtain ⟨h1, h2⟩ := compT_rise t p hs
    refine ⟨by rw [compactS, Rise, List.pairwise_cons]; exact ⟨h2, h1⟩, fun x => ?_⟩
    rw [← hm x]
    constructor
    · exact fun h => compact_mem h
    · intro h
      rw [compactS, List.mem_cons]
      rcases List.mem_cons.1 h with h | h
      · exact .inl h
      · exact compT_mem' t p x h

/-! ### In order, each once -/

def U (l : List Str) : List Str := compactS (sortS l)

theorem U_rise (l : List Str) : Rise (U l) := (compact_sort l).1

theorem U_mem (l : List Str) (x : Str) : x ∈ U l ↔ x ∈ l := (compact_sort l).2 x

theorem U_of_rise {l : List Str} (h : Rise l) : U l = l := rise_uniq (U_rise l) h fun x => U_mem l x

theorem U_congr {l m : List Str} (h : ∀ x, x ∈ l ↔ x ∈ m) : U l = U m := rise_uniq (U_rise l) (U_rise m) fun x => by rw [U_mem, U_mem, h]

theorem U_snoc (l : List Str) (s : Str) : insS (U l) s = U (l ++ [s]) := rise_uniq (insS_rise _ _ (U_rise l)) (U_rise _) fun x => by rw [insS_mem, U_mem, U_mem]; simp

theorem U_fold (m : List Str) : ∀ (l : List Str), m.foldl insS (U l) = U (l ++ m) := by
  induction m with
  | nil => intro l; simp
  | cons s m ih => intro l; rw [List.foldl_cons, U_snoc, ih]; simp

theorem U_nil : U [] = [] := U_of_rise (by simp [Rise])

theorem rise_nodup {l : List Str} (h : Rise l) : l.Nodup := h.imp fun {a b} hab e => by subst e; exact lt8_irrefl _ hab

theorem U_perm {l : List Str} (h : l.Nodup) : (U l).Perm l := (List.perm_ext_iff_of_nodup (rise_nodup (U_rise l)) h).2 fun x => U_mem l x

theorem nodup_len : ∀ {l m : List Str}, l.Nodup → (∀ x, x ∈ l → x ∈ m) → l.length ≤ m.length
  | [], _, _, _ => Nat.zero_le _
  | x :: l, m, hd, hs => by
    rw [List.nodup_cons] at hd
    have hx := hs x (by simp)
    have h1 := List.length_erase_of_mem hx
    have h2 : 0 < m.length := List.length_pos_of_mem hx
    have h3 := nodup_len (m := m.erase x) hd.2 fun y hy => (List.mem_erase_of_ne (by rintro rfl; exact hd.1 hy)).2 (hs y (by simp [hy]))
    simp only [List.length_cons]
    omega

theorem U_len_le (l : List Str) : (U l).length ≤ l.length := nodup_len (rise_nodup (U_rise l)) fun x hx => (U_mem l x).1 hx

theorem not_nodup : ∀ {l : List Str}, ¬ l.Nodup → ∃ m : List Str, m.length < l.length ∧ ∀ x, x ∈ l → x ∈ m
  | [], h => absurd List.nodup_nil h
  | x :: l, h => by
    by_cases hx : x ∈ l
    · exact ⟨l, by simp, fun y hy => by rcases List.mem_cons.1 hy with rfl | hy <;> assumption⟩
    · obtain ⟨m, h1, h2⟩ := not_nodup (l := l) fun hn => h (List.nodup_cons.2 ⟨hx, hn⟩)
      exact ⟨x :: m, by simp; omega, fun y hy => by
        rcases List.mem_cons.1 hy with rfl | hy
        · simp
        · exact List.mem_cons_of_mem _ (h2 y hy)⟩

theorem U_len_nodup (l : List Str) : (U l).length < l.length ↔ ¬ l.Nodup := by
  constructor
  · intro h hn
    have := (U_perm hn).length_eq
    omega
  · intro h
    obtain ⟨m, h1, h2⟩ := not_nodup h
    have := nodup_len (rise_nodup (U_rise l)) fun x hx => h2 x ((U_mem l x).1 hx)
    omega

theorem rise_adj (l : List Str) : Rise l ↔ ∀ i, 1 ≤ i → (h : i < l.length) → lt8 (l[i - 1]'(by omega)) l[i] := by
  constructor
  · intro h i h1 h2
    exact List.pairwise_iff_getElem.1 h (i - 1) i (by omega) h2 (by omega)
  · intro h
    rw [Rise, List.pairwise_iff_getElem]
    intro i j hi hj hij
    obtain ⟨d, rfl⟩ : ∃ d, j = i + 1 + d := ⟨j - i - 1, by omega⟩
    induction d with
    | zero => have := h (i + 1) (by omega) (by omega); simpa using this
    | succ d ih =>
      have h1 := ih (by omega) (by omega)
      have h2 := h (i + 1 + (d + 1)) (by omega) hj
      exact lt8_trans h1 (by simpa using h2)

theorem loopO_allI {ρ : Type} {step : Int → Option (Int ⊕ ρ)} (k n : Nat) (p : Nat → Prop) [∀ i, Decidable (p i)] (bad good : ρ) (hn : n ≤ 1000000000)
    (hs : ∀ i : Nat, k ≤ i → i < n → step (i : Int) = some (if p i then .inl (IntKind.i64.wrap ((i : Int) + 1)) else .inr bad))
    (hf : ∀ i : Nat, n ≤ i → step (i : Int) = some (.inr good)) : ∃ r, loopO step (k : Int) = some r ∧ ((∀ i, k ≤ i → i < n → p i) ∧ r = good ∨ (¬ ∀ i, k ≤ i → i < n → p i) ∧ r = bad) := by
  refine loopO_inv (fun s : Int => ∃ i : Nat, k ≤ i ∧ s = (i : Int) ∧ ∀ j, k ≤ j → j < i → j < n → p j) (fun s : Int => n - s.toNat) ?_ ⟨k, Nat.le_refl _, rfl, fun j h1 h2 => by omega⟩
  rintro s ⟨i, hi, rfl, hI⟩
  by_cases h : i < n
  · rw [hs i hi h]
    by_cases hp : p i
    · rw [if_pos hp, wrap_nat (by omega)]
      refine .inl ⟨_, rfl, ⟨i + 1, by omega, rfl, fun j h1 h2 h3 => ?_⟩, by simp; omega⟩
      rcases Nat.lt_or_ge j i with h4 | h4
      · exact hI j h1 h4 h3
      · have : j = i := by omega
        subst this; exact hp
    · rw [if_neg hp]
      exact .inr ⟨_, rfl, .inr ⟨fun h' => hp (h' i hi h), rfl⟩⟩
  · rw [hf i (by omega)]
    exact .inr ⟨_, rfl, .inl ⟨fun j h1 h2 => hI j h1 (by omega) h2, rfl⟩⟩

instance (l : List Str) : Decidable (Rise l) := inferInstanceAs (Decidable (l.Pairwise lt8))

end Go.Idl

namespace Go.Idl

open Go

theorem F48_eq (l : List Str) (hl : l.length ≤ 1000000) : F48 l = some (decide (Rise l)) := by
  unfold F48
  obtain ⟨r, h1, h2⟩ := loopO_allI (step := fun (s : Int) => F48_b4 l s) 1 l.length (fun i => lt8 (l.getD (i - 1) []) (l.getD i [])) (.inr false) (.inl ()) (by omega)
    (fun i hi1 hi => by
      simp only [F48_b4]
      have hw : IntKind.i64.wrap ((i : Int) - 1) = ((i - 1 : Nat) : Int) := by rw [wrap_i64 (by omega) (by omega)]; omega
      rw [if_pos (by omega), hw, gd_pos (by omega), gd_pos (by omega), Int.toNat_natCast, Int.toNat_natCast]
      by_cases h : lt8 (l.getD (i - 1) []) (l.getD i [])
      · rw [if_pos h]
        simp only [lt8] at h
        rw [if_neg (fun hh => hh h)]
      · rw [if_neg h]
        simp only [lt8] at h
        rw [if_pos h])
    (fun i hi => by simp only [F48_b4]; rw [if_neg (by omega)])
  rw [show ((1 : Nat) : Int) = 1 from rfl] at h1
  rw [h1]
  have hr : Rise l ↔ ∀ i, 1 ≤ i → i < l.length → lt8 (l.getD (i - 1) []) (l.getD i []) := by
    rw [rise_adj]
    constructor
    · intro h i a b
      have := h i a b
      rwa [getD_some b, getD_some (by omega)]
    · intro h i a b
      have := h i a b
      rwa [getD_some b, getD_some (by omega)] at this
  rcases h2 with ⟨h, rfl⟩ | ⟨h, rfl⟩
  · rw [← hr] at h
    simp [F48_k4, h]
  · rw [← hr] at h
    simp [h]

def okA (a : S50) : Bool := nameB a.fName && decide (smallS a.fName = a.fName) && decide (1 ≤ a.fValues.length ∧ a.fValues.length ≤ 16) && a.fValues.all valB && decide (Rise a.fValues)

def rightB (e : List S50) : Bool := decide (e.length ≤ 24) && e.all okA && decide (Rise (e.map (·.fName)))

structure SzE (e : List S50) : Prop where
  len : e.length ≤ 1000000
  name : ∀ a, a ∈ e → a.fName.length ≤ 1000000
  vals : ∀ a, a ∈ e → a.fValues.length ≤ 1000000

theorem runI_all {α β : Type} (p : α → Bool) (g : α → β) (bad : Int) (fin : List β → (List β) ⊕ Int) : ∀ (l : List α) (i : Nat) (a : List β),
    runI (fun _ a x => if p x = true then .inl (a ++ [g x]) else .inr (.inr bad)) fin i a l = if l.all p = true then fin (a ++ l.map g) else .inr bad
  | [], _, a => by simp [runI]
  | x :: l, i, a => by
    rw [runI_cons]
    by_cases h : p x = true
    · rw [if_pos h]
      simp only [runI_all p g bad fin l (i + 1), List.all_cons, h, Bool.true_and, List.append_assoc, List.map_cons]
      rfl
    · rw [if_neg h]
      simp only [List.all_cons, Bool.eq_false_iff.2 h, Bool.false_and, Bool.false_eq_true, if_false]

theorem F17_eq (e : List S50) (hs : SzE e) : F17 e = some (if rightB e = true then 0 else 2) := by
  have h1 := hs.len
  unfold F17
  rw [loopO_run e (fun _ a x => if okA x = true then .inl (a ++ [x.fName]) else .inr (.inr 2)) .inl (fun i a => a.length = i) (by omega) rfl
    (fun i hi a hI => by
      have hm := List.getElem_mem hi
      have hn := hs.name _ hm
      have hv := hs.vals _ hm
      simp only [F17_b5]
      rw [if_pos (by omega), gd_pos (by omega), gd_pos (by simp only [List.length_cons, List.length_nil]; omega), Int.toNat_natCast, getD_some hi, F45_eq _ hn]
      simp only [Option.bind_some]
      by_cases g1 : nameB e[i].fName = true
      · rw [if_neg (by simp [g1]), F41_eq _ hn]
        simp only [Option.bind_some]
        by_cases g2 : smallS e[i].fName = e[i].fName
        · rw [if_neg (by simp only [g2, not_true, not_false_eq_true])]
          by_cases g3 : (e[i].fValues.length : Int) < 1
          · rw [if_pos g3]
            have : ¬ okA e[i] = true := by simp [okA]; omega
            rw [if_neg this]
          · rw [if_neg g3]
            by_cases g4 : 16 < (e[i].fValues.length : Int)
            · rw [if_pos g4]
              have : ¬ okA e[i] = true := by simp [okA]; omega
              rw [if_neg this]
            · rw [if_neg g4, F46_eq _ hv]
              simp only [Option.bind_some]
              by_cases g5 : e[i].fValues.all valB = true
              · rw [if_neg (by simp only [g5, not_true, not_false_eq_true]), F48_eq _ hv]
                simp only [Option.bind_some]
                by_cases g6 : Rise e[i].fValues
                · rw [if_neg (by simp only [g6, decide_true, not_true, not_false_eq_true])]
                  have g34 : 1 ≤ e[i].fValues.length ∧ e[i].fValues.length ≤ 16 := by omega
                  have : okA e[i] = true := by simp only [okA, g1, g2, g5, g6, g34, decide_true, Bool.true_and, and_self]
                  rw [if_pos this]
                · rw [if_pos (by simp only [g6, decide_false, Bool.false_eq_true, not_false_eq_true])]
                  have : ¬ okA e[i] = true := by simp only [okA, g6, decide_false, Bool.and_false, Bool.false_eq_true, not_false_eq_true]
                  rw [if_neg this]
              · rw [if_pos g5]
                have : ¬ okA e[i] = true := by simp only [okA, Bool.eq_false_iff.2 g5, Bool.and_false, Bool.false_and, Bool.false_eq_true, not_false_eq_true]
                rw [if_neg this]
        · rw [if_pos g2]
          have : ¬ okA e[i] = true := by simp only [okA, g2, decide_false, Bool.and_false, Bool.false_and, Bool.false_eq_true, not_false_eq_true]
          rw [if_neg this]
      · rw [if_pos g1]
        have : ¬ okA e[i] = true := by simp only [okA, Bool.eq_false_iff.2 g1, Bool.false_and, Bool.false_eq_true, not_false_eq_true]
        rw [if_neg this])
    (fun i hi a a' hI h => by
      split at h
      · simp only [Sum.inl.injEq] at h; subst h; simp [hI]
      · cases h)
    (fun a hI => by simp only [F17_b5]; rw [if_neg (by omega)])]
  rw [runI_all]
  simp only [List.nil_append]
  cases g : e.all okA with
  | false => simp [rightB, g]
  | true =>
    simp only [if_true, Option.bind_some, Sum.elim_inl, F17_k5]
    by_cases g2 : 24 < (e.length : Int)
    · have : rightB e = false := by simp [rightB]; omega
      rw [if_pos g2, this]; rfl
    · rw [if_neg g2, F48_eq _ (by simpa using hs.len)]
      simp only [Option.bind_some]
      have g3 : decide (e.length ≤ 24) = true := by simp; omega
      by_cases g4 : Rise (e.map (·.fName))
      · simp [rightB, g, g3, g4]
      · simp [rightB, g, g3, g4]

end Go.Idl

namespace Go.Idl

open Go

end Go.Idl

namespace Go.Idl

open Go

section

variable {α : Type} (key : α → Str) (k : Str) (new : α)

def insG : List α → List α
  | [] => [new]
  | x :: l => if lt8 (key x) k then x :: insG l else if key x = k then new :: l else new :: x :: l

def stepG (s : List α × Bool) (x : α) : List α × Bool :=
  let s1 := if s.2 = false ∧ ¬ lt8 (key x) k then (s.1 ++ [new], true) else s
  if key x = k then s1 else (s1.1 ++ [x], s1.2)

theorem fold_done : ∀ (l : List α) (o : List α), l.foldl (stepG key k new) (o, true) = (o ++ l.filter (fun x => !decide (key x = k)), true)
  | [], o => by simp
  | x :: l, o => by
    have h1 : stepG key k new (o, true) x = if key x = k then (o, true) else (o ++ [x], true) := by simp [stepG]
    rw [List.foldl_cons, h1]
    by_cases h : key x = k
    · rw [if_pos h, fold_done l o]; simp [h]
    · rw [if_neg h, fold_done l]; simp [h]

theorem fold_ins2 : ∀ (l : List α) (o : List α), (l.map key).Pairwise lt8 → (l.foldl (stepG key k new) (o, false)).1 ++ (if (l.foldl (stepG key k new) (o, false)).2 = true then [] else [new]) = o ++ insG key k new l
  | [], o, _ => by simp [insG]
  | x :: l, o, hp => by
    rw [List.map_cons, List.pairwise_cons] at hp
    rw [List.foldl_cons]
    by_cases h : lt8 (key x) k
    · have hne : ¬ key x = k := fun e => lt8_irrefl k (by rw [e] at h; exact h)
      have h1 : stepG key k new (o, false) x = (o ++ [x], false) := by simp [stepG, h, hne]
      rw [h1, fold_ins2 l _ hp.2]
      simp [insG, h]
    · have hft : ∀ y, y ∈ l → ¬ key y = k ∨ (key x ≠ k ∧ False) := fun y hy => .inl fun e => by
        have h2 := hp.1 (key y) (List.mem_map_of_mem hy)
        rw [e] at h2
        exact h h2
      have hfl : l.filter (fun x => !decide (key x = k)) = l := List.filter_eq_self.2 fun y hy => by
        rcases hft y hy with h' | h'
        · simp [h']
        · exact h'.2.elim
      by_cases he : key x = k
      · have h1 : stepG key k new (o, false) x = (o ++ [new], true) := by simp [stepG, he, lt8_irrefl]
        rw [h1, fold_done, hfl]
        simp [insG, he, lt8_irrefl]
      · have h1 : stepG key k new (o, false) x = (o ++ [new] ++ [x], true) := by simp [stepG, h, he]
        rw [h1, fold_done, hfl]
        simp [insG, h, he]

theorem stepG_len (s : List α × Bool) (x : α) : (stepG key k new s x).1.length ≤ s.1.length + 2 := by
  unfold stepG
  simp only
  split <;> split <;> simp

end

theorem runI_inl {α σ ρ : Type} (g : σ → α → σ) (fin : σ → ρ) : ∀ (l : List α) (i : Nat) (a : σ), runI (fun _ a x => .inl (g a x)) fin i a l = fin (l.foldl g a)
  | [], _, _ => rfl
  | x :: l, i, a => by rw [runI_cons, List.foldl_cons]; exact runI_inl g fin l (i + 1) (g a x)

theorem insG_id (l : List Str) (s : Str) : insG id s s l = insS l s := by
  induction l with
  | nil => rfl
  | cons x l ih =>
    simp only [insG, insS, id, ih, lt8]
    by_cases h : Op.bytesLess x s = true
    · rw [if_pos h, if_pos h]
    · rw [if_neg h, if_neg h]
      by_cases he : x = s
      · rw [if_pos he, if_pos he, he]
      · rw [if_neg he, if_neg he]

theorem F54_eq (l : List Str) (s : Str) (hl : l.length ≤ 1000000) (hr : Rise l) : F54 l s = some (insS l s) := by
  unfold F54
  rw [loopO_run2 l (fun _ a x => .inl (stepG id s s a x)) id (fun i a => a.1.length ≤ 2 * i) (by omega) (by simp)
    (fun i hi a b hI => by
      simp only at hI
      simp only [F54_b6]
      rw [if_pos (by omega)]
      have k24 : ∀ (o : List Str) (d : Bool), o.length ≤ 2 * i + 1 → F54_k24 l s (i : Int) o d = some (.inl (if l[i] = s then (o, d, IntKind.i64.wrap ((i : Int) + 1)) else (o ++ [l[i]], d, IntKind.i64.wrap ((i : Int) + 1)))) := by
        intro o d ho
        simp only [F54_k24]
        rw [gd_pos (by omega), Int.toNat_natCast, getD_some hi]
        by_cases h : l[i] = s
        · rw [if_neg (by simp [h]), if_pos h]
        · rw [if_pos h, gd_pos (by simp only [List.length_cons, List.length_nil]; omega), if_neg h]
      cases b with
      | true =>
        rw [if_neg (by simp), k24 a true (by omega)]
        by_cases h : l[i] = s <;> simp [stepG, h]
      | false =>
        rw [if_pos (by simp), gd_pos (by omega), Int.toNat_natCast, getD_some hi]
        by_cases hlt : lt8 l[i] s
        · have hlt' := hlt
          simp only [lt8] at hlt'
          rw [if_neg (fun hh => hh hlt'), k24 a false (by omega)]
          by_cases h : l[i] = s <;> simp [stepG, h, hlt]
          rw [h] at hlt
          exact absurd hlt (lt8_irrefl s)
        · have hlt' := hlt
          simp only [lt8] at hlt'
          rw [if_pos hlt', gd_pos (by simp only [List.length_cons, List.length_nil]; omega), k24 _ true (by simp; omega)]
          by_cases h : l[i] = s
          · simp [stepG, h, lt8_irrefl]
          · simp [stepG, h, hlt])
    (fun i hi a a' hI h => by
      simp only [Sum.inl.injEq] at h
      subst h
      have := stepG_len id s s a l[i]
      omega)
    (fun a b hI => by simp only [F54_b6]; rw [if_neg (by omega)]; rfl)]
  rw [runI_inl]
  have h1 := fold_ins2 id s s l [] (by simpa using hr)
  rw [insG_id] at h1
  have hlen : ∀ (l : List Str) (a : List Str × Bool), (l.foldl (stepG id s s) a).1.length ≤ a.1.length + 2 * l.length := by
    intro l
    induction l with
    | nil => intro a; simp
    | cons x l ih => intro a; have := ih (stepG id s s a x); have := stepG_len id s s a x; simp only [List.foldl_cons, List.length_cons]; omega
  have h2 := hlen l ([], false)
  simp only [Option.bind_some, id, F54_k6]
  generalize l.foldl (stepG id s s) ([], false) = q at h1 h2
  obtain ⟨o, d⟩ := q
  simp only [List.length_nil] at h1 h2 ⊢
  cases d with
  | true => rw [if_neg (by simp)]; simpa using h1
  | false => rw [if_pos (by simp), gd_pos (by simp; omega)]; simpa using h1

def setE (e : List S50) (n : Str) (v : List Str) : List S50 := if v = [] then e.filter (fun x => !decide (x.fName = n)) else insG (·.fName) n ⟨n, v⟩ e

theorem F55_eq (e : List S50) (n : Str) (v : List Str) (hl : e.length ≤ 1000000) (hr : Rise (e.map (·.fName))) : F55 e n v = some (setE e n v) := by
  unfold F55
  have hd : decide ((v.length : Int) = 0) = decide (v = []) := by
    simp only [decide_eq_decide]
    constructor
    · intro h; exact List.eq_nil_of_length_eq_zero (by omega)
    · rintro rfl; rfl
  rw [loopO_run2 e (fun _ a x => .inl (stepG (·.fName) n ⟨n, v⟩ a x)) id (fun i a => a.1.length ≤ 2 * i) (by omega) (by simp)
    (fun i hi a b hI => by
      simp only at hI
      simp only [F55_b6]
      rw [if_pos (by omega)]
      have k24 : ∀ (o : List S50) (d : Bool), o.length ≤ 2 * i + 1 → F55_k24 e n (i : Int) o d = some (.inl (if e[i].fName = n then (o, d, IntKind.i64.wrap ((i : Int) + 1)) else (o ++ [e[i]], d, IntKind.i64.wrap ((i : Int) + 1)))) := by
        intro o d ho
        simp only [F55_k24]
        rw [gd_pos (by omega), Int.toNat_natCast, getD_some hi]
        by_cases h : e[i].fName = n
        · rw [if_neg (by simp [h]), if_pos h]
        · rw [if_pos h, gd_pos (by simp only [List.length_cons, List.length_nil]; omega), if_neg h]
      cases b with
      | true =>
        rw [if_neg (by simp), k24 a true (by omega)]
        by_cases h : e[i].fName = n <;> simp [stepG, h]
      | false =>
        rw [if_pos (by simp), gd_pos (by omega), Int.toNat_natCast, getD_some hi]
        by_cases hlt : lt8 e[i].fName n
        · have hlt' := hlt
          simp only [lt8] at hlt'
          rw [if_neg (fun hh => hh hlt'), k24 a false (by omega)]
          by_cases h : e[i].fName = n <;> simp [stepG, h, hlt]
          rw [h] at hlt
          exact absurd hlt (lt8_irrefl n)
        · have hlt' := hlt
          simp only [lt8] at hlt'
          rw [if_pos hlt', gd_pos (by simp only [List.length_cons, List.length_nil]; omega), k24 _ true (by simp; omega)]
          by_cases h : e[i].fName = n
          · simp [stepG, h, lt8_irrefl]
          · simp [stepG, h, hlt])
    (fun i hi a a' hI h => by
      simp only [Sum.inl.injEq] at h
      subst h
      have := stepG_len (fun x : S50 => x.fName) n ⟨n, v⟩ a e[i]
      omega)
    (fun a b hI => by simp only [F55_b6]; rw [if_neg (by omega)]; rfl)]
  rw [runI_inl]
  have hlen : ∀ (l : List S50) (a : List S50 × Bool), (l.foldl (stepG (fun x : S50 => x.fName) n ⟨n, v⟩) a).1.length ≤ a.1.length + 2 * l.length := by
    intro l
    induction l with
    | nil => intro a; simp
    | cons x l ih => intro a; have := ih (stepG (fun x : S50 => x.fName) n ⟨n, v⟩ a x); have := stepG_len (fun x : S50 => x.fName) n ⟨n, v⟩ a x; simp only [List.foldl_cons, List.length_cons]; omega
  rw [hd]
  by_cases hv : v = []
  · have h1 := fold_done (fun x : S50 => x.fName) n ⟨n, v⟩ e []
    simp only [hv, decide_true, Option.bind_some, id, F55_k6, setE, if_true]
    subst hv
    rw [h1]
    simp
  · have h1 := fold_ins2 (fun x : S50 => x.fName) n ⟨n, v⟩ e [] hr
    have h2 := hlen e ([], false)
    simp only [hv, decide_false, Option.bind_some, id, F55_k6, setE, if_false]
    generalize e.foldl (stepG (fun x : S50 => x.fName) n ⟨n, v⟩) ([], false) = q at h1 h2
    obtain ⟨o, d⟩ := q
    simp only [List.length_nil] at h1 h2 ⊢
    cases d with
    | true => rw [if_neg (by simp)]; simpa using h1
    | false => rw [if_pos (by simp), gd_pos (by simp; omega)]; simpa using h1

end Go.Idl

namespace Go.Idl

open Go

def getE : List S50 → Str → List Str
  | [], _ => []
  | a :: e, n => if a.fName = n then a.fValues else getE e n

theorem F23_eq (e : List S50) (n : Str) (hl : e.length ≤ 1000000) (hn : n.length ≤ 1000000) : F23 e n = some (getE e (smallS n)) := by
  unfold F23
  rw [loopO_find e (fun _ x => if x.fName = smallS n then some (.inr x.fValues) else none) (.inl ()) (by omega)
    (fun i hi => by
      simp only [F23_b4]
      rw [if_pos (by omega), gd_pos (by omega), Int.toNat_natCast, getD_some hi, F50_eq n hn]
      simp only [Option.bind_some]
      by_cases h : e[i].fName = smallS n
      · rw [if_pos h, if_pos h]
      · rw [if_neg h, if_neg h])
    (by simp only [F23_b4]; rw [if_neg (by omega)])]
  have : ∀ (l : List S50) (i : Nat), (Sum.elim (fun (_ : Unit) => F23_k4) (fun (q : List Str) => some q) (findI (fun _ x => if x.fName = smallS n then some (.inr x.fValues) else none) (.inl ()) i l)) = some (getE l (smallS n)) := by
    intro l
    induction l with
    | nil => intro i; rfl
    | cons x l ih =>
      intro i
      rw [findI_cons]
      by_cases h : x.fName = smallS n
      · simp [getE, h]
      · simp only [getE, h, if_false]
        exact ih (i + 1)
  exact this e 0

theorem F22_eq (e : List S50) (n : Str) (hs : SzE e) (hn : n.length ≤ 1000000) : F22 e n = some (getE e (smallS n)) := by
  have hl := hs.len
  unfold F22
  rw [loopO_find e (fun _ x => if x.fName = smallS n then some (.inr x.fValues) else none) (.inl ()) (by omega)
    (fun i hi => by
      have hv := hs.vals _ (List.getElem_mem hi)
      simp only [F22_b4]
      rw [if_pos (by omega), gd_pos (by omega), Int.toNat_natCast, getD_some hi, F41_eq n hn]
      simp only [Option.bind_some]
      by_cases h : e[i].fName = smallS n
      · rw [if_pos h, if_pos h, F56, gd_pos (by omega)]
        rfl
      · rw [if_neg h, if_neg h])
    (by simp only [F22_b4]; rw [if_neg (by omega)])]
  have : ∀ (l : List S50) (i : Nat), (Sum.elim (fun (_ : Unit) => F22_k4) (fun (q : List Str) => some q) (findI (fun _ x => if x.fName = smallS n then some (.inr x.fValues) else none) (.inl ()) i l)) = some (getE l (smallS n)) := by
    intro l
    induction l with
    | nil => intro i; rfl
    | cons x l ih =>
      intro i
      rw [findI_cons]
      by_cases h : x.fName = smallS n
      · simp [getE, h]
      · simp only [getE, h, if_false]
        exact ih (i + 1)
  exact this e 0

theorem eq_getD {α : Type} {a b : List α} (d : α) (hl : a.length = b.length) : a = b ↔ ∀ i, 0 ≤ i → i < a.length → a.getD i d = b.getD i d := by
  constructor
  · rintro rfl i _ _; rfl
  · intro h
    refine List.ext_getElem hl fun i h1 h2 => ?_
    have := h i (by omega) h1
    rwa [getD_some h1, getD_some h2] at this

theorem F21_eq (a b : List Str) (ha : a.length ≤ 1000000) : F21 a b = some (decide (a = b)) := by
  unfold F21
  by_cases hc : (a.length : Int) = b.length
  · rw [if_neg (by simpa using hc)]
    obtain ⟨r, q1, q2⟩ := loopO_allI (step := fun (s : Int) => F21_b8 a b s) 0 a.length (fun i => a.getD i [] = b.getD i []) (.inr false) (.inl ()) (by omega)
      (fun i _ hi => by
        simp only [F21_b8]
        rw [if_pos (by omega), gd_pos (by omega), gd_pos (by omega), Int.toNat_natCast]
        by_cases h : a.getD i [] = b.getD i []
        · rw [if_neg (fun hh => hh h), if_pos h]
        · rw [if_pos h, if_neg h])
      (fun i hi => by simp only [F21_b8]; rw [if_neg (by omega)])
    rw [show ((0 : Nat) : Int) = 0 from rfl] at q1
    rw [q1]
    have he := eq_getD (a := a) (b := b) [] (by omega)
    rcases q2 with ⟨h, rfl⟩ | ⟨h, rfl⟩
    · rw [← he] at h; simp [F21_k8, h]
    · rw [← he] at h; simp [h]
  · rw [if_pos hc]
    have : ¬ a = b := by rintro rfl; exact hc rfl
    simp [this]

theorem F60_eq (a b : List Str) (ha : a.length ≤ 1000000) : F60 a b = some (decide (a = b)) := by
  unfold F60
  by_cases hc : (a.length : Int) = b.length
  · rw [if_neg (by simpa using hc)]
    obtain ⟨r, q1, q2⟩ := loopO_allI (step := fun (s : Int) => F60_b8 a b s) 0 a.length (fun i => a.getD i [] = b.getD i []) (.inr false) (.inl ()) (by omega)
      (fun i _ hi => by
        simp only [F60_b8]
        rw [if_pos (by omega), gd_pos (by omega), gd_pos (by omega), Int.toNat_natCast]
        by_cases h : a.getD i [] = b.getD i []
        · rw [if_neg (fun hh => hh h), if_pos h]
        · rw [if_pos h, if_neg h])
      (fun i hi => by simp only [F60_b8]; rw [if_neg (by omega)])
    rw [show ((0 : Nat) : Int) = 0 from rfl] at q1
    rw [q1]
    have he := eq_getD (a := a) (b := b) [] (by omega)
    rcases q2 with ⟨h, rfl⟩ | ⟨h, rfl⟩
    · rw [← he] at h; simp [F60_k8, h]
    · rw [← he] at h; simp [h]
  · rw [if_pos hc]
    have : ¬ a = b := by rintro rfl; exact hc rfl
    simp [this]

theorem S50_eq {x y : S50} : x = y ↔ x.fName = y.fName ∧ x.fValues = y.fValues := by cases x; cases y; simp

theorem F16_eq (a b : List S50) (hs : SzE a) : F16 a b = some (decide (a = b)) := by
  have ha := hs.len
  unfold F16
  by_cases hc : (a.length : Int) = b.length
  · rw [if_neg (by simpa using hc)]
    obtain ⟨r, q1, q2⟩ := loopO_allI (step := fun (s : Int) => F16_b8 a b s) 0 a.length (fun i => a.getD i S50.zero = b.getD i S50.zero) (.inr false) (.inl ()) (by omega)
      (fun i _ hi => by
        have hv := hs.vals _ (List.getElem_mem hi)
        simp only [F16_b8]
        rw [if_pos (by omega), gd_pos (by omega), gd_pos (by omega), Int.toNat_natCast]
        by_cases h1 : (a.getD i S50.zero).fName = (b.getD i S50.zero).fName
        · rw [if_neg (fun hh => hh h1), F21_eq _ _ (by rw [getD_some hi]; exact hv)]
          simp only [Option.bind_some]
          by_cases h2 : (a.getD i S50.zero).fValues = (b.getD i S50.zero).fValues
          · rw [if_neg (by simp only [h2, decide_true, not_true, not_false_eq_true]), if_pos (S50_eq.2 ⟨h1, h2⟩)]
          · rw [if_pos (by simp only [h2, decide_false, Bool.false_eq_true, not_false_eq_true]), if_neg (fun hh => h2 (S50_eq.1 hh).2)]
        · rw [if_pos h1, if_neg (fun hh => h1 (S50_eq.1 hh).1)])
      (fun i hi => by simp only [F16_b8]; rw [if_neg (by omega)])
    rw [show ((0 : Nat) : Int) = 0 from rfl] at q1
    rw [q1]
    have he := eq_getD (a := a) (b := b) S50.zero (by omega)
    rcases q2 with ⟨h, rfl⟩ | ⟨h, rfl⟩
    · rw [← he] at h; simp [F16_k8, h]
    · rw [← he] at h; simp [h]
  · rw [if_pos hc]
    have : ¬ a = b := by rintro rfl; exact hc rfl
    simp [this]

/-! ### Entries in order -/

structure SrtE (e : List S50) : Prop where
  names : Rise (e.map (·.fName))
  vals : ∀ a, a ∈ e → a.fValues ≠ [] ∧ Rise a.fValues

theorem getE_mem {e : List S50} (h : Rise (e.map (·.fName))) {a : S50} (ha : a ∈ e) : getE e a.fName = a.fValues := by
  induction e with
  | nil => simp at ha
  | cons x e ih =>
    rw [List.map_cons, Rise, List.pairwise_cons] at h
    rcases List.mem_cons.1 ha with rfl | ha
    · simp [getE]
    · have h1 := h.1 a.fName (List.mem_map_of_mem ha)
      have : ¬ x.fName = a.fName := fun e => lt8_irrefl _ (e ▸ h1)
      simp only [getE, this, if_false]
      exact ih h.2 ha

theorem getE_none {e : List S50} {n : Str} (h : ∀ a, a ∈ e → a.fName ≠ n) : getE e n = [] := by
  induction e with
  | nil => rfl
  | cons x e ih =>
    simp only [getE, h x (by simp), if_false]
    exact ih fun a ha => h a (by simp [ha])

theorem mem_names {e : List S50} (hs : SrtE e) (n : Str) : n ∈ e.map (·.fName) ↔ getE e n ≠ [] := by
  constructor
  · intro h
    obtain ⟨a, ha, rfl⟩ := List.mem_map.1 h
    rw [getE_mem hs.names ha]
    exact (hs.vals a ha).1
  · intro h
    rcases Classical.em (n ∈ e.map (·.fName)) with h' | h'
    · exact h'
    · exfalso
      exact h (getE_none fun a ha e => h' (e ▸ List.mem_map_of_mem ha))

theorem e_form {e : List S50} (h : Rise (e.map (·.fName))) : e = (e.map (·.fName)).map fun n => ⟨n, getE e n⟩ := by
  rw [List.map_map]
  symm
  calc e.map ((fun n => (⟨n, getE e n⟩ : S50)) ∘ fun x => x.fName) = e.map id := List.map_congr_left fun a ha => by
        simp only [Function.comp, getE_mem h ha, id]
    _ = e := List.map_id e

theorem srt_uniq {e f : List S50} (he : SrtE e) (hf : SrtE f) (h : ∀ n, getE e n = getE f n) : e = f := by
  have hn : e.map (·.fName) = f.map (·.fName) := rise_uniq he.names hf.names fun n => by rw [mem_names he, mem_names hf, h]
  rw [e_form he.names, e_form hf.names, hn]
  exact List.map_congr_left fun n _ => by rw [h]

theorem insG_mem {e : List S50} {n : Str} {v : List Str} {a : S50} (h : a ∈ insG (·.fName) n ⟨n, v⟩ e) : a = ⟨n, v⟩ ∨ a ∈ e := by
  induction e with
  | nil => simpa [insG] using h
  | cons x e ih =>
    simp only [insG] at h
    split at h
    · rcases List.mem_cons.1 h with h | h
      · exact .inr (by simp [h])
      · rcases ih h with h | h
        · exact .inl h
        · exact .inr (by simp [h])
    · split at h
      · rcases List.mem_cons.1 h with h | h
        · exact .inl h
        · exact .inr (by simp [h])
      · rcases List.mem_cons.1 h with h | h
        · exact .inl h
        · exact .inr h

theorem insG_rise {e : List S50} {n : Str} {v : List Str} (h : Rise (e.map (·.fName))) : Rise ((insG (·.fName) n ⟨n, v⟩ e).map (·.fName)) := by
  induction e with
  | nil => simp [insG, Rise]
  | cons x e ih =>
    rw [List.map_cons, Rise, List.pairwise_cons] at h
    simp only [insG]
    split
    · rename_i hlt
      rw [List.map_cons, Rise, List.pairwise_cons]
      refine ⟨fun m hm => ?_, ih h.2⟩
      obtain ⟨a, ha, rfl⟩ := List.mem_map.1 hm
      rcases insG_mem ha with rfl | ha
      · exact hlt
      · exact h.1 _ (List.mem_map_of_mem ha)
    · rename_i hlt
      split
      · rename_i he
        rw [List.map_cons, Rise, List.pairwise_cons]
        exact ⟨he ▸ h.1, h.2⟩
      · rename_i hne
        have hnx : lt8 n x.fName := lt8_tri hlt hne
        rw [List.map_cons, List.map_cons, Rise, List.pairwise_cons, List.pairwise_cons]
        refine ⟨fun m hm => ?_, h⟩
        rcases List.mem_cons.1 hm with rfl | hm
        · exact hnx
        · exact lt8_trans hnx (h.1 m hm)

theorem insG_get {e : List S50} {n : Str} {v : List Str} (h : Rise (e.map (·.fName))) (m : Str) : getE (insG (·.fName) n ⟨n, v⟩ e) m = if m = n then v else getE e m := by
  induction e with
  | nil =>
    simp only [insG, getE]
    by_cases hm : m = n
    · simp [hm]
    · rw [if_neg (fun e => hm e.symm), if_neg hm]
  | cons x e ih =>
    rw [List.map_cons, Rise, List.pairwise_cons] at h
    simp only [insG]
    split
    · rename_i hlt
      simp only [getE, ih h.2]
      by_cases hx : x.fName = m
      · subst hx
        have : ¬ x.fName = n := fun e => lt8_irrefl n (e ▸ hlt)
        rw [if_pos rfl, if_neg this, if_pos rfl]
      · rw [if_neg hx, if_neg hx]
    · split
      · rename_i he
        simp only [getE]
        by_cases hm : m = n
        · simp [hm]
        · rw [if_neg (fun e => hm e.symm), if_neg hm, if_neg (fun e => hm (e.symm.trans he))]
      · simp only [getE]
        by_cases hm : m = n
        · simp [hm]
        · rw [if_neg (fun e => hm e.symm), if_neg hm]

theorem setE_srt {e : List S50} {n : Str} {v : List Str} (he : SrtE e) (hv : Rise v) : SrtE (setE e n v) := by
  unfold setE
  split
  · refine ⟨?_, fun a ha => he.vals a (List.mem_filter.1 ha).1⟩
    exact (he.names.sublist (List.filter_sublist.map _))
  · rename_i hne
    refine ⟨insG_rise he.names, fun a ha => ?_⟩
    rcases insG_mem ha with rfl | ha
    · exact ⟨hne, hv⟩
    · exact he.vals a ha

theorem setE_get {e : List S50} {n : Str} {v : List Str} (he : SrtE e) (m : Str) : getE (setE e n v) m = if m = n then v else getE e m := by
  unfold setE
  split
  · rename_i hv
    subst hv
    have key : ∀ (e : List S50), getE (e.filter fun x => !decide (x.fName = n)) m = if m = n then [] else getE e m := by
      intro e
      induction e with
      | nil => simp [getE]
      | cons x e ih =>
        by_cases hx : x.fName = n
        · rw [List.filter_cons_of_neg (by simp [hx]), ih]
          by_cases hm : m = n
          · simp [hm]
          · rw [if_neg hm, if_neg hm]
            simp only [getE]
            rw [if_neg (fun e => hm (e.symm.trans hx))]
        · rw [List.filter_cons_of_pos (by simp [hx])]
          simp only [getE]
          by_cases hxm : x.fName = m
          · rw [if_pos hxm, if_pos hxm, if_neg (fun e => hx (hxm.trans e))]
          · rw [if_neg hxm, if_neg hxm, ih]
    exact key e
  · exact insG_get he.names m

theorem setE_len (e : List S50) (n : Str) (v : List Str) : (setE e n v).length ≤ e.length + 1 := by
  unfold setE
  split
  · exact Nat.le_succ_of_le (List.length_filter_le _ _)
  · rename_i hv; clear hv
    induction e with
    | nil => simp [insG]
    | cons x e ih =>
      simp only [insG]
      split
      · simp; omega
      · split <;> simp

end Go.Idl

namespace Go.Idl

open Go

abbrev Tab := List (Str × List Str)

def keysT (t : Tab) : List Str := t.map (·.1)

def gT (t : Tab) (n : Str) : List Str := (mget t n).getD []

def vT (t : Tab) (n : Str) : List Str := U (gT t n)

def entT (t : Tab) : List S50 := ((U (keysT t)).map fun n => (⟨n, vT t n⟩ : S50)).filter fun a => !decide (a.fValues = [])

def fitT (t : Tab) : Bool := (U (keysT t)).all (fun n => decide ((vT t n).length ≤ 16)) && decide ((entT t).length ≤ 24)

theorem mget_keys {t : Tab} {n : Str} : n ∈ keysT t ↔ (mget t n).isSome = true := by
  induction t with
  | nil => simp [keysT, mget]
  | cons p t ih =>
    simp only [keysT, List.map_cons, List.mem_cons, mget] at ih ⊢
    by_cases h : p.1 = n
    · simp [h]
    · rw [if_neg h, ← ih]
      constructor
      · rintro (e | e)
        · exact absurd e.symm h
        · exact e
      · exact .inr

theorem gT_none {t : Tab} {n : Str} (h : ¬ n ∈ keysT t) : gT t n = [] := by
  rw [mget_keys] at h
  unfold gT
  cases hm : mget t n with
  | none => rfl
  | some v => rw [hm] at h; simp at h

theorem get_filter (g : Str → List Str) (n : Str) : ∀ (L : List Str), getE ((L.map fun n => (⟨n, g n⟩ : S50)).filter fun a => !decide (a.fValues = [])) n = if n ∈ L then g n else []
  | [] => by simp [getE]
  | x :: L => by
    rw [List.map_cons]
    by_cases hg : g x = []
    · rw [List.filter_cons_of_neg (by simp [hg]), get_filter g n L]
      by_cases hx : n = x
      · subst hx
        simp [hg]
      · simp [hx]
    · rw [List.filter_cons_of_pos (by simp [hg])]
      simp only [getE]
      by_cases hx : x = n
      · subst hx
        simp
      · rw [if_neg hx, get_filter g n L]
        have : ¬ n = x := fun e => hx e.symm
        simp [this]

theorem entT_get (t : Tab) (n : Str) : getE (entT t) n = vT t n := by
  unfold entT
  rw [get_filter]
  by_cases h : n ∈ U (keysT t)
  · rw [if_pos h]
  · rw [if_neg h]
    rw [U_mem] at h
    rw [vT, gT_none h, U_nil]

theorem entT_srt (t : Tab) : SrtE (entT t) := by
  constructor
  · have h1 : ((entT t).map (·.fName)).Sublist (((U (keysT t)).map fun n => (⟨n, vT t n⟩ : S50)).map (·.fName)) := List.filter_sublist.map _
    have h2 : ((U (keysT t)).map fun n => (⟨n, vT t n⟩ : S50)).map (·.fName) = U (keysT t) := by rw [List.map_map]; exact List.map_id _
    rw [h2] at h1
    exact (U_rise _).sublist h1
  · intro a ha
    obtain ⟨h1, h2⟩ := List.mem_filter.1 ha
    obtain ⟨n, _, rfl⟩ := List.mem_map.1 h1
    exact ⟨by simpa using h2, U_rise _⟩

structure SzT (t : Tab) : Prop where
  len : t.length ≤ 1000000
  key : ∀ n, n ∈ keysT t → n.length ≤ 1000000
  vals : ∀ n, (gT t n).length ≤ 1000000

theorem F58v_eq (l : List Str) (h : l.length ≤ 1000000) : F58v l = some (U l) := gd_pos (by omega)

theorem F42_eq (t : Tab) (hs : SzT t) : F42 t = some (if fitT t = true then (entT t, 0) else ([], 3)) := by
  have h1 := hs.len
  have hul : (U (keysT t)).length ≤ 1000000 := Nat.le_trans (U_len_le _) (by simpa [keysT] using h1)
  unfold F42
  have h58 : F58k t = some (U (keysT t)) := gd_pos ⟨by omega, fun p hp => by have := hs.key p.1 (List.mem_map_of_mem hp); omega⟩
  rw [h58]
  simp only [Option.bind_some]
  rw [loopO_run (U (keysT t)) (fun _ a n => if (vT t n).length ≤ 16 then .inl (if vT t n = [] then a else a ++ [⟨n, vT t n⟩]) else .inr (.inr ([], 3))) .inl (fun i a => a.length ≤ i) (by omega) (by simp)
    (fun i hi a hI => by
      simp only [F42_b7]
      rw [if_pos (by omega), gd_pos (by omega), Int.toNat_natCast, getD_some hi, F58v_eq _ (by exact hs.vals (U (keysT t))[i])]
      simp only [Option.bind_some]
      rw [show U ((mget t (U (keysT t))[i]).getD []) = vT t (U (keysT t))[i] from rfl]
      by_cases g1 : 16 < ((vT t (U (keysT t))[i]).length : Int)
      · rw [if_pos g1, if_neg (by omega)]
      · rw [if_neg g1, if_pos (show (vT t (U (keysT t))[i]).length ≤ 16 by omega)]
        by_cases g2 : 0 < ((vT t (U (keysT t))[i]).length : Int)
        · have g3 : ¬ vT t (U (keysT t))[i] = [] := by intro e; rw [e] at g2; simp at g2
          rw [if_pos g2, gd_pos (by simp only [List.length_cons, List.length_nil]; omega), if_neg g3]
        · have g3 : vT t (U (keysT t))[i] = [] := List.eq_nil_of_length_eq_zero (by omega)
          rw [if_neg g2, if_pos g3])
    (fun i hi a a' hI h => by
      split at h
      · simp only [Sum.inl.injEq] at h
        subst h
        split
        · omega
        · simp; omega
      · cases h)
    (fun a hI => by simp only [F42_b7]; rw [if_neg (by omega)])]
  have key : ∀ (L : List Str) (i : Nat) (a : List S50), runI (fun _ (a : List S50) n => if (vT t n).length ≤ 16 then .inl (if vT t n = [] then a else a ++ [⟨n, vT t n⟩]) else .inr (.inr (([] : List S50), (3 : Int)))) (.inl : List S50 → List S50 ⊕ (List S50 × Int)) i a L = if L.all (fun n => decide ((vT t n).length ≤ 16)) = true then .inl (a ++ (L.map fun n => (⟨n, vT t n⟩ : S50)).filter fun a => !decide (a.fValues = [])) else .inr ([], 3) := by
    intro L
    induction L with
    | nil => intro i a; simp [runI]
    | cons n L ih =>
      intro i a
      rw [runI_cons]
      by_cases g1 : (vT t n).length ≤ 16
      · rw [if_pos g1]
        simp only [ih, List.all_cons, g1, decide_true, Bool.true_and, List.map_cons]
        by_cases g2 : vT t n = []
        · rw [if_pos g2, List.filter_cons_of_neg (by simp [g2])]
        · rw [if_neg g2, List.filter_cons_of_pos (by simp [g2])]
          simp
      · rw [if_neg g1]
        simp [g1]
  rw [key]
  unfold fitT
  cases g : (U (keysT t)).all fun n => decide ((vT t n).length ≤ 16) with
  | false => simp
  | true =>
    simp only [if_true, Option.bind_some, Sum.elim_inl, F42_k7, List.nil_append, Bool.true_and, decide_eq_true_eq]
    have : ((U (keysT t)).map fun n => (⟨n, vT t n⟩ : S50)).filter (fun a => !decide (a.fValues = [])) = entT t := rfl
    rw [this]
    by_cases g2 : 24 < ((entT t).length : Int)
    · rw [if_pos g2, if_neg (by omega)]
    · rw [if_neg g2, if_pos (by omega)]

theorem fitT_iff (t : Tab) : fitT t = true ↔ (∀ n, (vT t n).length ≤ 16) ∧ (entT t).length ≤ 24 := by
  simp only [fitT, Bool.and_eq_true, List.all_eq_true, decide_eq_true_eq]
  constructor
  · rintro ⟨h1, h2⟩
    refine ⟨fun n => ?_, h2⟩
    by_cases h : n ∈ keysT t
    · exact h1 n ((U_mem _ _).2 h)
    · rw [vT, gT_none h, U_nil]; simp
  · rintro ⟨h1, h2⟩
    exact ⟨fun n _ => h1 n, h2⟩

/-! ### Tables -/

theorem gT_set (t : Tab) (k : Str) (v : List Str) (n : Str) : gT (mset t k v) n = if n = k then v else gT t n := by
  induction t with
  | nil =>
    simp only [mset, gT, mget]
    by_cases h : k = n
    · simp [h]
    · rw [if_neg h, if_neg (fun e => h e.symm)]
  | cons p t ih =>
    simp only [mset]
    by_cases h : p.1 = k
    · rw [if_pos h]
      simp only [gT, mget]
      by_cases hn : k = n
      · simp [hn]
      · rw [if_neg hn, if_neg (fun e => hn e.symm), h, if_neg hn]
    · rw [if_neg h]
      simp only [gT, mget] at ih ⊢
      by_cases hn : p.1 = n
      · rw [if_pos hn, if_pos hn, if_neg (fun e => h (hn.trans e))]
      · rw [if_neg hn, if_neg hn]
        exact ih

theorem keys_set (t : Tab) (k : Str) (v : List Str) (n : Str) : n ∈ keysT (mset t k v) ↔ n = k ∨ n ∈ keysT t := by
  induction t with
  | nil => simp [mset, keysT]
  | cons p t ih =>
    simp only [mset, keysT] at ih ⊢
    by_cases h : p.1 = k
    · rw [if_pos h]
      simp [h]
    · rw [if_neg h]
      simp only [List.map_cons, List.mem_cons, ih]
      constructor
      · rintro (h | h | h)
        · exact .inr (.inl h)
        · exact .inl h
        · exact .inr (.inr h)
      · rintro (h | h | h)
        · exact .inr (.inl h)
        · exact .inl h
        · exact .inr (.inr h)

theorem set_len (t : Tab) (k : Str) (v : List Str) : (mset t k v).length ≤ t.length + 1 := by
  induction t with
  | nil => simp [mset]
  | cons p t ih =>
    simp only [mset]
    split
    · simp
    · simp; omega

theorem gT_del {t : Tab} (hd : (keysT t).Nodup) (k n : Str) : gT (mdel t k) n = if n = k then [] else gT t n := by
  induction t with
  | nil => simp [mdel, gT, mget]
  | cons p t ih =>
    simp only [keysT, List.map_cons, List.nodup_cons] at hd
    simp only [mdel]
    by_cases h : p.1 = k
    · rw [if_pos h]
      by_cases hn : n = k
      · subst hn
        rw [if_pos rfl]
        exact gT_none (h ▸ hd.1)
      · rw [if_neg hn]
        simp only [gT, mget]
        rw [if_neg (fun e => hn (e.symm.trans h))]
    · rw [if_neg h]
      have := ih hd.2
      simp only [gT, mget] at this ⊢
      by_cases hn : p.1 = n
      · rw [if_pos hn, if_pos hn, if_neg (fun e => h (hn.trans e))]
      · rw [if_neg hn, if_neg hn]
        exact this

theorem keys_nodup {t : Tab} (h : (keysT t).Nodup) (k : Str) (v : List Str) : (keysT (mset t k v)).Nodup := by
  induction t with
  | nil => simp [mset, keysT]
  | cons p t ih =>
    simp only [keysT, List.map_cons, List.nodup_cons] at h
    simp only [mset]
    by_cases hp : p.1 = k
    · rw [if_pos hp]
      simp only [keysT, List.map_cons, List.nodup_cons]
      exact ⟨hp ▸ h.1, h.2⟩
    · rw [if_neg hp]
      simp only [keysT, List.map_cons, List.nodup_cons]
      refine ⟨fun hm => ?_, ih h.2⟩
      rcases (keys_set t k v p.1).1 hm with e | e
      · exact hp e
      · exact h.1 e

end Go.Idl

namespace Go.Idl

open Go

def okR (a : S50) : Bool := nameB a.fName && a.fValues.all valB

structure SzO (l : List S50) : Prop where
  len : l.length ≤ 1000000
  name : ∀ a, a ∈ l → a.fName.length ≤ 1000000
  tot : (l.map (·.fValues)).flatten.length ≤ 1000000

theorem SzO.sz {l : List S50} (h : SzO l) : SzE l := ⟨h.len, h.name, fun a ha => by
  have h1 := h.tot
  clear h
  induction l with
  | nil => simp at ha
  | cons x l ih =>
    rw [List.map_cons, List.flatten_cons, List.length_append] at h1
    rcases List.mem_cons.1 ha with rfl | ha
    · omega
    · exact ih ha (by omega)⟩

theorem F52_eq (l : List S50) (hs : SzE l) : F52 l = some (l.all okR) := by
  have hl := hs.len
  have h105 : ∃ j : Int, F105 l = some j ∧ decide (0 ≤ j) = !l.all okR := by
    unfold F105
    rw [loopO_find l (fun i x => if okR x = true then none else some (.inr (i : Int))) (.inl ()) (by omega)
      (fun i hi => by
        have hm := List.getElem_mem hi
        simp only [F105_b4]
        rw [if_pos (by omega), gd_pos (by omega), Int.toNat_natCast, getD_some hi]
        simp only [F89, F53, F45_eq _ (hs.name _ hm), Option.bind_some]
        by_cases h1 : nameB l[i].fName = true
        · rw [if_pos h1, F46_eq _ (hs.vals _ hm)]
          simp only [Option.bind_some]
          have : okR l[i] = l[i].fValues.all valB := by simp only [okR, h1, Bool.true_and]
          rw [this]
          cases l[i].fValues.all valB <;> simp
        · rw [if_neg h1]
          have : okR l[i] = false := by simp only [okR, Bool.eq_false_iff.2 h1, Bool.false_and]
          rw [this]
          simp)
      (by simp only [F105_b4]; rw [if_neg (by omega)])]
    rcases findI_place okR l 0 with ⟨h1, h2⟩ | ⟨h1, j, h2⟩
    · rw [h2, h1]; exact ⟨-1, rfl, rfl⟩
    · rw [h2, h1]; exact ⟨j, rfl, by simp⟩
  obtain ⟨j, h1, h2⟩ := h105
  simp only [F52, F88, h1, Option.bind_some, h2, Bool.not_not]

theorem tabS_snoc (l : List S50) (a : S50) : tabS (l ++ [a]) = mset (tabS l) (smallS a.fName) (gT (tabS l) (smallS a.fName) ++ a.fValues) := by
  unfold tabS
  rw [List.foldl_append]
  rfl

theorem list_snoc_ind {α : Type} {p : List α → Prop} (h0 : p []) (h1 : ∀ l x, p l → p (l ++ [x])) (l : List α) : p l := by
  rw [← List.reverse_reverse l]
  induction l.reverse with
  | nil => exact h0
  | cons x m ih => rw [List.reverse_cons]; exact h1 _ _ ih

theorem tabS_get (n : Str) (l : List S50) : gT (tabS l) n = (l.filter fun a => decide (smallS a.fName = n)).flatMap (·.fValues) := by
  induction l using list_snoc_ind with
  | h0 => rfl
  | h1 l a ih =>
    rw [tabS_snoc, gT_set, List.filter_append, List.flatMap_append]
    by_cases h : n = smallS a.fName
    · rw [if_pos h, ← h, ih]
      rw [List.filter_cons_of_pos (by simp [h])]
      simp
    · rw [if_neg h, ih, List.filter_cons_of_neg (by simpa using fun e => h e.symm)]
      simp

theorem tabS_keys (n : Str) (l : List S50) : n ∈ keysT (tabS l) ↔ ∃ a, a ∈ l ∧ smallS a.fName = n := by
  induction l using list_snoc_ind with
  | h0 => simp [tabS, keysT]
  | h1 l a ih =>
    rw [tabS_snoc, keys_set, ih]
    constructor
    · rintro (h | ⟨b, h1, h2⟩)
      · exact ⟨a, by simp, h.symm⟩
      · exact ⟨b, by simp [h1], h2⟩
    · rintro ⟨b, h1, h2⟩
      rcases List.mem_append.1 h1 with h1 | h1
      · exact .inr ⟨b, h1, h2⟩
      · simp at h1; subst h1; exact .inl h2.symm

theorem tabS_nodup (l : List S50) : (keysT (tabS l)).Nodup := by
  induction l using list_snoc_ind with
  | h0 => simp [tabS, keysT]
  | h1 l a ih => rw [tabS_snoc]; exact keys_nodup ih _ _

theorem tabS_len (l : List S50) : (tabS l).length ≤ l.length := by
  induction l using list_snoc_ind with
  | h0 => simp [tabS]
  | h1 l a ih => rw [tabS_snoc]; have := set_len (tabS l) (smallS a.fName) (gT (tabS l) (smallS a.fName) ++ a.fValues); simp; omega

theorem gT_le (n : Str) (l : List S50) : (gT (tabS l) n).length ≤ (l.map (·.fValues)).flatten.length := by
  rw [tabS_get]
  induction l with
  | nil => simp
  | cons x l ih =>
    rw [List.map_cons, List.flatten_cons, List.length_append]
    by_cases hx : smallS x.fName = n
    · rw [List.filter_cons_of_pos (by simp [hx])]
      simp only [List.flatMap_cons, List.length_append]
      omega
    · rw [List.filter_cons_of_neg (by simp [hx])]
      omega

theorem tabS_sz {l : List S50} (h : SzO l) : SzT (tabS l) := by
  refine ⟨Nat.le_trans (tabS_len l) h.len, fun n hn => ?_, fun n => Nat.le_trans (gT_le n l) h.tot⟩
  obtain ⟨a, h1, rfl⟩ := (tabS_keys n l).1 hn
  simpa using h.name a h1

theorem F40_eq {l : List S50} (h : SzO l) : F40 l = some (tabS l) := gd_pos ⟨by have := h.len; omega, fun a ha => by have := h.name a ha; omega, by have := h.tot; omega⟩

def orderS (l : List S50) : List S50 × Int := if l.all okR = true then (if fitT (tabS l) = true then (entT (tabS l), 0) else ([], 3)) else ([], 2)

theorem F19_eq (l : List S50) (h : SzO l) : F19 l = some (orderS l) := by
  unfold F19 orderS
  rw [F52_eq l h.sz]
  simp only [Option.bind_some]
  cases g : l.all okR with
  | false => simp
  | true =>
    rw [if_neg (by simp), F40_eq h]
    simp only [Option.bind_some, F42_eq _ (tabS_sz h), if_true]

theorem getE_len {e : List S50} {B : Nat} (h : ∀ a, a ∈ e → a.fValues.length ≤ B) (n : Str) : (getE e n).length ≤ B := by
  induction e with
  | nil => simp [getE]
  | cons x e ih =>
    simp only [getE]
    split
    · exact h x (by simp)
    · exact ih fun a ha => h a (by simp [ha])

theorem U_mono (l m : List Str) : (U l).length ≤ (U (l ++ m)).length := nodup_len (rise_nodup (U_rise l)) fun x hx => by rw [U_mem] at *; simp [hx]

theorem insS_len' (l : List Str) (s : Str) : (insS l s).length ≤ l.length + 1 := by
  induction l with
  | nil => simp [insS]
  | cons x l ih =>
    simp only [insS]
    split
    · simp; omega
    · split <;> simp

theorem fold_insS_rise (m : List Str) : ∀ (l : List Str), Rise l → Rise (m.foldl insS l) := by
  induction m with
  | nil => intro l h; exact h
  | cons s m ih => intro l h; exact ih _ (insS_rise l s h)

theorem fold_loop {step : List Str × Int → Option ((List Str × Int) ⊕ List Str)} (v m : List Str) (hv : Rise v) (hl : v.length + m.length ≤ 1000000)
    (hs : ∀ (i : Nat) (h : i < m.length) (a : List Str), step (a, (i : Int)) = (F54 a m[i]).bind fun x => some (.inl (x, IntKind.i64.wrap ((i : Int) + 1)))) (hf : ∀ a, step (a, (m.length : Int)) = some (.inr a)) : loopO step (v, 0) = some (m.foldl insS v) := by
  rw [loopO_run m (fun _ a x => .inl (insS a x)) id (fun i a => Rise a ∧ a.length ≤ v.length + i) (by omega) ⟨hv, by omega⟩
    (fun i hi a hI => by
      rw [hs i hi a, F54_eq _ _ (by omega) hI.1]
      rfl)
    (fun i hi a a' hI h => by
      simp only [Sum.inl.injEq] at h
      subst h
      have := insS_len' a m[i]
      exact ⟨insS_rise _ _ hI.1, by omega⟩)
    (fun a _ => hf a)]
  rw [runI_inl]
  rfl

def ordStep (a : List S50 × Bool) (x : S50) : List S50 × Bool := (setE a.1 (smallS x.fName) (x.fValues.foldl insS (getE a.1 (smallS x.fName))), a.2 || decide (16 < (x.fValues.foldl insS (getE a.1 (smallS x.fName))).length))

structure OrdInv (l : List S50) (a : List S50 × Bool) : Prop where
  srt : SrtE a.1
  len : a.1.length ≤ l.length
  get : ∀ n, getE a.1 n = vT (tabS l) n
  long : a.2 = true ↔ ∃ n, 16 < (vT (tabS l) n).length

theorem ord_inv (l : List S50) : OrdInv l (l.foldl ordStep ([], false)) := by
  induction l using list_snoc_ind with
  | h0 => exact ⟨⟨by simp [Rise], by simp⟩, by simp, fun n => by simp [getE, tabS, vT, gT, mget, U_nil], by simp [tabS, vT, gT, mget, U_nil]⟩
  | h1 l x ih =>
    rw [List.foldl_append]
    generalize l.foldl ordStep ([], false) = a at ih
    obtain ⟨q1, q2, q3, q4⟩ := ih
    have hfr : Rise (x.fValues.foldl insS (getE a.1 (smallS x.fName))) := fold_insS_rise _ _ (by rw [q3]; exact U_rise _)
    have hv : x.fValues.foldl insS (getE a.1 (smallS x.fName)) = U (gT (tabS l) (smallS x.fName) ++ x.fValues) := by
      rw [q3]; exact U_fold _ _
    have hvt : ∀ n, vT (tabS (l ++ [x])) n = if n = smallS x.fName then x.fValues.foldl insS (getE a.1 (smallS x.fName)) else vT (tabS l) n := by
      intro n
      rw [tabS_snoc]
      unfold vT
      rw [gT_set, hv]
      split <;> rfl
    refine ⟨setE_srt q1 hfr, ?_, fun n => ?_, ?_⟩
    · have := setE_len a.1 (smallS x.fName) (x.fValues.foldl insS (getE a.1 (smallS x.fName)))
      simp only [List.foldl_cons, List.foldl_nil, ordStep, List.length_append, List.length_cons, List.length_nil]
      omega
    · simp only [List.foldl_cons, List.foldl_nil, ordStep]
      rw [setE_get q1, hvt]
      split
      · rfl
      · exact q3 n
    · simp only [List.foldl_cons, List.foldl_nil, ordStep, Bool.or_eq_true, decide_eq_true_eq, q4]
      constructor
      · rintro (⟨n, hn⟩ | hn)
        · refine ⟨n, ?_⟩
          rw [hvt]
          split
          · rename_i e
            rw [hv]
            subst e
            exact Nat.lt_of_lt_of_le hn (U_mono _ _)
          · exact hn
        · exact ⟨smallS x.fName, by rw [hvt, if_pos rfl]; exact hn⟩
      · rintro ⟨n, hn⟩
        rw [hvt] at hn
        split at hn
        · exact .inr hn
        · exact .inl ⟨n, hn⟩

theorem F20_eq (l : List S50) (h : SzO l) : F20 l = some (orderS l) := by
  have hl := h.len
  have htot := h.tot
  unfold F20 orderS
  rw [loopO_find l (fun _ x => if okR x = true then none else some (.inr ([], 2))) (.inl ()) (by omega)
    (fun i hi => by
      have hm := List.getElem_mem hi
      simp only [F20_b6]
      rw [if_pos (by omega), gd_pos (by omega), Int.toNat_natCast, getD_some hi, F49_eq]
      simp only [Option.bind_some]
      by_cases h1 : nameB l[i].fName = true
      · rw [if_neg (by simp [h1]), F51_eq _ (h.sz.vals _ hm)]
        simp only [Option.bind_some]
        have : okR l[i] = l[i].fValues.all valB := by simp only [okR, h1, Bool.true_and]
        rw [this]
        cases l[i].fValues.all valB <;> simp
      · rw [if_pos h1]
        have : okR l[i] = false := by simp only [okR, Bool.eq_false_iff.2 h1, Bool.false_and]
        rw [this]
        simp)
    (by simp only [F20_b6]; rw [if_neg (by omega)])]
  rw [findI_all]
  cases g : l.all okR with
  | false => simp
  | true =>
    simp only [if_true, Option.bind_some, Sum.elim_inl, F20_k6]
    rw [loopO_run2 l (fun _ a x => .inl (ordStep a x)) id (fun i a => a = (l.take i).foldl ordStep ([], false)) (by omega) (by simp)
      (fun i hi a b hI => by
        have hinv := ord_inv (l.take i)
        rw [← hI] at hinv
        obtain ⟨q1, q2, q3, q4⟩ := hinv
        simp only at q1 q2 q3 q4
        rw [List.length_take] at q2
        have hm := List.getElem_mem hi
        have hn := h.name _ hm
        simp only [F20_b10]
        rw [if_pos (by omega), gd_pos (by omega), Int.toNat_natCast, getD_some hi, F23_eq a _ (by omega) hn]
        simp only [Option.bind_some]
        have hgr : Rise (getE a (smallS l[i].fName)) := by rw [q3]; exact U_rise _
        have hgl : (getE a (smallS l[i].fName)).length + l[i].fValues.length ≤ 1000000 := by
          rw [q3]
          have h1 := U_len_le (gT (tabS (l.take i)) (smallS l[i].fName))
          have h2 : (gT (tabS (l.take i)) (smallS l[i].fName)).length ≤ totV l i := gT_le _ _
          have h3 := totV_succ l i hi
          have h4 := totV_le l (i + 1)
          simp only [vT]
          omega
        rw [fold_loop (getE a (smallS l[i].fName)) l[i].fValues hgr hgl (fun j hj c => by
          simp only [F20_b32]
          rw [Int.toNat_natCast, getD_some hi, if_pos (by omega), gd_pos (by omega), Int.toNat_natCast, getD_some hj]) (fun c => by
          simp only [F20_b32]
          rw [Int.toNat_natCast, getD_some hi, if_neg (by omega)])]
        simp only [Option.bind_some, F20_k32]
        rw [Int.toNat_natCast, getD_some hi, F50_eq _ hn]
        simp only [Option.bind_some]
        rw [F55_eq _ _ _ (by omega) q1.names]
        cases b with
        | true => simp [ordStep]
        | false =>
          simp only [Bool.false_eq_true, if_false, Option.bind_some, ordStep, Bool.false_or, Option.some.injEq, Sum.inl.injEq, Prod.mk.injEq, true_and, and_true, decide_eq_decide]
          omega)
      (fun i hi a a' hI h' => by
        simp only [Sum.inl.injEq] at h'
        subst h'
        subst hI
        rw [List.take_succ_eq_append_getElem hi, List.foldl_append]
        rfl)
      (fun a b hI => by simp only [F20_b10]; rw [if_neg (by omega)]; rfl)]
    rw [runI_inl]
    have hinv := ord_inv l
    generalize l.foldl ordStep ([], false) = a at hinv
    obtain ⟨q1, q2, q3, q4⟩ := hinv
    have he : a.1 = entT (tabS l) := srt_uniq q1 (entT_srt _) fun n => by rw [q3, entT_get]
    simp only [Option.bind_some, id, F20_k10]
    by_cases hf : fitT (tabS l) = true
    · obtain ⟨f1, f2⟩ := (fitT_iff _).1 hf
      have ha2 : ¬ a.2 = true := fun h => by obtain ⟨n, hn⟩ := q4.1 h; have := f1 n; omega
      rw [if_neg ha2, he, if_neg (by omega), if_pos hf]
    · rw [if_neg hf]
      by_cases ha2 : a.2 = true
      · rw [if_pos ha2]
      · rw [if_neg ha2]
        have : ¬ (entT (tabS l)).length ≤ 24 := fun h' => hf ((fitT_iff _).2 ⟨fun n => by
          rcases Nat.lt_or_ge 16 (vT (tabS l) n).length with h'' | h''
          · exact absurd (q4.2 ⟨n, h''⟩) ha2
          · exact h'', h'⟩)
        rw [he, if_pos (by omega)]

end Go.Idl

namespace Go.Idl

open Go

/-! ### Which changes may be -/

def mayB (m : S48) : Bool := decide (1 ≤ m.fKind ∧ m.fKind ≤ 3) && nameB m.fName && decide (m.fValues.length ≤ 16) && m.fValues.all valB && (!decide (m.fKind = 1) || decide (0 < m.fValues.length))

structure SzM (l : List S48) : Prop where
  len : l.length ≤ 1000000
  name : ∀ a, a ∈ l → a.fName.length ≤ 1000000
  vals : ∀ a, a ∈ l → a.fValues.length ≤ 1000000

theorem F36_eq (m : S48) (hn : m.fName.length ≤ 1000000) (hv : m.fValues.length ≤ 1000000) : F36 m = some (mayB m) := by
  unfold F36 mayB
  by_cases h1 : 1 ≤ m.fKind
  · rw [if_pos h1]
    by_cases h2 : m.fKind ≤ 3
    · rw [if_pos h2, F45_eq _ hn]
      have h12 : decide (1 ≤ m.fKind ∧ m.fKind ≤ 3) = true := by simp [h1, h2]
      simp only [Option.bind_some, h12, Bool.true_and]
      by_cases h3 : nameB m.fName = true
      · rw [if_pos h3, h3]
        by_cases h4 : (m.fValues.length : Int) ≤ 16
        · rw [if_pos h4, F46_eq _ hv]
          have h4' : decide (m.fValues.length ≤ 16) = true := by simp; omega
          simp only [Option.bind_some, h4', Bool.true_and]
          by_cases h5 : m.fValues.all valB = true
          · rw [if_pos h5, h5]
            by_cases h6 : m.fKind = 1
            · rw [if_neg (by simp [h6])]
              simp [h6]
            · rw [if_pos h6]
              simp [h6]
          · rw [if_neg h5]
            simp [Bool.eq_false_iff.2 h5]
        · rw [if_neg h4]
          have h4' : decide (m.fValues.length ≤ 16) = false := by simp; omega
          simp [h4']
      · rw [if_neg h3]
        simp [Bool.eq_false_iff.2 h3]
    · rw [if_neg h2]
      simp [h2]
  · rw [if_neg h1]
    simp [h1]

theorem F35_eq (l : List S48) (hs : SzM l) : F35 l = some (l.all mayB) := by
  have hl := hs.len
  have h98 : ∃ j : Int, F98 l = some j ∧ decide (0 ≤ j) = !l.all mayB := by
    unfold F98
    rw [loopO_find l (fun i x => if mayB x = true then none else some (.inr (i : Int))) (.inl ()) (by omega)
      (fun i hi => by
        have hm := List.getElem_mem hi
        simp only [F98_b4]
        rw [if_pos (by omega), gd_pos (by omega), Int.toNat_natCast, getD_some hi]
        simp only [F75, F36_eq _ (hs.name _ hm) (hs.vals _ hm), Option.bind_some]
        cases mayB l[i] <;> simp)
      (by simp only [F98_b4]; rw [if_neg (by omega)])]
    rcases findI_place mayB l 0 with ⟨h1, h2⟩ | ⟨h1, j, h2⟩
    · rw [h2, h1]; exact ⟨-1, rfl, rfl⟩
    · rw [h2, h1]; exact ⟨j, rfl, by simp⟩
  obtain ⟨j, h1, h2⟩ := h98
  simp only [F35, F74, h1, Option.bind_some, h2, Bool.not_not]

/-! ### One change -/

def chS (k : Int) (has v : List Str) : List Str ⊕ Int :=
  if k = 1 then (if ¬ (has ++ v).Nodup then .inr 170 else .inl (has ++ v))
  else if k = 2 then (if (v = [] ∧ has = []) ∨ ¬ v.Nodup ∨ ¬ ∀ s, s ∈ v → s ∈ has then .inr 171 else .inl (if v = [] then [] else has.filter fun s => !decide (s ∈ v)))
  else .inl v

theorem F76_eq (l : List Str) (h : l.length ≤ 1000000) : F76 l = some (decide (¬ l.Nodup)) := by
  unfold F76
  rw [F58v_eq l h]
  simp only [Option.bind_some, Option.some.injEq, decide_eq_decide]
  rw [← U_len_nodup]
  omega

theorem F46s2_eq (v has : List Str) (hv : v.length ≤ 1000000) (hh : has.length ≤ 1000000) : F46s2 v has = some (decide (∀ s, s ∈ v → s ∈ has)) := by
  have hall : decide (∀ s, s ∈ v → s ∈ has) = v.all (fun s => decide (s ∈ has)) := by
    rw [Bool.eq_iff_iff]
    simp [List.all_eq_true]
  have h100 : ∃ j : Int, F100s2 v has = some j ∧ decide (0 ≤ j) = !v.all (fun s => decide (s ∈ has)) := by
    unfold F100s2
    have key : ∃ r, loopO (fun (s : Int × List Str) => F100s2_b4 v s.1 s.2) (0, has) = some r ∧ ((v.all (fun s => decide (s ∈ has)) = true ∧ r = .inl has) ∨ (v.all (fun s => decide (s ∈ has)) = false ∧ ∃ j : Nat, r = .inr (j : Int))) := by
      refine loopO_for3 (step := fun (s : Int × List Str) => F100s2_b4 v s.1 s.2) v.length (fun i a => a = has ∧ (v.take i).all (fun s => decide (s ∈ has)) = true) ⟨rfl, by simp⟩ ?_ ?_
      · rintro i a hi ⟨rfl, hI⟩
        simp only [F100s2_b4]
        rw [if_pos (by omega), gd_pos (by omega), Int.toNat_natCast, getD_some hi]
        simp only [F86s2, F77, Q78_eq _ _ hh, Option.bind_some]
        by_cases h : v[i] ∈ a
        · rw [if_neg (by simp [h]), wrap_nat (by omega)]
          refine .inl ⟨a, rfl, rfl, ?_⟩
          rw [List.take_succ_eq_append_getElem hi, List.all_append, hI]
          simp [h]
        · rw [if_pos (by simp [h])]
          refine .inr ⟨_, rfl, .inr ⟨?_, i, rfl⟩⟩
          rw [Bool.eq_false_iff]
          intro h'
          have := List.all_eq_true.1 h' v[i] (List.getElem_mem _)
          simp [h] at this
      · rintro a ⟨rfl, hI⟩
        simp only [F100s2_b4]
        rw [if_neg (by omega)]
        rw [List.take_length] at hI
        exact ⟨_, rfl, .inl ⟨hI, rfl⟩⟩
    obtain ⟨r, h1, h2⟩ := key
    rw [h1]
    rcases h2 with ⟨h2, rfl⟩ | ⟨h2, j, rfl⟩
    · rw [h2]; exact ⟨-1, rfl, rfl⟩
    · rw [h2]; exact ⟨j, rfl, by simp⟩
  obtain ⟨j, h1, h2⟩ := h100
  simp only [F46s2, F85s2, h1, Option.bind_some, h2, Bool.not_not, hall]

def chT (t : Tab) (k : Int) (n : Str) (v : List Str) : Int × Tab :=
  match chS k (gT t n) v with
  | .inr w => (w, t)
  | .inl x => (0, if k = 2 ∧ v = [] then mdel t n else mset t n x)

theorem F37_eq (t : Tab) (n : Str) (v : List Str) (ht : (gT t n).length ≤ 500000) (hv : v.length ≤ 500000) : F37 t n v = some (chT t 1 n v) := by
  unfold F37 chT chS
  have h56 : F56 ((mget t n).getD []) = some (gT t n) := gd_pos (by show ((gT t n).length : Int) ≤ 1000000; omega)
  rw [h56]
  simp only [Option.bind_some]
  rw [gd_pos (by omega), F76_eq _ (by rw [List.length_append]; omega)]
  simp only [Option.bind_some, if_true]
  by_cases h : (gT t n ++ v).Nodup
  · rw [if_neg (by simp [h])]
    simp only [h, not_true, if_false]
    rw [gd_pos (by omega)]
    rfl
  · rw [if_pos (by simp [h])]
    simp only [h, not_false_eq_true, if_true]

theorem F39_eq (t : Tab) (n : Str) (v : List Str) (hv : v.length ≤ 500000) : F39 t n v = some (chT t 3 n v) := by
  unfold F39 chT chS
  rw [F56, gd_pos (by omega)]
  rfl

theorem F38_eq (t : Tab) (n : Str) (v : List Str) (ht : (gT t n).length ≤ 500000) (hv : v.length ≤ 500000) : F38 t n v = some (chT t 2 n v) := by
  have hg : (mget t n).getD [] = gT t n := rfl
  have h56 : F56 (gT t n) = some (gT t n) := gd_pos (by omega)
  have hk4 : ∀ b : Bool, (b = false → v ≠ [] → ∃ s, s ∈ v ∧ s ∈ gT t n) → F38_k4 t n v b = some (if b = true then (171, t) else (0, if v = [] then mdel t n else mset t n ((gT t n).filter fun s => !decide (s ∈ v)))) := by
    intro b hb
    unfold F38_k4
    cases b with
    | true => simp
    | false =>
      rw [if_neg (by simp)]
      by_cases h : (v.length : Int) = 0
      · have : v = [] := List.eq_nil_of_length_eq_zero (by omega)
        rw [if_pos h]
        simp [this]
      · have hne : v ≠ [] := by rintro rfl; simp at h
        obtain ⟨s, _, hs⟩ := hb rfl hne
        rw [if_neg h, hg, h56]
        simp only [Option.bind_some]
        have h79 : F79 (gT t n) v = some ((gT t n).filter fun s => !decide (s ∈ v)) := gd_pos ⟨by intro e; rw [e] at hs; simp at hs, by omega, by omega⟩
        rw [h79]
        simp [hne]
  have hall := F46s2_eq v (gT t n) (by omega) (by omega)
  have h76 := F76_eq v (by omega)
  unfold F38
  rw [hg]
  have hgoal : chT t 2 n v = if (v = [] ∧ gT t n = []) ∨ ¬ v.Nodup ∨ ¬ (∀ s, s ∈ v → s ∈ gT t n) then (171, t) else (0, if v = [] then mdel t n else mset t n ((gT t n).filter fun s => !decide (s ∈ v))) := by
    unfold chT chS
    rw [if_neg (by decide), if_pos rfl]
    by_cases hc : (v = [] ∧ gT t n = []) ∨ ¬ v.Nodup ∨ ¬ (∀ s, s ∈ v → s ∈ gT t n)
    · rw [if_pos hc, if_pos hc]
    · rw [if_neg hc, if_neg hc]
      by_cases hv : v = []
      · simp [hv]
      · simp [hv]
  rw [hgoal]
  have rest : ((F76 v).bind fun (x : Bool) => if x = true then F38_k4 t n v x else (F46s2 v (gT t n)).bind fun (y : Bool) => F38_k4 t n v (!y)) = some (if ¬ v.Nodup ∨ ¬ (∀ s, s ∈ v → s ∈ gT t n) then (171, t) else (0, if v = [] then mdel t n else mset t n ((gT t n).filter fun s => !decide (s ∈ v)))) := by
    rw [h76]
    simp only [Option.bind_some]
    by_cases g1 : v.Nodup
    · rw [if_neg (by simp [g1]), hall]
      simp only [Option.bind_some]
      by_cases g2 : ∀ s, s ∈ v → s ∈ gT t n
      · rw [hk4 _ (fun _ hne => by
          obtain ⟨s, hs⟩ := List.exists_mem_of_ne_nil v hne
          exact ⟨s, hs, g2 s hs⟩)]
        rw [show (!decide (∀ s, s ∈ v → s ∈ gT t n)) = false by simpa using g2, if_neg (by decide : ¬ false = true), if_neg (show ¬ (¬ v.Nodup ∨ ¬ ∀ s, s ∈ v → s ∈ gT t n) from fun h => h.elim (fun h => h g1) fun h => h g2)]
      · rw [hk4 _ (fun h => by simp at h; exact absurd h g2)]
        rw [show (!decide (∀ s, s ∈ v → s ∈ gT t n)) = true by simpa using g2, if_pos rfl, if_pos (show ¬ v.Nodup ∨ ¬ ∀ s, s ∈ v → s ∈ gT t n from .inr g2)]
    · have hd : decide (¬ v.Nodup) = true := by simp [g1]
      rw [hd, if_pos rfl, hk4 true (fun h => by cases h), if_pos rfl, if_pos (show ¬ v.Nodup ∨ ¬ ∀ s, s ∈ v → s ∈ gT t n from .inl g1)]
  by_cases h0 : (v.length : Int) = 0
  · have hv0 : v = [] := List.eq_nil_of_length_eq_zero (by omega)
    rw [if_pos h0]
    by_cases h1 : ((gT t n).length : Int) = 0
    · have hg0 : gT t n = [] := List.eq_nil_of_length_eq_zero (by omega)
      rw [if_pos h1, hk4 _ (fun h => by simp [h1] at h)]
      rw [if_pos (by simpa using h1), if_pos (.inl ⟨hv0, hg0⟩)]
    · have hg0 : ¬ gT t n = [] := fun e => h1 (by simp [e])
      rw [if_neg h1, rest]
      simp only [hg0, and_false, false_or]
  · have hv0 : ¬ v = [] := fun e => h0 (by simp [e])
    rw [if_neg h0, rest]
    simp only [hv0, false_and, false_or]

end Go.Idl

namespace Go.Idl

open Go

structure RightE (e : List S50) : Prop where
  srt : SrtE e
  name : ∀ a, a ∈ e → nameB a.fName = true ∧ smallS a.fName = a.fName
  vals : ∀ a, a ∈ e → a.fValues.length ≤ 16 ∧ a.fValues.all valB = true
  len : e.length ≤ 24

theorem right_iff (e : List S50) : rightB e = true ↔ RightE e := by
  simp only [rightB, okA, Bool.and_eq_true, decide_eq_true_eq, List.all_eq_true]
  constructor
  · rintro ⟨⟨h1, h2⟩, h3⟩
    exact ⟨⟨h3, fun a ha => ⟨fun e => by have := (h2 a ha).1.1.2.1; rw [e] at this; simp at this, (h2 a ha).2⟩⟩, fun a ha => ⟨(h2 a ha).1.1.1.1, (h2 a ha).1.1.1.2⟩, fun a ha => ⟨(h2 a ha).1.1.2.2, List.all_eq_true.2 (h2 a ha).1.2⟩, h1⟩
  · rintro ⟨⟨h1, h2⟩, h3, h4, h5⟩
    exact ⟨⟨h5, fun a ha => ⟨⟨⟨⟨(h3 a ha).1, (h3 a ha).2⟩, List.length_pos_iff.2 (h2 a ha).1, (h4 a ha).1⟩, List.all_eq_true.1 (h4 a ha).2⟩, (h2 a ha).2⟩⟩, h1⟩

theorem name_len {s : Str} (h : nameB s = true) : s.length ≤ 64 := by
  simp only [nameB, Bool.and_eq_true, decide_eq_true_eq] at h
  exact h.1.1.2

theorem tot_le {B : Nat} : ∀ {l : List S50}, (∀ a, a ∈ l → a.fValues.length ≤ B) → (l.map (·.fValues)).flatten.length ≤ l.length * B
  | [], _ => by simp
  | x :: l, h => by
    have h1 := h x (by simp)
    have h2 := tot_le (B := B) (l := l) fun a ha => h a (by simp [ha])
    rw [List.map_cons, List.flatten_cons, List.length_append, List.length_cons, Nat.add_mul, Nat.one_mul]
    omega

theorem RightE.sz {e : List S50} (h : RightE e) : SzO e := by
  refine ⟨by have := h.len; omega, fun a ha => by have := name_len (h.name a ha).1; omega, ?_⟩
  have h1 := tot_le fun a ha => (h.vals a ha).1
  have h2 := h.len
  have : e.length * 16 ≤ 24 * 16 := Nat.mul_le_mul_right _ h2
  omega

theorem gT_right {e : List S50} (hs : Rise (e.map (·.fName))) (hn : ∀ a, a ∈ e → smallS a.fName = a.fName) (n : Str) : gT (tabS e) n = getE e n := by
  rw [tabS_get]
  induction e with
  | nil => rfl
  | cons x e ih =>
    rw [List.map_cons, Rise, List.pairwise_cons] at hs
    have hx := hn x (by simp)
    by_cases h : x.fName = n
    · rw [List.filter_cons_of_pos (by rw [hx, h]; simp)]
      have hnil : e.filter (fun a => decide (smallS a.fName = n)) = [] := List.filter_eq_nil_iff.2 fun a ha => by
        rw [hn a (by simp [ha])]
        have h1 := hs.1 a.fName (List.mem_map_of_mem ha)
        intro h2
        simp only [decide_eq_true_eq] at h2
        rw [h, h2] at h1
        exact lt8_irrefl _ h1
      rw [hnil]
      simp [getE, h]
    · rw [List.filter_cons_of_neg (by rw [hx]; simp [h])]
      simp only [getE, h, if_false]
      exact ih hs.2 fun a ha => hn a (by simp [ha])

theorem getE_rise {e : List S50} (h : SrtE e) (n : Str) : Rise (getE e n) := by
  by_cases hn : getE e n = []
  · rw [hn]; simp [Rise]
  · obtain ⟨a, ha, rfl⟩ := List.mem_map.1 ((mem_names h n).2 hn)
    rw [getE_mem h.names ha]
    exact (h.vals a ha).2

def stepS (e : List S50) (m : S48) : List S50 ⊕ Int :=
  match chS m.fKind (getE e (smallS m.fName)) m.fValues with
  | .inr w => .inr w
  | .inl x => if (U x).length ≤ 16 ∧ (setE e (smallS m.fName) (U x)).length ≤ 24 then .inl (setE e (smallS m.fName) (U x)) else .inr 3

def runS : List S50 → List S48 → List S50 × Int
  | e, [] => (e, 0)
  | e, m :: l => match stepS e m with
    | .inl e' => runS e' l
    | .inr w => ([], w)

def doS (e : List S50) (l : List S48) : List S50 × Int := if rightB e = true ∧ l.all mayB = true then runS e l else ([], 2)

theorem chS_ne (k : Int) (has v : List Str) (w : Int) (h : chS k has v = .inr w) : w ≠ 0 := by
  unfold chS at h
  split at h
  · split at h
    · cases h; decide
    · cases h
  · split at h
    · split at h
      · cases h; decide
      · cases h
    · cases h

theorem chS_nil {has : List Str} {x : List Str} (h : chS 2 has [] = .inl x) : x = [] := by
  simp only [chS] at h
  rw [if_neg (by decide), if_pos trivial] at h
  split at h
  · cases h
  · simpa using h.symm

theorem ch_ent {e : List S50} (hr : RightE e) (k : Int) (n : Str) (v x : List Str) (hk : chS k (getE e n) v = .inl x) :
    entT (chT (tabS e) k n v).2 = setE e n (U x) ∧ (fitT (chT (tabS e) k n v).2 = true ↔ (U x).length ≤ 16 ∧ (setE e n (U x)).length ≤ 24) := by
  have hg := gT_right hr.srt.names fun a ha => (hr.name a ha).2
  have ht : ∀ m, gT (chT (tabS e) k n v).2 m = if m = n then x else getE e m := by
    intro m
    unfold chT
    rw [hg, hk]
    simp only
    by_cases hc : k = 2 ∧ v = []
    · rw [if_pos hc, gT_del (tabS_nodup e), hg]
      obtain ⟨rfl, rfl⟩ := hc
      rw [chS_nil hk]
    · rw [if_neg hc, gT_set, hg]
  have hv : ∀ m, vT (chT (tabS e) k n v).2 m = if m = n then U x else getE e m := by
    intro m
    unfold vT
    rw [ht]
    split
    · rfl
    · exact U_of_rise (getE_rise hr.srt m)
  have he : entT (chT (tabS e) k n v).2 = setE e n (U x) := srt_uniq (entT_srt _) (setE_srt hr.srt (U_rise x)) fun m => by rw [entT_get, hv, setE_get hr.srt]
  refine ⟨he, ?_⟩
  rw [fitT_iff, he]
  constructor
  · rintro ⟨h1, h2⟩
    have := h1 n
    rw [hv, if_pos rfl] at this
    exact ⟨this, h2⟩
  · rintro ⟨h1, h2⟩
    refine ⟨fun m => ?_, h2⟩
    rw [hv]
    split
    · exact h1
    · exact getE_len (fun a ha => (hr.vals a ha).1) m

theorem setE_right {e : List S50} (hr : RightE e) {n : Str} {v : List Str} (hn : nameB n = true) (hs : smallS n = n) (hv : Rise v) (hl : v.length ≤ 16) (hb : v.all valB = true) (hlen : (setE e n v).length ≤ 24) : RightE (setE e n v) := by
  have hmem : ∀ a, a ∈ setE e n v → a = ⟨n, v⟩ ∨ a ∈ e := by
    intro a ha
    unfold setE at ha
    split at ha
    · exact .inr (List.mem_filter.1 ha).1
    · exact insG_mem ha
  refine ⟨setE_srt hr.srt hv, fun a ha => ?_, fun a ha => ?_, hlen⟩
  · rcases hmem a ha with rfl | ha
    · exact ⟨hn, hs⟩
    · exact hr.name a ha
  · rcases hmem a ha with rfl | ha
    · exact ⟨hl, hb⟩
    · exact hr.vals a ha

theorem getE_val {e : List S50} (hr : RightE e) (n : Str) : (getE e n).all valB = true := by
  by_cases hn : getE e n = []
  · rw [hn]; rfl
  · obtain ⟨a, ha, rfl⟩ := List.mem_map.1 ((mem_names hr.srt n).2 hn)
    rw [getE_mem hr.srt.names ha]
    exact (hr.vals a ha).2

theorem chS_sub {k : Int} {has v x : List Str} (h : chS k has v = .inl x) : ∀ s, s ∈ x → s ∈ has ∨ s ∈ v := by
  intro s hs
  unfold chS at h
  split at h
  · split at h
    · cases h
    · cases h; exact List.mem_append.1 hs
  · split at h
    · split at h
      · cases h
      · cases h
        split at hs
        · simp at hs
        · exact .inl (List.mem_filter.1 hs).1
    · cases h; exact .inr hs

theorem stepS_right {e e' : List S50} {m : S48} (hr : RightE e) (hm : mayB m = true) (h : stepS e m = .inl e') : RightE e' := by
  simp only [mayB, Bool.and_eq_true, decide_eq_true_eq, List.all_eq_true] at hm
  obtain ⟨⟨⟨⟨h1, h2⟩, h3⟩, h4⟩, h5⟩ := hm
  unfold stepS at h
  split at h
  · cases h
  · rename_i x hx
    split at h
    · rename_i hc
      cases h
      refine setE_right hr (by rw [name_small]; exact h2) (small_small _) (U_rise x) hc.1 ?_ hc.2
      rw [List.all_eq_true]
      intro s hs
      rcases chS_sub hx s ((U_mem x s).1 hs) with h | h
      · exact List.all_eq_true.1 (getE_val hr _) s h
      · exact h4 s h
    · cases h

theorem may_kind {m : S48} (hm : mayB m = true) : m.fKind = 1 ∨ m.fKind = 2 ∨ m.fKind = 3 := by
  simp only [mayB, Bool.and_eq_true, decide_eq_true_eq] at hm
  omega

theorem may_name {m : S48} (hm : mayB m = true) : m.fName.length ≤ 64 := by
  simp only [mayB, Bool.and_eq_true, decide_eq_true_eq] at hm
  exact name_len hm.1.1.1.2

theorem may_vals {m : S48} (hm : mayB m = true) : m.fValues.length ≤ 16 := by
  simp only [mayB, Bool.and_eq_true, decide_eq_true_eq] at hm
  exact hm.1.1.2

theorem SzT.ch {e : List S50} (hr : RightE e) (k : Int) (n : Str) (v : List Str) (hn : n.length ≤ 1000000) (hv : v.length ≤ 16) : SzT (chT (tabS e) k n v).2 := by
  have hz := tabS_sz hr.sz
  have hg := gT_right hr.srt.names fun a ha => (hr.name a ha).2
  have hgl : ∀ m, (gT (tabS e) m).length ≤ 16 := fun m => by rw [hg]; exact getE_len (fun a ha => (hr.vals a ha).1) m
  have hl := tabS_len e
  have hl2 := hr.len
  have dl : ∀ (t : Tab), (mdel t n).length ≤ t.length ∧ ∀ q, q ∈ keysT (mdel t n) → q ∈ keysT t := by
    intro t
    induction t with
    | nil => simp [mdel, keysT]
    | cons p t ih =>
      simp only [mdel]
      split
      · exact ⟨by simp, fun q hq => by simp only [keysT, List.map_cons, List.mem_cons]; exact .inr hq⟩
      · refine ⟨by simp; exact ih.1, fun q hq => ?_⟩
        simp only [keysT, List.map_cons, List.mem_cons] at hq ⊢
        rcases hq with hq | hq
        · exact .inl hq
        · exact .inr (ih.2 q hq)
  unfold chT
  split
  · exact hz
  · rename_i x hx
    have hxl : x.length ≤ 32 := by
      have := hgl n
      unfold chS at hx
      split at hx
      · split at hx
        · cases hx
        · cases hx; rw [List.length_append]; omega
      · split at hx
        · split at hx
          · cases hx
          · cases hx
            split
            · simp
            · exact Nat.le_trans (List.length_filter_le _ _) (by omega)
        · cases hx; omega
    simp only
    split
    · refine ⟨Nat.le_trans (dl _).1 hz.len, fun q hq => hz.key q ((dl _).2 q hq), fun q => ?_⟩
      rw [gT_del (tabS_nodup e)]
      split
      · simp
      · exact hz.vals q
    · refine ⟨Nat.le_trans (set_len _ _ _) (by omega), fun q hq => ?_, fun q => ?_⟩
      · rcases (keys_set _ _ _ q).1 hq with rfl | hq
        · exact hn
        · exact hz.key q hq
      · rw [gT_set]
        split
        · omega
        · exact hz.vals q

theorem do_loop {step : List S50 × Int → Option ((List S50 × Int) ⊕ (List S50 ⊕ (List S50 × Int)))} (e : List S50) (l : List S48) (hr : RightE e) (hm : l.all mayB = true) (hl : l.length ≤ 1000000)
    (hs : ∀ (i : Nat) (h : i < l.length) (a : List S50), RightE a → mayB l[i] = true → step (a, (i : Int)) = some (match stepS a l[i] with | .inl a' => .inl (a', IntKind.i64.wrap ((i : Int) + 1)) | .inr w => .inr (.inr ([], w))))
    (hf : ∀ a, step (a, (l.length : Int)) = some (.inr (.inl a))) : ∃ y, loopO step (e, 0) = some y ∧ Sum.elim (fun a => (a, (0 : Int))) id y = runS e l := by
  rw [List.all_eq_true] at hm
  rw [loopO_run l (fun _ a m => match stepS a m with | .inl a' => .inl a' | .inr w => .inr (.inr ([], w))) .inl (fun i a => RightE a) (by omega) hr
    (fun i hi a hI => by
      rw [hs i hi a hI (hm _ (List.getElem_mem _))]
      cases stepS a l[i] <;> rfl)
    (fun i hi a a' hI h => by
      split at h
      · rename_i a2 h2
        simp only [Sum.inl.injEq] at h
        subst h
        exact stepS_right hI (hm _ (List.getElem_mem _)) h2
      · cases h)
    (fun a _ => hf a)]
  refine ⟨_, rfl, ?_⟩
  clear hs hf hm hr hl
  have key : ∀ (l : List S48) (i : Nat) (e : List S50), Sum.elim (fun a => (a, (0 : Int))) id (runI (fun _ (a : List S50) (m : S48) => match stepS a m with | .inl a' => .inl a' | .inr w => .inr (.inr (([] : List S50), w))) (.inl : List S50 → List S50 ⊕ (List S50 × Int)) i e l) = runS e l := by
    intro l
    induction l with
    | nil => intro i e; rfl
    | cons m l ih =>
      intro i e
      rw [runI_cons]
      unfold runS
      cases stepS e m with
      | inl a => exact ih (i + 1) a
      | inr w => rfl
  exact key l 0 e

theorem F14_eq (e : List S50) (l : List S48) (he : SzE e) (hl : SzM l) : F14 e l = some (doS e l) := by
  unfold F14 doS
  rw [F17_eq e he]
  simp only [Option.bind_some]
  by_cases h1 : rightB e = true
  · rw [if_pos h1, if_neg (by simp), F35_eq l hl]
    simp only [Option.bind_some]
    have hr := (right_iff e).1 h1
    by_cases h2 : l.all mayB = true
    · rw [if_neg (by simp only [h2, not_true, not_false_eq_true]), if_pos ⟨h1, h2⟩]
      have h28 : F28 e = some e := gd_pos ⟨by have := he.len; omega, fun a ha => by have := he.vals a ha; omega⟩
      rw [h28]
      simp only [Option.bind_some]
      obtain ⟨y, q1, q2⟩ := do_loop (step := fun (s : (List S50) × Int) => F14_b14 l s.1 s.2) e l hr h2 hl.len
        (fun i hi a hra hma => by
          have hlen := hl.len
          have hgl : (gT (tabS a) (smallS l[i].fName)).length ≤ 500000 := by
            rw [gT_right hra.srt.names fun a ha => (hra.name a ha).2]
            have := getE_len (fun a ha => (hra.vals a ha).1) (smallS l[i].fName)
            omega
          have hvl := may_vals hma
          have hnl := may_name hma
          have hgr := gT_right hra.srt.names (fun a ha => (hra.name a ha).2) (smallS l[i].fName)
          have k27 : ∀ (k : Int) (hk : l[i].fKind = k), (if ¬ (chT (tabS a) k (smallS l[i].fName) l[i].fValues).1 = 0 then some (.inr (.inr ([], (chT (tabS a) k (smallS l[i].fName) l[i].fValues).1))) else F14_k27 (i : Int) (chT (tabS a) k (smallS l[i].fName) l[i].fValues).2) = some (match stepS a l[i] with | .inl a' => .inl (a', IntKind.i64.wrap ((i : Int) + 1)) | .inr w => .inr (.inr ([], w))) := by
            intro k hk
            have hsz := SzT.ch hra k (smallS l[i].fName) l[i].fValues (by simp; omega) hvl
            unfold stepS
            rw [hk]
            cases hch : chS k (getE a (smallS l[i].fName)) l[i].fValues with
            | inr w =>
              have h0 := chS_ne _ _ _ _ hch
              have hT : chT (tabS a) k (smallS l[i].fName) l[i].fValues = (w, tabS a) := by unfold chT; rw [hgr, hch]
              rw [hT, if_pos h0]
            | inl x =>
              obtain ⟨c1, c2⟩ := ch_ent hra k _ _ _ hch
              have hT : (chT (tabS a) k (smallS l[i].fName) l[i].fValues).1 = 0 := by unfold chT; rw [hgr, hch]
              rw [hT, if_neg (by simp)]
              unfold F14_k27
              rw [F42_eq _ hsz, c1]
              simp only [Option.bind_some]
              by_cases hf : fitT (chT (tabS a) k (smallS l[i].fName) l[i].fValues).2 = true
              · rw [if_pos hf, if_pos (c2.1 hf)]
                simp
              · rw [if_neg hf, if_neg (fun h => hf (c2.2 h))]
                simp
          simp only [F14_b14]
          rw [if_pos (by omega), gd_pos (by omega), Int.toNat_natCast, F40_eq hra.sz]
          have hgi : l.getD i S48.zero = l[i] := getD_some hi _
          simp only [hgi, Option.bind_some]
          rw [F41_eq _ (by omega)]
          simp only [Option.bind_some]
          rw [F37_eq _ _ _ hgl (by omega), F38_eq _ _ _ hgl (by omega), F39_eq _ _ _ (by omega)]
          simp only [Option.bind_some]
          rcases may_kind hma with hk | hk | hk
          · rw [if_pos hk]; exact k27 1 hk
          · rw [if_neg (by rw [hk]; decide), if_pos hk]; exact k27 2 hk
          · rw [if_neg (by rw [hk]; decide), if_neg (by rw [hk]; decide), if_pos hk]; exact k27 3 hk)
        (fun a => by simp only [F14_b14]; rw [if_neg (by omega)])
      rw [q1]
      simp only [Option.bind_some, ← q2]
      cases y <;> rfl
    · rw [if_pos h2, if_neg (fun h => h2 h.2)]
  · rw [if_neg h1, if_pos (by simp), if_neg (fun h => h1 h.1)]

end Go.Idl

namespace Go.Idl

open Go

end Go.Idl

namespace Go.Idl

open Go

theorem F57_eq (a b : List S50) (ha : a.length ≤ 1000) (hb : b.length ≤ 1000) : F57 [a, b] = some (a ++ b) := by
  unfold F57
  rw [loopO_run [a, b] (fun _ (n : Int) (x : List S50) => .inl (n + x.length)) id (fun i n => 0 ≤ n ∧ n ≤ 1000 * i) (by simp) (by simp)
    (fun i hi n hI => by
      have h2 : ([a, b] : List (List S50))[i].length ≤ 1000 := by
        have := List.getElem_mem hi
        simp only [List.mem_cons, List.not_mem_nil, or_false] at this
        rcases this with e | e <;> rw [e] <;> assumption
      simp only [List.length_cons, List.length_nil] at hi
      simp only [F57_b5]
      rw [if_pos (by simp only [List.length_cons, List.length_nil]; omega), gd_pos (by simp only [List.length_cons, List.length_nil]; omega), Int.toNat_natCast, getD_some (by simp only [List.length_cons, List.length_nil]; omega)]
      have hw : IntKind.i64.wrap (n + (([a, b] : List (List S50))[i].length : Int)) = n + (([a, b] : List (List S50))[i].length : Int) := wrap_i64 (by omega) (by omega)
      rw [hw, if_neg (by omega)])
    (fun i hi n n' hI h => by
      have h2 : ([a, b] : List (List S50))[i].length ≤ 1000 := by
        have := List.getElem_mem hi
        simp only [List.mem_cons, List.not_mem_nil, or_false] at this
        rcases this with e | e <;> rw [e] <;> assumption
      simp only [Sum.inl.injEq] at h
      omega)
    (fun n _ => by simp only [F57_b5]; rw [if_neg (by omega)]; rfl)]
  rw [runI_inl]
  simp only [Option.bind_some, List.foldl_cons, List.foldl_nil, id, F57_k5]
  have h90 : F90 [] (0 + (a.length : Int) + (b.length : Int)) = some [] := gd_pos ⟨rfl, by omega, by omega⟩
  rw [h90]
  simp only [Option.bind_some]
  rw [loopO_run [a, b] (fun _ (o : List S50) (x : List S50) => .inl (o ++ x)) id (fun i o => o.length ≤ 1000 * i) (by simp) (by simp)
    (fun i hi n hI => by
      have h2 : ([a, b] : List (List S50))[i].length ≤ 1000 := by
        have := List.getElem_mem hi
        simp only [List.mem_cons, List.not_mem_nil, or_false] at this
        rcases this with e | e <;> rw [e] <;> assumption
      simp only [List.length_cons, List.length_nil] at hi
      simp only [F57_b14]
      rw [if_pos (by simp only [List.length_cons, List.length_nil]; omega), gd_pos (by simp only [List.length_cons, List.length_nil]; omega), Int.toNat_natCast, getD_some (by simp only [List.length_cons, List.length_nil]; omega), gd_pos (by omega)])
    (fun i hi n n' hI h => by
      have h2 : ([a, b] : List (List S50))[i].length ≤ 1000 := by
        have := List.getElem_mem hi
        simp only [List.mem_cons, List.not_mem_nil, or_false] at this
        rcases this with e | e <;> rw [e] <;> assumption
      simp only [Sum.inl.injEq] at h
      subst h
      rw [List.length_append]
      omega)
    (fun n _ => by simp only [F57_b14]; rw [if_neg (by omega)]; rfl)]
  rw [runI_inl]
  simp [F57_k14]

def dmS (a b : List S50) (n : Str) : Option S48 := if getE a n = getE b n then none else some ⟨if getE b n = [] then 2 else if getE a n = [] then 1 else 3, n, getE b n⟩

def namesS (a b : List S50) : List Str := U (a.map (·.fName) ++ b.map (·.fName))

def diffS (a b : List S50) : List S48 := (namesS a b).filterMap (dmS a b)

theorem tab_names {a b : List S50} (ha : RightE a) (hb : RightE b) : U (keysT (tabS (a ++ b))) = namesS a b := by
  refine U_congr fun n => ?_
  rw [tabS_keys]
  simp only [List.mem_append, List.mem_map]
  constructor
  · rintro ⟨x, hx | hx, rfl⟩
    · exact .inl ⟨x, hx, ((ha.name x hx).2).symm⟩
    · exact .inr ⟨x, hx, ((hb.name x hx).2).symm⟩
  · rintro (⟨x, hx, rfl⟩ | ⟨x, hx, rfl⟩)
    · exact ⟨x, .inl hx, (ha.name x hx).2⟩
    · exact ⟨x, .inr hx, (hb.name x hx).2⟩

theorem names_small {a b : List S50} (ha : RightE a) (hb : RightE b) {n : Str} (h : n ∈ namesS a b) : smallS n = n ∧ n.length ≤ 64 ∧ nameB n = true := by
  rw [namesS, U_mem] at h
  simp only [List.mem_append, List.mem_map] at h
  rcases h with ⟨x, hx, rfl⟩ | ⟨x, hx, rfl⟩
  · exact ⟨(ha.name x hx).2, name_len (ha.name x hx).1, (ha.name x hx).1⟩
  · exact ⟨(hb.name x hx).2, name_len (hb.name x hx).1, (hb.name x hx).1⟩

theorem sz_app {a b : List S50} (ha : RightE a) (hb : RightE b) : SzO (a ++ b) := by
  refine ⟨by have := ha.len; have := hb.len; rw [List.length_append]; omega, fun x hx => ?_, ?_⟩
  · rcases List.mem_append.1 hx with hx | hx
    · exact ha.sz.name x hx
    · exact hb.sz.name x hx
  · rw [List.map_append, List.flatten_append, List.length_append]
    have h1 := tot_le fun x hx => (ha.vals x hx).1
    have h2 := tot_le fun x hx => (hb.vals x hx).1
    have h3 := ha.len
    have h4 := hb.len
    have : a.length * 16 ≤ 24 * 16 := Nat.mul_le_mul_right _ h3
    have : b.length * 16 ≤ 24 * 16 := Nat.mul_le_mul_right _ h4
    omega

theorem F24_eq (a b : List S50) (ha : SzE a) (hb : SzE b) : F24 a b = some (if rightB a = true ∧ rightB b = true then (diffS a b, 0) else ([], 2)) := by
  unfold F24
  rw [F17_eq a ha, F17_eq b hb]
  simp only [Option.bind_some]
  by_cases h1 : rightB a = true
  · rw [if_pos h1, if_neg (by simp)]
    by_cases h2 : rightB b = true
    · rw [if_pos h2, if_neg (by simp), if_pos ⟨h1, h2⟩]
      have ra := (right_iff a).1 h1
      have rb := (right_iff b).1 h2
      rw [F57_eq a b (by have := ra.len; omega) (by have := rb.len; omega)]
      simp only [Option.bind_some]
      rw [F40_eq (sz_app ra rb)]
      simp only [Option.bind_some]
      have hz := tabS_sz (sz_app ra rb)
      have h58 : F58k (tabS (a ++ b)) = some (namesS a b) := by
        rw [← tab_names ra rb]
        exact gd_pos ⟨by have := hz.len; omega, fun p hp => by have := hz.key p.1 (List.mem_map_of_mem hp); omega⟩
      rw [h58]
      simp only [Option.bind_some]
      have hnl : (namesS a b).length ≤ 48 := by
        have h0 := U_len_le (a.map (·.fName) ++ b.map (·.fName))
        have h3 := ra.len
        have h4 := rb.len
        rw [List.length_append, List.length_map, List.length_map] at h0
        show (U (a.map (·.fName) ++ b.map (·.fName))).length ≤ 48
        omega
      rw [loopO_run (namesS a b) (fun _ (o : List S48) n => .inl (match dmS a b n with | none => o | some m => o ++ [m])) id (fun i o => o.length ≤ i) (by omega) (by simp)
        (fun i hi o hI => by
          obtain ⟨hs1, hs2, _⟩ := names_small ra rb (List.getElem_mem hi)
          simp only [F24_b17]
          rw [if_pos (by omega), gd_pos (by omega), Int.toNat_natCast, getD_some hi, F22_eq a _ ha (by omega), F22_eq b _ hb (by omega), hs1]
          simp only [Option.bind_some]
          have hga : (getE a (namesS a b)[i]).length ≤ 16 := getE_len (fun x hx => (ra.vals x hx).1) _
          rw [F60_eq _ _ (by omega)]
          simp only [Option.bind_some, dmS]
          by_cases g1 : getE a (namesS a b)[i] = getE b (namesS a b)[i]
          · rw [if_pos (by simp [g1]), if_pos g1]
          · rw [if_neg (by simp [g1]), if_neg g1]
            by_cases g2 : getE b (namesS a b)[i] = []
            · rw [if_pos (by simp [g2]), gd_pos (by simp only [List.length_cons, List.length_nil]; omega), if_pos g2]
            · rw [if_neg (by simpa using g2), if_neg g2]
              by_cases g3 : getE a (namesS a b)[i] = []
              · rw [if_pos (by simp [g3]), gd_pos (by simp only [List.length_cons, List.length_nil]; omega), if_pos g3]
              · rw [if_neg (by simpa using g3), gd_pos (by simp only [List.length_cons, List.length_nil]; omega), if_neg g3])
        (fun i hi o o' hI h => by
          simp only [Sum.inl.injEq] at h
          subst h
          split
          · omega
          · simp; omega)
        (fun o _ => by simp only [F24_b17]; rw [if_neg (by omega)]; rfl)]
      rw [runI_inl]
      have key : ∀ (l : List Str) (o : List S48), l.foldl (fun (o : List S48) n => match dmS a b n with | none => o | some m => o ++ [m]) o = o ++ l.filterMap (dmS a b) := by
        intro l
        induction l with
        | nil => intro o; simp
        | cons n l ih =>
          intro o
          rw [List.foldl_cons, ih, List.filterMap_cons]
          cases dmS a b n <;> simp
      rw [key]
      rfl
    · rw [if_neg h2, if_pos (by simp), if_neg (fun h => h2 h.2)]
  · rw [if_neg h1, if_pos (by simp), if_neg (fun h => h1 h.1)]

/-! ### How great things may be -/

theorem F34_ex (l : List Str) : ∃ q, F34 l 20 = some q ∧ (q.2 = true → l.length ≤ 20 ∧ ∀ s, s ∈ l → s.length ≤ 3000) := by
  unfold F34
  by_cases h : (20 : Int) < (l.length : Int)
  · rw [if_pos h]; exact ⟨_, rfl, fun h => by cases h⟩
  · rw [if_neg h]
    obtain ⟨r, h1, h2⟩ := loopO_for2 (step := fun (s : Int × Int) => F34_b9 l s.1 s.2) (a := (0 : Int)) (Post := fun r => (∃ n, r = .inl n ∧ ∀ s, s ∈ l → s.length ≤ 3000) ∨ r = .inr (0, false)) l.length (fun i _ => ∀ s, s ∈ l.take i → s.length ≤ 3000) (by simp)
      (fun i n hi hI => by
        simp only [F34_b9]
        rw [if_pos (by omega), gd_pos (by omega), Int.toNat_natCast, getD_some hi]
        by_cases h : 3000 < (l[i].length : Int)
        · rw [if_pos h]; exact .inr ⟨_, rfl, .inr rfl⟩
        · rw [if_neg h, wrap_nat (i := i) (by omega)]
          refine .inl ⟨_, rfl, fun s hs => ?_⟩
          rw [List.take_succ_eq_append_getElem hi, List.mem_append] at hs
          rcases hs with hs | hs
          · exact hI s hs
          · simp at hs; subst hs; omega)
      (fun n hI => by
        simp only [F34_b9]
        rw [if_neg (by omega)]
        rw [List.take_length] at hI
        exact ⟨_, rfl, .inl ⟨n, rfl, hI⟩⟩)
    rw [h1]
    rcases h2 with ⟨n, rfl, h2⟩ | rfl
    · exact ⟨_, rfl, fun _ => ⟨by omega, h2⟩⟩
    · exact ⟨_, rfl, fun h => by cases h⟩

structure LightE (e : List S50) : Prop where
  len : e.length ≤ 30
  name : ∀ a, a ∈ e → a.fName.length ≤ 200
  vals : ∀ a, a ∈ e → a.fValues.length ≤ 20
  val : ∀ a, a ∈ e → ∀ s, s ∈ a.fValues → s.length ≤ 3000

theorem F11_ex (e : List S50) : ∃ b, F11 e = some b ∧ (b = true → LightE e) := by
  unfold F11
  by_cases h : (30 : Int) < (e.length : Int)
  · rw [if_pos h]; exact ⟨_, rfl, fun h => by cases h⟩
  · rw [if_neg h]
    obtain ⟨r, h1, h2⟩ := loopO_for2 (step := fun (s : Int × Int) => F11_b9 e s.1 s.2) (a := (0 : Int)) (Post := fun r => (∃ n, r = .inl n ∧ ∀ a, a ∈ e → a.fName.length ≤ 200 ∧ a.fValues.length ≤ 20 ∧ ∀ s, s ∈ a.fValues → s.length ≤ 3000) ∨ r = .inr false) e.length (fun i _ => ∀ a, a ∈ e.take i → a.fName.length ≤ 200 ∧ a.fValues.length ≤ 20 ∧ ∀ s, s ∈ a.fValues → s.length ≤ 3000) (by simp)
      (fun i n hi hI => by
        obtain ⟨q, g1, g2⟩ := F34_ex e[i].fValues
        simp only [F11_b9]
        rw [if_pos (by omega), gd_pos (by omega), Int.toNat_natCast, getD_some hi, g1]
        simp only [Option.bind_some]
        by_cases h : q.2 = true
        · rw [if_neg (by simp [h])]
          by_cases h' : 200 < (e[i].fName.length : Int)
          · rw [if_pos h']; exact .inr ⟨_, rfl, .inr rfl⟩
          · rw [if_neg h', wrap_nat (i := i) (by omega)]
            refine .inl ⟨_, rfl, fun a ha => ?_⟩
            rw [List.take_succ_eq_append_getElem hi, List.mem_append] at ha
            rcases ha with ha | ha
            · exact hI a ha
            · simp at ha; subst ha; exact ⟨by omega, g2 h⟩
        · rw [if_pos h]; exact .inr ⟨_, rfl, .inr rfl⟩)
      (fun n hI => by
        simp only [F11_b9]
        rw [if_neg (by omega)]
        rw [List.take_length] at hI
        exact ⟨_, rfl, .inl ⟨n, rfl, hI⟩⟩)
    rw [h1]
    rcases h2 with ⟨n, rfl, h2⟩ | rfl
    · exact ⟨_, rfl, fun _ => ⟨by omega, fun a ha => (h2 a ha).1, fun a ha => (h2 a ha).2.1, fun a ha => (h2 a ha).2.2⟩⟩
    · exact ⟨_, rfl, fun h => by cases h⟩

theorem LightE.sz {e : List S50} (h : LightE e) : SzO e := by
  refine ⟨by have := h.len; omega, fun a ha => by have := h.name a ha; omega, ?_⟩
  have h1 := tot_le h.vals
  have h2 := h.len
  have : e.length * 20 ≤ 30 * 20 := Nat.mul_le_mul_right _ h2
  omega

end Go.Idl

namespace Go.Idl

open Go Go.Proofs Go.Shelf

def kL : List S50 := [⟨[77, 97, 105, 108], [[98], [97]]⟩, ⟨[67, 78], [[120]]⟩]

def kE : List S50 := [⟨[99, 110], [[120]]⟩, ⟨[109, 97, 105, 108], [[97], [98]]⟩]

def kE1 : List S50 := [⟨[99, 110], [[120], [121]]⟩, ⟨[109, 97, 105, 108], [[97], [98]]⟩]

def kO : List S50 := [⟨[99, 110], [[121]]⟩, ⟨[109, 97, 105, 108], [[97], [98]]⟩]

def kM : List S48 := [⟨1, [99, 110], [[121]]⟩, ⟨2, [99, 110], [[120]]⟩]

theorem kE_right : rightB kE = true := by decide

theorem kO_right : rightB kO = true := by decide

theorem kL_ok : kL.all okR = true := by decide

theorem kL_sz : SzO kL := ⟨by decide, by decide, by decide⟩

theorem kL_tab : tabS kL = [([109, 97, 105, 108], [[98], [97]]), ([99, 110], [[120]])] := by decide

theorem U_ba : U [[98], [97]] = ([[97], [98]] : List Str) := rise_uniq (U_rise _) (by decide) fun x => by rw [U_mem]; simp [or_comm]

theorem kL_get (n : Str) : getE kE n = vT (tabS kL) n := by
  rw [kL_tab]
  simp only [kE, getE, vT, gT, mget]
  by_cases h1 : ([109, 97, 105, 108] : Str) = n
  · subst h1
    rw [if_neg (by decide), if_pos rfl, if_pos rfl]
    exact U_ba.symm
  · rw [if_neg h1, if_neg h1]
    by_cases h2 : ([99, 110] : Str) = n
    · subst h2
      rw [if_pos rfl, if_pos rfl]
      exact (U_of_rise (by decide)).symm
    · rw [if_neg h2, if_neg h2]
      exact U_nil.symm

theorem kL_ent : entT (tabS kL) = kE := srt_uniq (entT_srt _) ((right_iff kE).1 kE_right).srt fun n => by rw [entT_get, kL_get]

theorem kL_order : orderS kL = (kE, 0) := by
  unfold orderS
  rw [if_pos kL_ok]
  have hf : fitT (tabS kL) = true := (fitT_iff _).2 ⟨fun n => by
    have h1 := U_len_le (gT (tabS kL) n)
    have h2 := gT_le n kL
    have h3 : (kL.map (·.fValues)).flatten.length = 3 := by decide
    show (U (gT (tabS kL) n)).length ≤ 16
    omega, by rw [kL_ent]; decide⟩
  rw [if_pos hf, kL_ent]

theorem k_step1 : stepS kE ⟨1, [99, 110], [[121]]⟩ = .inl kE1 := by
  have h1 : chS 1 (getE kE (smallS [99, 110])) [[121]] = .inl [[120], [121]] := by decide
  have hU : U [[120], [121]] = ([[120], [121]] : List Str) := U_of_rise (by decide)
  have hS : setE kE (smallS [99, 110]) [[120], [121]] = kE1 := by decide
  unfold stepS
  simp only [h1, hU, hS]
  rw [if_pos ⟨by decide, by decide⟩]

theorem k_step2 : stepS kE1 ⟨2, [99, 110], [[120]]⟩ = .inl kO := by
  have h1 : chS 2 (getE kE1 (smallS [99, 110])) [[120]] = .inl [[121]] := by decide
  have hU : U [[121]] = ([[121]] : List Str) := U_of_rise (by decide)
  have hS : setE kE1 (smallS [99, 110]) [[121]] = kO := by decide
  unfold stepS
  simp only [h1, hU, hS]
  rw [if_pos ⟨by decide, by decide⟩]

theorem k_do : doS kE kM = (kO, 0) := by
  unfold doS
  rw [if_pos ⟨kE_right, by decide⟩]
  simp only [kM, runS, k_step1, k_step2]

theorem k_names : namesS kE kO = [[99, 110], [109, 97, 105, 108]] := rise_uniq (U_rise _) (by decide) fun x => by
  rw [namesS, U_mem]
  simp [kE, kO]
  constructor
  · rintro (h | h | h | h) <;> simp [h]
  · rintro (h | h) <;> simp [h]

theorem k_diff : diffS kE kO = [⟨3, [99, 110], [[121]]⟩] := by
  unfold diffS
  rw [k_names]
  decide

theorem k_text : entryT kO = [99, 110, 32, 49, 10, 49, 32, 121, 10, 109, 97, 105, 108, 32, 50, 10, 49, 32, 97, 10, 49, 32, 98, 10] := by
  have d1 : Lib.decDigits 1 = [49] := by unfold Lib.decDigits; rfl
  have d2 : Lib.decDigits 2 = [50] := by unfold Lib.decDigits; rfl
  simp [kO, entryT, attrT, headT, valT, d1, d2]

theorem F13_eq : F13 = some true := by
  have szE : ∀ {e : List S50}, rightB e = true → SzE e := fun h => ((right_iff _).1 h).sz.sz
  have h19 : F19 [⟨[77, 97, 105, 108], [[98], [97]]⟩, ⟨[67, 78], [[120]]⟩] = some (kE, 0) := by
    have := F19_eq kL kL_sz
    rw [kL_order] at this
    exact this
  have h14 : F14 kE [⟨1, [99, 110], [[121]]⟩, ⟨2, [99, 110], [[120]]⟩] = some (kO, 0) := by
    have := F14_eq kE kM (szE kE_right) ⟨by decide, by decide, by decide⟩
    rw [k_do] at this
    exact this
  have h24 : F24 kE kO = some ([⟨3, [99, 110], [[121]]⟩], 0) := by
    rw [F24_eq kE kO (szE kE_right) (szE kO_right), if_pos ⟨kE_right, kO_right⟩, k_diff]
  have h30 : F30 kO = some (entryT kO, 0) := by
    unfold F30
    rw [gd_pos ⟨by decide, by decide, by decide, by decide⟩, F17_eq kO (szE kO_right), if_pos kO_right]
    rfl
  unfold F13
  rw [h19]
  simp only [Option.bind_some]
  rw [h14]
  simp only [Option.bind_some]
  rw [h24]
  simp only [Option.bind_some]
  rw [h30]
  simp only [Option.bind_some, if_true, List.length_cons, List.length_nil, List.getD_cons_zero]
  rw [k_text]
  simp [gd]

theorem entT_right {l : List S50} (ho : l.all okR = true) (hf : fitT (tabS l) = true) : RightE (entT (tabS l)) := by
  rw [List.all_eq_true] at ho
  obtain ⟨f1, f2⟩ := (fitT_iff _).1 hf
  have hsrt := entT_srt (tabS l)
  have hmem : ∀ a, a ∈ entT (tabS l) → ∃ b, b ∈ l ∧ smallS b.fName = a.fName := by
    intro a ha
    obtain ⟨h1, _⟩ := List.mem_filter.1 ha
    obtain ⟨n, hn, rfl⟩ := List.mem_map.1 h1
    exact (tabS_keys n l).1 ((U_mem _ _).1 hn)
  have hval : ∀ a, a ∈ entT (tabS l) → a.fValues = vT (tabS l) a.fName := by
    intro a ha
    rw [← entT_get, getE_mem hsrt.names ha]
  refine ⟨hsrt, fun a ha => ?_, fun a ha => ?_, f2⟩
  · obtain ⟨b, hb, e⟩ := hmem a ha
    have := ho b hb
    simp only [okR, Bool.and_eq_true] at this
    rw [← e]
    exact ⟨by rw [name_small]; exact this.1, small_small _⟩
  · rw [hval a ha]
    refine ⟨f1 _, ?_⟩
    rw [List.all_eq_true]
    intro s hs
    rw [vT, U_mem, tabS_get] at hs
    obtain ⟨b, hb, hs⟩ := List.mem_flatMap.1 hs
    have := ho b (List.mem_filter.1 hb).1
    simp only [okR, Bool.and_eq_true] at this
    exact List.all_eq_true.1 this.2 s hs

theorem order_right {l : List S50} (h : (orderS l).2 = 0) : RightE (orderS l).1 := by
  unfold orderS at h ⊢
  split
  · rename_i ho
    split
    · rename_i hf
      exact entT_right ho hf
    · rename_i hf
      rw [if_pos ho, if_neg hf] at h
      cases h
  · rename_i ho
    rw [if_neg ho] at h
    cases h

theorem order_sz (l : List S50) : SzE (orderS l).1 := by
  by_cases h : (orderS l).2 = 0
  · exact (order_right h).sz.sz
  · have : (orderS l).1 = [] := by
      unfold orderS at h ⊢
      split
      · rename_i ho
        split
        · rename_i hf
          rw [if_pos ho, if_pos hf] at h
          exact absurd rfl h
        · rfl
      · rfl
    rw [this]
    exact ⟨by simp, by simp, by simp⟩

theorem F4_eq (l : List S50) (n : Str) : F4 l n = some true := by
  unfold F4
  obtain ⟨b, h1, h2⟩ := F11_ex l
  rw [h1, F13_eq]
  simp only [Option.bind_some]
  by_cases hb : b = true
  · rw [if_neg (by simp [hb])]
    by_cases hn : 200 < (n.length : Int)
    · rw [if_pos hn]
    · rw [if_neg hn]
      have so := (h2 hb).sz
      rw [F19_eq l so, F20_eq l so]
      simp only [Option.bind_some, not_true, if_false]
      rw [F16_eq _ _ (order_sz l)]
      simp only [Option.bind_some, decide_true, not_true, if_false]
      by_cases h0 : (orderS l).2 = 0
      · have hr := order_right h0
        have h17 := F17_eq _ hr.sz.sz
        rw [if_pos ((right_iff _).2 hr)] at h17
        have h22 := F22_eq _ n hr.sz.sz (by omega)
        have h23 := F23_eq (orderS l).1 n hr.sz.len (by omega)
        have h21 := F21_eq (getE (orderS l).1 (smallS n)) (getE (orderS l).1 (smallS n)) (by
          have := getE_len (fun a ha => (hr.vals a ha).1) (smallS n)
          omega)
        simp [h0, h17, h22, h23, h21]
      · simp [h0]
  · rw [if_pos hb]

end Go.Idl

namespace Go.Idl

open Go Go.RowKit Go.ChangeShapes Go.WideShapes

def g0 : Gs := { oth := fun _ => False, mu := fun _ => undef, sh := fun _ => none, nx := 0 }

def H0 : IHeap := { next := 0, obj := fun _ => none, sn := [] }

theorem ow0 (b : Nat) : ¬ g0.ow b := by
  rintro (h | ⟨k, h, _⟩)
  · exact h
  · cases h

theorem sim0 (w : World) : Sim w g0 H0 where
  nx := rfl
  sh := fun _ => rfl
  lt := fun k h => by cases h
  bk := fun k b h => by cases h
  inj := fun k k' b h => by cases h
  obj := fun k o h => by cases h
  old := fun b h => h.elim
  snap := fun p h => by cases h

theorem below_of_mono {w w' : World} {g' : Gs} (m : Mono w g0 w' g') : Below w.heap.size w w' :=
  ⟨m.os, m.tape, m.output, m.size, fun k hk => m.keep k hk fun ⟨i, h, _⟩ => by cases h⟩

variable {P : Program} {w : World} {Hh : Type} {enc : TypeId × Value → Hh}

def Rd (P : Program) (w : World) {Hh : Type} (enc : TypeId × Value → Hh) (t : TypeId) (S : List IV → Prop) : Prop :=
  ∀ (base : Nat) (spare : Nat → Bool) (held : Bool) (fuel : Nat) (cs : List Value) (x : DataW Hh × List MemPlace), DataW.trod enc P w base spare held fuel t cs = some x →
    ∃ is, S is ∧ is.length = cs.length ∧ ∀ (j : Nat) (c : Value) (i : IV), cs[j]? = some c → is[j]? = some i → c.oneCell' = true ∧ R w g0 c i

theorem rd_one {c : Value} {i : IV} (ho : c.oneCell' = true) (hr : R w g0 c i) : ∀ (j : Nat) (c' : Value) (i' : IV), [c][j]? = some c' → [i][j]? = some i' → c'.oneCell' = true ∧ R w g0 c' i' := by
  intro j c' i' h1 h2
  cases j with
  | zero => simp at h1 h2; subst h1; subst h2; exact ⟨ho, hr⟩
  | succ j => simp at h1

theorem Rd_string {t : TypeId} (hu : P.underlying t = some .string) : Rd P w enc t fun is => ∃ s : List UInt8, is = [.v (str s)] := by
  intro base spare held fuel cs x h
  obtain ⟨s, rfl, _, _⟩ := DataW.trod_string hu h
  refine ⟨_, ⟨bytes s, rfl⟩, rfl, rd_one rfl ?_⟩
  rw [show str (bytes s) = .string s by rw [str, mk_bytes]]
  exact .v _

theorem choose_list {E : Type} (Pr : Nat → E → Prop) : ∀ n : Nat, (∀ i, i < n → ∃ x, Pr i x) → ∃ l : List E, l.length = n ∧ ∀ (i : Nat) (x : E), l[i]? = some x → Pr i x
  | 0, _ => ⟨[], rfl, by simp⟩
  | n + 1, h => by
    obtain ⟨l, h1, h2⟩ := choose_list Pr n fun i hi => h i (by omega)
    obtain ⟨x, hx⟩ := h n (by omega)
    refine ⟨l ++ [x], by simp [h1], fun i y hy => ?_⟩
    rcases Nat.lt_or_ge i n with hi | hi
    · rw [List.getElem?_append_left (by omega)] at hy
      exact h2 i y hy
    · rw [List.getElem?_append_right (by omega)] at hy
      have e : i = n := by
        have := (List.getElem?_eq_some_iff.1 hy).1
        simp at this; omega
      subst e
      simp [h1] at hy
      subst hy
      exact hx

theorem cells_get {base : Nat} {a : Addr} : ∀ {n : Nat} {cs : List Value}, w.cells? base a n = some cs → cs.length = n ∧ ∀ j, j < n → w.cell? (a.add j) = cs[j]? := by
  intro n cs h
  unfold World.cells? at h
  split at h
  · refine ⟨?_, fun j hj => ?_⟩
    · have := mapM_some_length h
      simpa using this
    · exact mapM_some_get h j j (by simp [hj])
  · cases h

theorem Rd_slice {t e : TypeId} {E : Type} (cells : E → List IV) (hu : P.underlying t = some (.slice e)) (h0 : 0 < P.cellsOf e) (he : Rd P w enc e fun is => ∃ x : E, is = cells x) :
    Rd P w enc t fun is => ∃ l : List E, is = [.sl (P.cellsOf e) (l.map cells)] := by
  intro base spare held fuel cs x h
  rcases DataW.trod_slice hu h with ⟨rfl, _⟩ | ⟨a, len, cap, elems, rest, n, _, rfl, _, hb, hl, hm, hlen, hel, _, _⟩
  · exact ⟨_, ⟨[], rfl⟩, rfl, rd_one rfl (.sl0 _ _ _)⟩
  · obtain ⟨l, l1, l2⟩ := choose_list (fun i (y : E) => (cells y).length = P.cellsOf e ∧ ∀ (j : Nat) (i' : IV), (cells y)[j]? = some i' → ∃ c, w.cell? ((a.add (i * P.cellsOf e)).add j) = some c ∧ c.oneCell' = true ∧ R w g0 c i') len (fun i hi => by
      have hei := hel i hi
      have hne : elems[i]? = some elems[i] := List.getElem?_eq_getElem (by omega)
      rw [hne, Option.bind_eq_some_iff] at hei
      obtain ⟨ci, hc, ht⟩ := hei
      obtain ⟨q1, q2⟩ := cells_get hc
      obtain ⟨is, ⟨y, rfl⟩, q3, q4⟩ := he _ _ _ _ _ _ ht
      refine ⟨y, by rw [q3, q1], fun j i' hj => ?_⟩
      have hjl : j < ci.length := by rw [← q3]; exact (List.getElem?_eq_some_iff.1 hj).1
      have := q4 j ci[j] i' (List.getElem?_eq_getElem hjl) hj
      exact ⟨ci[j], by rw [q2 j (by omega)]; exact List.getElem?_eq_getElem hjl, this⟩)
    refine ⟨_, ⟨l, rfl⟩, rfl, rd_one rfl ?_⟩
    by_cases hz : len = 0
    · subst hz
      have : l = [] := List.eq_nil_of_length_eq_zero l1
      subst this
      exact .sl0 _ _ _
    · have hlm : (l.map cells).length = len := by simp [l1]
      have h0l : 0 < l.length := by omega
      obtain ⟨q1, q2⟩ := l2 0 l[0] (List.getElem?_eq_getElem h0l)
      have hpos : 0 < (cells l[0]).length := by omega
      obtain ⟨c0, q3, _⟩ := q2 0 _ (List.getElem?_eq_getElem hpos)
      obtain ⟨b, off, spot⟩ := a
      have hsp : spot = none ∧ b < w.heap.size := by
        have e0 : ((⟨b, off, spot⟩ : Addr).add (0 * P.cellsOf e)).add 0 = ⟨b, off, spot⟩ := by simp [Addr.add]
        rw [e0] at q3
        unfold World.cell? at q3
        split at q3
        · rename_i hh
          refine ⟨?_, (Array.getElem?_eq_some_iff.1 hh).1⟩
          split at q3
          · cases q3
          · rename_i hs
            simpa using hs
        · cases q3
      obtain ⟨rfl, hlt⟩ := hsp
      rw [← hlm]
      refine .sl b off cap _ _ (fun i j => (w.cell? ⟨b, off + i * P.cellsOf e + j, none⟩).getD undef) (ow0 b) hlt (by rw [hlm]; have hm' : cap ≤ 9223372036854775807 := hm; unfold maxN; omega) (by omega) ?_ ?_ ?_ ?_
      · intro c hc
        obtain ⟨y, hy, rfl⟩ := List.mem_map.1 hc
        obtain ⟨i, hi⟩ := List.getElem?_of_mem hy
        exact (l2 i y hi).1
      all_goals
        intro i ee j c h1 h2
        simp only [List.getElem?_map, Option.map_eq_some_iff] at h1
        obtain ⟨y, hy, rfl⟩ := h1
        obtain ⟨c', r1, r2, r3⟩ := (l2 i y hy).2 j c h2
        rw [addr_add, addr_add] at r1
        first | (rw [r1]; rfl) | (simp only [r1, Option.getD_some]; first | exact r2 | exact r3)

theorem Rd.one {t : TypeId} {v : Value} {d : DataW Hh} {ps : List MemPlace} {S : List IV → Prop} {base : Nat} {spare : Nat → Bool} {held : Bool} (h : Rd P w enc t S) (hv : v.cells = #[v]) (hd : DataW.Trod enc P w base spare held t v d ps) : ∃ i, S [i] ∧ R w g0 v i := by
  obtain ⟨fuel, hf⟩ := hd
  obtain ⟨is, h1, h2, h3⟩ := h _ _ _ _ _ _ hf
  rw [hv] at h2 h3
  match is, h2, h1, h3 with
  | [i], _, h1, h3 => exact ⟨i, h1, (h3 0 v i rfl rfl).2⟩

theorem Rd.agg {t : TypeId} {cs : Array Value} {d : DataW Hh} {ps : List MemPlace} {S : List IV → Prop} {base : Nat} {spare : Nat → Bool} {held : Bool} (h : Rd P w enc t S) (hd : DataW.Trod enc P w base spare held t (.agg cs) d ps) : ∃ is, S is ∧ R w g0 (.agg cs) (.ag is) := by
  obtain ⟨fuel, hf⟩ := hd
  obtain ⟨is, h1, h2, h3⟩ := h _ _ _ _ _ _ hf
  have hcs : (Value.agg cs).cells.toList = cs.toList := rfl
  rw [hcs] at h2 h3
  refine ⟨is, h1, .ag cs is (by simpa using h2.symm) (fun j x hx => ?_) fun j x c hx hc => (h3 j x c (by simpa using hx) hc).2⟩
  have hlt : j < is.length := by
    have := (Array.getElem?_eq_some_iff.1 hx).1
    rw [h2]; simpa using this
  exact (h3 j x is[j] (by simpa using hx) (List.getElem?_eq_getElem hlt)).1

end Go.Idl

namespace Go.Idl

open Go Go.RowKit Go.ChangeShapes Go.WideShapes

variable {P : Program} {w : World} {Hh : Type} {enc : TypeId × Value → Hh}

theorem Rd_struct2 {t : TypeId} {f0 f1 : Field} {A B : Type} (a : A → IV) (b : B → IV) (ht : P.underlying t = some (.struct #[f0, f1])) (hc : P.cellsOf t = 2) (o0 : f0.offset = 0) (o1 : f1.offset = 1) (c0 : P.cellsOf f0.type = 1) (c1 : P.cellsOf f1.type = 1)
    (h0 : Rd P w enc f0.type fun is => ∃ x : A, is = [a x]) (h1 : Rd P w enc f1.type fun is => ∃ x : B, is = [b x]) : Rd P w enc t fun is => ∃ (x : A) (y : B), is = [a x, b y] := by
  intro base spare held fuel cs x h
  obtain ⟨xs, n, _, rfl, hl, hlen, hf⟩ := DataW.trod_struct ht h
  rw [hc] at hl
  match cs, hl with
  | [u, v], _ =>
    have q0 := hf 0 f0 rfl
    have q1 := hf 1 f1 rfl
    rw [o0, c0] at q0
    rw [o1, c1] at q1
    simp only [List.drop_zero, List.drop_succ_cons, List.take_succ_cons, List.take_zero] at q0 q1
    match xs, hlen, q0, q1 with
    | [x0, x1], _, q0, q1 =>
      obtain ⟨is0, ⟨p, rfl⟩, _, r0⟩ := h0 _ _ _ _ _ _ (by simpa using q0)
      obtain ⟨is1, ⟨q, rfl⟩, _, r1⟩ := h1 _ _ _ _ _ _ (by simpa using q1)
      refine ⟨_, ⟨p, q, rfl⟩, rfl, fun j c i e1 e2 => ?_⟩
      match j, e1, e2 with
      | 0, e1, e2 => exact r0 0 c i (by simpa using e1) (by simpa using e2)
      | 1, e1, e2 => exact r1 0 c i (by simpa using e1) (by simpa using e2)
      | j + 2, e1, e2 => simp at e1

end Go.Idl
