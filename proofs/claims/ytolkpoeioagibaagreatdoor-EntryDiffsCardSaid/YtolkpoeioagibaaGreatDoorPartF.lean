/- An entry behind its difference to another one is that one. Part 6. Conditions: none. -/
import Derived.Test.YtolkpoeioagibaaGreatDoorPartE
import Derived.Sort.Walk0
set_option linter.unusedSimpArgs false
set_option linter.unusedVariables false

namespace Go.Idl

open Go Go.Proofs.Tryz

/-! cardcase/cardcaseref06.Name -/

noncomputable def F49_k12  : Option Bool :=
 some true

noncomputable def F49_b12 (a0 : List UInt8) (v13 : Int) : Option (Int ⊕ (Unit ⊕ Bool)) :=
 if v13 < (a0.length : Int) then (gd (0 ≤ v13 ∧ v13 < a0.length) ((F87 (((a0.getD v13.toNat 0).toNat : Int))).bind fun (x21 : Bool) => if ¬ (x21 = true) then (if (((a0.getD v13.toNat 0).toNat : Int)) < 48 then (if ¬ (((a0.getD v13.toNat 0).toNat : Int)) = 45 then (some (.inr (.inr false))) else (some (.inl (IntKind.i64.wrap (v13 + 1))))) else (if 57 < (((a0.getD v13.toNat 0).toNat : Int)) then (if ¬ (((a0.getD v13.toNat 0).toNat : Int)) = 45 then (some (.inr (.inr false))) else (some (.inl (IntKind.i64.wrap (v13 + 1))))) else (some (.inl (IntKind.i64.wrap (v13 + 1)))))) else (some (.inl (IntKind.i64.wrap (v13 + 1)))))) else (some (.inr (.inl ())))

noncomputable def F49 (a0 : List UInt8) : Option Bool :=
 if (a0.length : Int) < 1 then (some false) else (if 64 < (a0.length : Int) then (some false) else (gd (0 < a0.length) ((F87 (((a0.getD 0 0).toNat : Int))).bind fun (x7 : Bool) => if ¬ (x7 = true) then (some false) else ((loopO (fun (s : Int) => F49_b12 a0 s) 0).bind fun y => Sum.elim (fun (e : Unit) => F49_k12) (fun (q : Bool) => some q) y))))

set_option maxHeartbeats 8000000 in
set_option pp.deepTerms false in
set_option maxRecDepth 60000 in
theorem F49_ok {H : IHeap} {K : IEnd → IHeap → Prop} (a0 : List UInt8) {r : Bool} (h : F49 a0 = some r) (hK : K (.ret (.v (.bool r))) H) : ICalls prog 49 [.v (str a0)] H K := by
 refine ICalls_iwp (N := 47) func49 (by kernel_rfl) rfl (by kernel_rfl) (by kernel_rfl) fun cb hcb hw hbd hnb => ?_
 clear hbd hnb
 subst hcb
 unfold F49 at h
 refine IWp_seqF fun cb hc1 => ?_
 refine vcK ?_
 try simp -implicitDefEqProofs (maxSteps := 1000000) (disch := omega) [go_sem]
 subst hc1
 refine IWp_seqF fun cb hc2 => ?_
 refine IWp_seqF fun cb hc3 => ?_
 refine vcK ?_
 try simp -implicitDefEqProofs (maxSteps := 1000000) (disch := omega) [go_sem]
 refine splitG_f h (by first | with_reducible rfl | (simp -implicitDefEqProofs (maxSteps := 1000000) (disch := omega) [go_sem] <;> omega)) ?_ ?_
 ·intro c30 h
  try simp -implicitDefEqProofs (disch := omega) at c30
  try simp -implicitDefEqProofs (maxSteps := 1000000) (disch := omega) [go_sem]
  subst hc3
  refine IWp_cond_t (by first | with_reducible rfl | (simp -implicitDefEqProofs (maxSteps := 1000000) (disch := omega) [go_sem] <;> omega)) rfl ?_
  refine IWp_seqF fun cb hc4 => ?_
  refine vcK ?_
  try simp -implicitDefEqProofs (maxSteps := 1000000) (disch := omega) [go_sem]
  subst hc4
  refine vcK ?_
  simp -implicitDefEqProofs only [go_sem]
  have er := Option.some.inj h
  subst er
  try simp -implicitDefEqProofs (maxSteps := 1000000) (disch := omega) [go_sem]
  refine retG_pureA (Ext.refl hw) hK (e := by first | with_reducible rfl | (simp -implicitDefEqProofs (maxSteps := 1000000) (disch := omega) [go_sem] <;> omega))
 ·intro c30 h
  try simp -implicitDefEqProofs (disch := omega) at c30
  try simp -implicitDefEqProofs (maxSteps := 1000000) (disch := omega) [go_sem]
  refine splitG_f h (by first | with_reducible rfl | (simp -implicitDefEqProofs (maxSteps := 1000000) (disch := omega) [go_sem] <;> omega)) ?_ ?_
  ·intro c29 h
   try simp -implicitDefEqProofs (disch := omega) at c29
   try simp -implicitDefEqProofs (maxSteps := 1000000) (disch := omega) [go_sem]
   subst hc3
   refine IWp_cond_t (by first | with_reducible rfl | (simp -implicitDefEqProofs (maxSteps := 1000000) (disch := omega) [go_sem] <;> omega)) rfl ?_
   refine IWp_seqF fun cb hc5 => ?_
   refine vcK ?_
   try simp -implicitDefEqProofs (maxSteps := 1000000) (disch := omega) [go_sem]
   subst hc5
   refine vcK ?_
   simp -implicitDefEqProofs only [go_sem]
   have er := Option.some.inj h
   subst er
   try simp -implicitDefEqProofs (maxSteps := 1000000) (disch := omega) [go_sem]
   refine retG_pureA (Ext.refl hw) hK (e := by first | with_reducible rfl | (simp -implicitDefEqProofs (maxSteps := 1000000) (disch := omega) [go_sem] <;> omega))
  ·intro c29 h
   try simp -implicitDefEqProofs (disch := omega) at c29
   obtain ⟨g6, h⟩ := gd_some.1 h
   try simp -implicitDefEqProofs (disch := omega) at g6
   try simp -implicitDefEqProofs (maxSteps := 1000000) (disch := omega) [go_sem]
   obtain ⟨x7, hx7, h⟩ := bind_some' h
   refine ICalls.eqA (args' := [.v (.int .u8 (((a0.getD 0 0).toNat : Int)))]) (by first | with_reducible rfl | (simp -implicitDefEqProofs (maxSteps := 1000000) (disch := omega) [go_sem] <;> omega)) (F87_ok (((a0.getD 0 0).toNat : Int)) hx7 ?_)
   try simp -implicitDefEqProofs (maxSteps := 1000000) (disch := omega) [go_sem]
   subst hc3
   refine IWp_cond_i h (by first | with_reducible rfl | (simp -implicitDefEqProofs (maxSteps := 1000000) (disch := omega) [go_sem] <;> omega)) rfl ?_ ?_
   ·intro c8 h
    try simp -implicitDefEqProofs (disch := omega) at c8
    refine IWp_seqF fun cb hc9 => ?_
    refine vcK ?_
    try simp -implicitDefEqProofs (maxSteps := 1000000) (disch := omega) [go_sem]
    subst hc9
    refine vcK ?_
    simp -implicitDefEqProofs only [go_sem]
    have er := Option.some.inj h
    subst er
    try simp -implicitDefEqProofs (maxSteps := 1000000) (disch := omega) [go_sem]
    refine retG_pureA (Ext.refl hw) hK (e := by first | with_reducible rfl | (simp -implicitDefEqProofs (maxSteps := 1000000) (disch := omega) [go_sem] <;> omega))
   ·intro c8 h
    try simp -implicitDefEqProofs (disch := omega) at c8
    refine vcK ?_
    simp -implicitDefEqProofs only [go_sem]
    subst hc2
    refine IWp_seqF fun cb hc10 => ?_
    refine IWp_seqF fun cb hc11 => ?_
    refine vcK ?_
    try simp -implicitDefEqProofs (maxSteps := 1000000) (disch := omega) [go_sem]
    subst hc11
    obtain ⟨y12, hl12q, hk12⟩ := bind_some' h
    refine IWp_tailC (fun tm' H' => .inl () = y12 ∧ H = H') ?_ fun cb hc12 => ?_
    ·rintro tm12e H12e ⟨rfl, rfl⟩
     have h : F49_k12 = some r := hk12
     unfold F49_k12 at h
     simp -implicitDefEqProofs only [go_sem]
     subst hc10
     refine IWp_seqF fun cb hc14 => ?_
     refine vcK ?_
     try simp -implicitDefEqProofs (maxSteps := 1000000) (disch := omega) [go_sem]
     subst hc14
     refine vcK ?_
     simp -implicitDefEqProofs only [go_sem]
     have er := Option.some.inj h
     subst er
     try simp -implicitDefEqProofs (maxSteps := 1000000) (disch := omega) [go_sem]
     refine retG_pureA (Ext.refl hw) hK (e := by first | with_reducible rfl | (simp -implicitDefEqProofs (maxSteps := 1000000) (disch := omega) [go_sem] <;> omega))
    ·refine IWp_block ?_
     refine IWp_loopF (fun (s : Int) tm' H' => H = H' ∧ tm' 0 = .v (str a0) ∧ tm' 3 = .v (.int .i64 s)) hl12q ?_ ?_
     ·refine .same ⟨rfl, ?_, ?_⟩ <;> first | with_reducible rfl | with_reducible assumption | (simp -implicitDefEqProofs (maxSteps := 1000000) (disch := omega) [go_sem] <;> omega)
     ·rintro I12 hI12 v13 x12 tm12 H12 ⟨rfl, t0_12, t3_12⟩ h hret12
      replace h : F49_b12 a0 v13 = some x12 := h
      unfold F49_b12 at h
      refine IWp_seqF fun cb hc15 => ?_
      refine IWp_seqF fun cb hc16 => ?_
      refine vcK ?_
      try simp -implicitDefEqProofs (maxSteps := 1000000) (disch := omega) [go_sem, t0_12, t3_12]
      subst hc16
      refine IWp_cond_i h (by first | with_reducible rfl | (simp -implicitDefEqProofs (maxSteps := 1000000) (disch := omega) [go_sem, t0_12, t3_12] <;> omega)) rfl ?_ ?_
      ·intro c17 h
       try simp -implicitDefEqProofs (disch := omega) at c17
       refine vcK ?_
       simp -implicitDefEqProofs only [go_sem]
       subst hc15
       refine IWp_seqF fun cb hc18 => ?_
       refine IWp_block ?_
       refine IWp_seqF fun cb hc19 => ?_
       refine vcK ?_
       obtain ⟨g20, h⟩ := gd_some.1 h
       try simp -implicitDefEqProofs (disch := omega) at g20
       try simp -implicitDefEqProofs (maxSteps := 1000000) (disch := omega) [go_sem, t0_12, t3_12]
       obtain ⟨x21, hx21, h⟩ := bind_some' h
       refine ICalls.eqA (args' := [.v (.int .u8 (((a0.getD v13.toNat 0).toNat : Int)))]) (by first | with_reducible rfl | (simp -implicitDefEqProofs (maxSteps := 1000000) (disch := omega) [go_sem, t0_12, t3_12] <;> omega)) (F87_ok (((a0.getD v13.toNat 0).toNat : Int)) hx21 ?_)
       try simp -implicitDefEqProofs (maxSteps := 1000000) (disch := omega) [go_sem, t0_12, t3_12]
       refine splitG_f h (by first | with_reducible rfl | (simp -implicitDefEqProofs (maxSteps := 1000000) (disch := omega) [go_sem, t0_12, t3_12] <;> omega)) ?_ ?_
       ·intro c28 h
        try simp -implicitDefEqProofs (disch := omega) at c28
        try simp -implicitDefEqProofs (maxSteps := 1000000) (disch := omega) [go_sem, t0_12, t3_12]
        refine splitG_f h (by first | with_reducible rfl | (simp -implicitDefEqProofs (maxSteps := 1000000) (disch := omega) [go_sem, t0_12, t3_12] <;> omega)) ?_ ?_
        ·intro c27 h
         try simp -implicitDefEqProofs (disch := omega) at c27
         try simp -implicitDefEqProofs (maxSteps := 1000000) (disch := omega) [go_sem, t0_12, t3_12]
         subst hc19
         refine IWp_cond_i h (by first | with_reducible rfl | (simp -implicitDefEqProofs (maxSteps := 1000000) (disch := omega) [go_sem, t0_12, t3_12] <;> omega)) rfl ?_ ?_
         ·intro c22 h
          try simp -implicitDefEqProofs (disch := omega) at c22
          refine IWp_seqF fun cb hc23 => ?_
          refine vcK ?_
          try simp -implicitDefEqProofs (maxSteps := 1000000) (disch := omega) [go_sem, t0_12, t3_12]
          subst hc23
          refine vcK ?_
          simp -implicitDefEqProofs only [go_sem]
          have e12 := Option.some.inj h
          subst e12
          have e12 := hret12 _ rfl
          subst e12
          replace h : some false = some r := hk12
          have er := Option.some.inj h
          subst er
          try simp -implicitDefEqProofs (maxSteps := 1000000) (disch := omega) [go_sem, t0_12, t3_12]
          refine retG_pureA (Ext.refl hw) hK (e := by first | with_reducible rfl | (simp -implicitDefEqProofs (maxSteps := 1000000) (disch := omega) [go_sem, t0_12, t3_12] <;> omega))
         ·intro c22 h
          try simp -implicitDefEqProofs (disch := omega) at c22
          refine vcK ?_
          simp -implicitDefEqProofs only [go_sem]
          subst hc18
          refine vcK ?_
          try simp -implicitDefEqProofs (maxSteps := 1000000) (disch := omega) [go_sem, t0_12, t3_12]
          have e12 := Option.some.inj h
          subst e12
          refine loopN_mk hI12 (IntKind.i64.wrap (v13 + 1)) ?_
          refine .same ⟨rfl, ?_, ?_⟩ <;> first | with_reducible rfl | with_reducible assumption | (simp -implicitDefEqProofs (maxSteps := 1000000) (disch := omega) [go_sem, t0_12, t3_12] <;> omega)
        ·intro c27 h
         try simp -implicitDefEqProofs (disch := omega) at c27
         try simp -implicitDefEqProofs (maxSteps := 1000000) (disch := omega) [go_sem, t0_12, t3_12]
         refine splitG_f h (by first | with_reducible rfl | (simp -implicitDefEqProofs (maxSteps := 1000000) (disch := omega) [go_sem, t0_12, t3_12] <;> omega)) ?_ ?_
         ·intro c26 h
          try simp -implicitDefEqProofs (disch := omega) at c26
          try simp -implicitDefEqProofs (maxSteps := 1000000) (disch := omega) [go_sem, t0_12, t3_12]
          subst hc19
          refine IWp_cond_i h (by first | with_reducible rfl | (simp -implicitDefEqProofs (maxSteps := 1000000) (disch := omega) [go_sem, t0_12, t3_12] <;> omega)) rfl ?_ ?_
          ·intro c24 h
           try simp -implicitDefEqProofs (disch := omega) at c24
           refine IWp_seqF fun cb hc25 => ?_
           refine vcK ?_
           try simp -implicitDefEqProofs (maxSteps := 1000000) (disch := omega) [go_sem, t0_12, t3_12]
           subst hc25
           refine vcK ?_
           simp -implicitDefEqProofs only [go_sem]
           have e12 := Option.some.inj h
           subst e12
           have e12 := hret12 _ rfl
           subst e12
           replace h : some false = some r := hk12
           have er := Option.some.inj h
           subst er
           try simp -implicitDefEqProofs (maxSteps := 1000000) (disch := omega) [go_sem, t0_12, t3_12]
           refine retG_pureA (Ext.refl hw) hK (e := by first | with_reducible rfl | (simp -implicitDefEqProofs (maxSteps := 1000000) (disch := omega) [go_sem, t0_12, t3_12] <;> omega))
          ·intro c24 h
           try simp -implicitDefEqProofs (disch := omega) at c24
           refine vcK ?_
           simp -implicitDefEqProofs only [go_sem]
           subst hc18
           refine vcK ?_
           try simp -implicitDefEqProofs (maxSteps := 1000000) (disch := omega) [go_sem, t0_12, t3_12]
           have e12 := Option.some.inj h
           subst e12
           refine loopN_mk hI12 (IntKind.i64.wrap (v13 + 1)) ?_
           refine .same ⟨rfl, ?_, ?_⟩ <;> first | with_reducible rfl | with_reducible assumption | (simp -implicitDefEqProofs (maxSteps := 1000000) (disch := omega) [go_sem, t0_12, t3_12] <;> omega)
         ·intro c26 h
          try simp -implicitDefEqProofs (disch := omega) at c26
          try simp -implicitDefEqProofs (maxSteps := 1000000) (disch := omega) [go_sem, t0_12, t3_12]
          subst hc19
          refine IWp_cond_f (by first | with_reducible rfl | (simp -implicitDefEqProofs (maxSteps := 1000000) (disch := omega) [go_sem, t0_12, t3_12] <;> omega)) rfl ?_
          refine vcK ?_
          simp -implicitDefEqProofs only [go_sem]
          subst hc18
          refine vcK ?_
          try simp -implicitDefEqProofs (maxSteps := 1000000) (disch := omega) [go_sem, t0_12, t3_12]
          have e12 := Option.some.inj h
          subst e12
          refine loopN_mk hI12 (IntKind.i64.wrap (v13 + 1)) ?_
          refine .same ⟨rfl, ?_, ?_⟩ <;> first | with_reducible rfl | with_reducible assumption | (simp -implicitDefEqProofs (maxSteps := 1000000) (disch := omega) [go_sem, t0_12, t3_12] <;> omega)
       ·intro c28 h
        try simp -implicitDefEqProofs (disch := omega) at c28
        try simp -implicitDefEqProofs (maxSteps := 1000000) (disch := omega) [go_sem, t0_12, t3_12]
        subst hc19
        refine IWp_cond_f (by first | with_reducible rfl | (simp -implicitDefEqProofs (maxSteps := 1000000) (disch := omega) [go_sem, t0_12, t3_12] <;> omega)) rfl ?_
        refine vcK ?_
        simp -implicitDefEqProofs only [go_sem]
        subst hc18
        refine vcK ?_
        try simp -implicitDefEqProofs (maxSteps := 1000000) (disch := omega) [go_sem, t0_12, t3_12]
        have e12 := Option.some.inj h
        subst e12
        refine loopN_mk hI12 (IntKind.i64.wrap (v13 + 1)) ?_
        refine .same ⟨rfl, ?_, ?_⟩ <;> first | with_reducible rfl | with_reducible assumption | (simp -implicitDefEqProofs (maxSteps := 1000000) (disch := omega) [go_sem, t0_12, t3_12] <;> omega)
      ·intro c17 h
       try simp -implicitDefEqProofs (disch := omega) at c17
       refine vcK ?_
       simp -implicitDefEqProofs only [go_sem]
       have e12 := Option.some.inj h
       subst e12
       have hy12 := hret12 _ rfl
       refine hc12 _ _ ?_
       refine .same ⟨hy12, rfl⟩

/-! cardcase/cardcaseref06.Small -/

noncomputable def F50_k5 (v8 : List UInt8) : Option (List UInt8) :=
 some v8

noncomputable def F50_b5 (a0 : List UInt8) (v6 : List UInt8) (v7 : Int) : Option (((List UInt8) × Int) ⊕ (List UInt8)) :=
 if v7 < (a0.length : Int) then (gd (0 ≤ v7 ∧ v7 < a0.length) (if 65 ≤ (((a0.getD v7.toNat 0).toNat : Int)) then (if (((a0.getD v7.toNat 0).toNat : Int)) ≤ 90 then (gd (0 ≤ (IntKind.u8.wrap ((((a0.getD v7.toNat 0).toNat : Int)) + 32)) ∧ (IntKind.u8.wrap ((((a0.getD v7.toNat 0).toNat : Int)) + 32)) ≤ 255) (gd ((v6.length : Int) + ([UInt8.ofNat (IntKind.u8.wrap ((((a0.getD v7.toNat 0).toNat : Int)) + 32)).toNat]).length ≤ 9223372036854775807) (some (.inl ((v6 ++ ([UInt8.ofNat (IntKind.u8.wrap ((((a0.getD v7.toNat 0).toNat : Int)) + 32)).toNat]), IntKind.i64.wrap (v7 + 1))))))) else (gd (0 ≤ (((a0.getD v7.toNat 0).toNat : Int)) ∧ (((a0.getD v7.toNat 0).toNat : Int)) ≤ 255) (gd ((v6.length : Int) + ([UInt8.ofNat (((a0.getD v7.toNat 0).toNat : Int)).toNat]).length ≤ 9223372036854775807) (some (.inl ((v6 ++ ([UInt8.ofNat (((a0.getD v7.toNat 0).toNat : Int)).toNat]), IntKind.i64.wrap (v7 + 1)))))))) else (gd (0 ≤ (((a0.getD v7.toNat 0).toNat : Int)) ∧ (((a0.getD v7.toNat 0).toNat : Int)) ≤ 255) (gd ((v6.length : Int) + ([UInt8.ofNat (((a0.getD v7.toNat 0).toNat : Int)).toNat]).length ≤ 9223372036854775807) (some (.inl ((v6 ++ ([UInt8.ofNat (((a0.getD v7.toNat 0).toNat : Int)).toNat]), IntKind.i64.wrap (v7 + 1))))))))) else (some (.inr v6))

noncomputable def F50 (a0 : List UInt8) : Option (List UInt8) :=
 (loopO (fun (s : (List UInt8) × Int) => F50_b5 a0 s.1 s.2) ([], 0)).bind fun (e : (List UInt8)) => F50_k5 e

set_option maxHeartbeats 8000000 in
set_option pp.deepTerms false in
set_option maxRecDepth 60000 in
theorem F50_ok {H : IHeap} {K : IEnd → IHeap → Prop} (a0 : List UInt8) {r : (List UInt8)} (h : F50 a0 = some r) (hK : K (.ret (.v (str r))) H) : ICalls prog 50 [.v (str a0)] H K := by
 refine ICalls_iwp (N := 29) func50 (by kernel_rfl) rfl (by kernel_rfl) (by kernel_rfl) fun cb hcb hw hbd hnb => ?_
 clear hbd hnb
 subst hcb
 unfold F50 at h
 refine IWp_seqF fun cb hc1 => ?_
 refine vcK ?_
 try simp -implicitDefEqProofs (maxSteps := 1000000) (disch := omega) [go_sem]
 subst hc1
 refine IWp_seqF fun cb hc2 => ?_
 refine vcK ?_
 try simp -implicitDefEqProofs (maxSteps := 1000000) (disch := omega) [go_sem]
 subst hc2
 refine IWp_seqF fun cb hc3 => ?_
 refine IWp_seqF fun cb hc4 => ?_
 refine vcK ?_
 try simp -implicitDefEqProofs (maxSteps := 1000000) (disch := omega) [go_sem]
 subst hc4
 obtain ⟨y5, hl5q, hk5⟩ := bind_some' h
 refine IWp_tailC (fun tm' H' => ∃ v8 : List UInt8, v8 = y5 ∧ H = H' ∧ tm' 3 = .v (str v8)) ?_ fun cb hc5 => ?_
 ·rintro tm5e H5e ⟨v8, rfl, rfl, t3_5e⟩
  have h : F50_k5 v8 = some r := hk5
  unfold F50_k5 at h
  simp -implicitDefEqProofs only [go_sem]
  subst hc3
  refine IWp_seqF fun cb hc9 => ?_
  refine vcK ?_
  try simp -implicitDefEqProofs (maxSteps := 1000000) (disch := omega) [go_sem, t3_5e]
  subst hc9
  refine vcK ?_
  simp -implicitDefEqProofs only [go_sem]
  have er := Option.some.inj h
  subst er
  try simp -implicitDefEqProofs (maxSteps := 1000000) (disch := omega) [go_sem, t3_5e]
  refine retG_pureA (Ext.refl hw) hK (e := by first | with_reducible rfl | (simp -implicitDefEqProofs (maxSteps := 1000000) (disch := omega) [go_sem, t3_5e] <;> omega))
 ·refine IWp_block ?_
  refine IWp_loopF (fun (s : (List UInt8) × Int) tm' H' => H = H' ∧ tm' 0 = .v (str a0) ∧ tm' 3 = .v (str s.1) ∧ tm' 4 = .v (.int .i64 s.2)) hl5q ?_ ?_
  ·refine .same ⟨rfl, ?_, ?_, ?_⟩ <;> first | with_reducible rfl | with_reducible assumption | (simp -implicitDefEqProofs (maxSteps := 1000000) (disch := omega) [go_sem] <;> omega)
  ·rintro I5 hI5 ⟨v6, v7⟩ x5 tm5 H5 ⟨rfl, t0_5, t3_5, t4_5⟩ h hret5
   replace h : F50_b5 a0 v6 v7 = some x5 := h
   unfold F50_b5 at h
   refine IWp_seqF fun cb hc10 => ?_
   refine IWp_seqF fun cb hc11 => ?_
   refine vcK ?_
   try simp -implicitDefEqProofs (maxSteps := 1000000) (disch := omega) [go_sem, t0_5, t3_5, t4_5]
   subst hc11
   refine IWp_cond_i h (by first | with_reducible rfl | (simp -implicitDefEqProofs (maxSteps := 1000000) (disch := omega) [go_sem, t0_5, t3_5, t4_5] <;> omega)) rfl ?_ ?_
   ·intro c12 h
    try simp -implicitDefEqProofs (disch := omega) at c12
    refine vcK ?_
    simp -implicitDefEqProofs only [go_sem]
    subst hc10
    refine IWp_seqF fun cb hc13 => ?_
    refine IWp_block ?_
    refine IWp_seqF fun cb hc14 => ?_
    refine vcK ?_
    obtain ⟨g15, h⟩ := gd_some.1 h
    try simp -implicitDefEqProofs (disch := omega) at g15
    try simp -implicitDefEqProofs (maxSteps := 1000000) (disch := omega) [go_sem, t0_5, t3_5, t4_5]
    subst hc14
    refine IWp_seqF fun cb hc16 => ?_
    refine IWp_seqF fun cb hc17 => ?_
    refine vcK ?_
    try simp -implicitDefEqProofs (maxSteps := 1000000) (disch := omega) [go_sem, t0_5, t3_5, t4_5]
    refine splitG_f h (by first | with_reducible rfl | (simp -implicitDefEqProofs (maxSteps := 1000000) (disch := omega) [go_sem, t0_5, t3_5, t4_5] <;> omega)) ?_ ?_
    ·intro c25 h
     try simp -implicitDefEqProofs (disch := omega) at c25
     try simp -implicitDefEqProofs (maxSteps := 1000000) (disch := omega) [go_sem, t0_5, t3_5, t4_5]
     subst hc17
     refine IWp_cond_i h (by first | with_reducible rfl | (simp -implicitDefEqProofs (maxSteps := 1000000) (disch := omega) [go_sem, t0_5, t3_5, t4_5] <;> omega)) rfl ?_ ?_
     ·intro c18 h
      try simp -implicitDefEqProofs (disch := omega) at c18
      refine vcK ?_
      try simp -implicitDefEqProofs (maxSteps := 1000000) (disch := omega) [go_sem, t0_5, t3_5, t4_5]
      subst hc16
      refine vcK ?_
      obtain ⟨g19, h⟩ := gd_some.1 h
      try simp -implicitDefEqProofs (disch := omega) at g19
      obtain ⟨g20, h⟩ := gd_some.1 h
      try simp -implicitDefEqProofs (disch := omega) at g20
      try simp -implicitDefEqProofs (maxSteps := 1000000) (disch := omega) [go_sem, t0_5, t3_5, t4_5]
      subst hc13
      refine vcK ?_
      try simp -implicitDefEqProofs (maxSteps := 1000000) (disch := omega) [go_sem, t0_5, t3_5, t4_5]
      have e5 := Option.some.inj h
      subst e5
      refine loopN_mk hI5 ((v6 ++ ([UInt8.ofNat (IntKind.u8.wrap ((((a0.getD v7.toNat 0).toNat : Int)) + 32)).toNat]), IntKind.i64.wrap (v7 + 1))) ?_
      refine .same ⟨rfl, ?_, ?_, ?_⟩ <;> first | with_reducible rfl | with_reducible assumption | (simp -implicitDefEqProofs (maxSteps := 1000000) (disch := omega) [go_sem, t0_5, t3_5, t4_5] <;> omega)
     ·intro c18 h
      try simp -implicitDefEqProofs (disch := omega) at c18
      refine vcK ?_
      simp -implicitDefEqProofs only [go_sem]
      subst hc16
      refine vcK ?_
      obtain ⟨g21, h⟩ := gd_some.1 h
      try simp -implicitDefEqProofs (disch := omega) at g21
      obtain ⟨g22, h⟩ := gd_some.1 h
      try simp -implicitDefEqProofs (disch := omega) at g22
      try simp -implicitDefEqProofs (maxSteps := 1000000) (disch := omega) [go_sem, t0_5, t3_5, t4_5]
      subst hc13
      refine vcK ?_
      try simp -implicitDefEqProofs (maxSteps := 1000000) (disch := omega) [go_sem, t0_5, t3_5, t4_5]
      have e5 := Option.some.inj h
      subst e5
      refine loopN_mk hI5 ((v6 ++ ([UInt8.ofNat (((a0.getD v7.toNat 0).toNat : Int)).toNat]), IntKind.i64.wrap (v7 + 1))) ?_
      refine .same ⟨rfl, ?_, ?_, ?_⟩ <;> first | with_reducible rfl | with_reducible assumption | (simp -implicitDefEqProofs (maxSteps := 1000000) (disch := omega) [go_sem, t0_5, t3_5, t4_5] <;> omega)
    ·intro c25 h
     try simp -implicitDefEqProofs (disch := omega) at c25
     try simp -implicitDefEqProofs (maxSteps := 1000000) (disch := omega) [go_sem, t0_5, t3_5, t4_5]
     subst hc17
     refine IWp_cond_f (by first | with_reducible rfl | (simp -implicitDefEqProofs (maxSteps := 1000000) (disch := omega) [go_sem, t0_5, t3_5, t4_5] <;> omega)) rfl ?_
     refine vcK ?_
     simp -implicitDefEqProofs only [go_sem]
     subst hc16
     refine vcK ?_
     obtain ⟨g23, h⟩ := gd_some.1 h
     try simp -implicitDefEqProofs (disch := omega) at g23
     obtain ⟨g24, h⟩ := gd_some.1 h
     try simp -implicitDefEqProofs (disch := omega) at g24
     try simp -implicitDefEqProofs (maxSteps := 1000000) (disch := omega) [go_sem, t0_5, t3_5, t4_5]
     subst hc13
     refine vcK ?_
     try simp -implicitDefEqProofs (maxSteps := 1000000) (disch := omega) [go_sem, t0_5, t3_5, t4_5]
     have e5 := Option.some.inj h
     subst e5
     refine loopN_mk hI5 ((v6 ++ ([UInt8.ofNat (((a0.getD v7.toNat 0).toNat : Int)).toNat]), IntKind.i64.wrap (v7 + 1))) ?_
     refine .same ⟨rfl, ?_, ?_, ?_⟩ <;> first | with_reducible rfl | with_reducible assumption | (simp -implicitDefEqProofs (maxSteps := 1000000) (disch := omega) [go_sem, t0_5, t3_5, t4_5] <;> omega)
   ·intro c12 h
    try simp -implicitDefEqProofs (disch := omega) at c12
    refine vcK ?_
    simp -implicitDefEqProofs only [go_sem]
    have e5 := Option.some.inj h
    subst e5
    have hy5 := hret5 _ rfl
    refine hc5 _ _ ?_
    refine .same ⟨v6, hy5, rfl, by first | with_reducible rfl | with_reducible assumption | (simp -implicitDefEqProofs (maxSteps := 1000000) (disch := omega) [go_sem, t0_5, t3_5, t4_5] <;> omega)⟩

/-! cardcase/cardcaseref07.values -/

noncomputable def F51_k4  : Option Bool :=
 some true

noncomputable def F51_b4 (a0 : List (List UInt8)) (v5 : Int) : Option (Int ⊕ (Unit ⊕ Bool)) :=
 if v5 < (a0.length : Int) then (gd (0 ≤ v5 ∧ v5 < a0.length) (if (((a0.getD v5.toNat []).length : Int)) < 1 then (some (.inr (.inr false))) else (if 2048 < (((a0.getD v5.toNat []).length : Int)) then (some (.inr (.inr false))) else (some (.inl (IntKind.i64.wrap (v5 + 1))))))) else (some (.inr (.inl ())))

noncomputable def F51 (a0 : List (List UInt8)) : Option Bool :=
 (loopO (fun (s : Int) => F51_b4 a0 s) 0).bind fun y => Sum.elim (fun (e : Unit) => F51_k4) (fun (q : Bool) => some q) y

set_option maxHeartbeats 8000000 in
set_option pp.deepTerms false in
set_option maxRecDepth 60000 in
theorem F51_ok {H : IHeap} {K : IEnd → IHeap → Prop} (a0 : List (List UInt8)) {r : Bool} (h : F51 a0 = some r) (hK : K (.ret (.v (.bool r))) H) : ICalls prog 51 [.sl 1 (a0.map fun x => [.v (str x)])] H K := by
 refine ICalls_iwp (N := 24) func51 (by kernel_rfl) rfl (by kernel_rfl) (by kernel_rfl) fun cb hcb hw hbd hnb => ?_
 clear hbd hnb
 subst hcb
 unfold F51 at h
 refine IWp_seqF fun cb hc1 => ?_
 refine vcK ?_
 try simp -implicitDefEqProofs (maxSteps := 1000000) (disch := omega) [go_sem]
 subst hc1
 refine IWp_seqF fun cb hc2 => ?_
 refine IWp_seqF fun cb hc3 => ?_
 refine vcK ?_
 try simp -implicitDefEqProofs (maxSteps := 1000000) (disch := omega) [go_sem]
 subst hc3
 obtain ⟨y4, hl4q, hk4⟩ := bind_some' h
 refine IWp_tailC (fun tm' H' => .inl () = y4 ∧ H = H') ?_ fun cb hc4 => ?_
 ·rintro tm4e H4e ⟨rfl, rfl⟩
  have h : F51_k4 = some r := hk4
  unfold F51_k4 at h
  simp -implicitDefEqProofs only [go_sem]
  subst hc2
  refine IWp_seqF fun cb hc6 => ?_
  refine vcK ?_
  try simp -implicitDefEqProofs (maxSteps := 1000000) (disch := omega) [go_sem]
  subst hc6
  refine vcK ?_
  simp -implicitDefEqProofs only [go_sem]
  have er := Option.some.inj h
  subst er
  try simp -implicitDefEqProofs (maxSteps := 1000000) (disch := omega) [go_sem]
  refine retG_pureA (Ext.refl hw) hK (e := by first | with_reducible rfl | (simp -implicitDefEqProofs (maxSteps := 1000000) (disch := omega) [go_sem] <;> omega))
 ·refine IWp_block ?_
  refine IWp_loopF (fun (s : Int) tm' H' => H = H' ∧ tm' 0 = .sl 1 (a0.map fun x => [.v (str x)]) ∧ tm' 3 = .v (.int .i64 s)) hl4q ?_ ?_
  ·refine .same ⟨rfl, ?_, ?_⟩ <;> first | with_reducible rfl | with_reducible assumption | (simp -implicitDefEqProofs (maxSteps := 1000000) (disch := omega) [go_sem] <;> omega)
  ·rintro I4 hI4 v5 x4 tm4 H4 ⟨rfl, t0_4, t3_4⟩ h hret4
   replace h : F51_b4 a0 v5 = some x4 := h
   unfold F51_b4 at h
   refine IWp_seqF fun cb hc7 => ?_
   refine IWp_seqF fun cb hc8 => ?_
   refine vcK ?_
   try simp -implicitDefEqProofs (maxSteps := 1000000) (disch := omega) [go_sem, t0_4, t3_4]
   subst hc8
   refine IWp_cond_i h (by first | with_reducible rfl | (simp -implicitDefEqProofs (maxSteps := 1000000) (disch := omega) [go_sem, t0_4, t3_4] <;> omega)) rfl ?_ ?_
   ·intro c9 h
    try simp -implicitDefEqProofs (disch := omega) at c9
    refine vcK ?_
    simp -implicitDefEqProofs only [go_sem]
    subst hc7
    refine IWp_seqF fun cb hc10 => ?_
    refine IWp_block ?_
    refine IWp_seqF fun cb hc11 => ?_
    refine vcK ?_
    obtain ⟨g12, h⟩ := gd_some.1 h
    try simp -implicitDefEqProofs (disch := omega) at g12
    try simp -implicitDefEqProofs (maxSteps := 1000000) (disch := omega) [go_sem, t0_4, t3_4]
    refine splitG_f h (by first | with_reducible rfl | (simp -implicitDefEqProofs (maxSteps := 1000000) (disch := omega) [go_sem, t0_4, t3_4] <;> omega)) ?_ ?_
    ·intro c16 h
     try simp -implicitDefEqProofs (disch := omega) at c16
     try simp -implicitDefEqProofs (maxSteps := 1000000) (disch := omega) [go_sem, t0_4, t3_4]
     subst hc11
     refine IWp_cond_t (by first | with_reducible rfl | (simp -implicitDefEqProofs (maxSteps := 1000000) (disch := omega) [go_sem, t0_4, t3_4] <;> omega)) rfl ?_
     refine IWp_seqF fun cb hc13 => ?_
     refine vcK ?_
     try simp -implicitDefEqProofs (maxSteps := 1000000) (disch := omega) [go_sem, t0_4, t3_4]
     subst hc13
     refine vcK ?_
     simp -implicitDefEqProofs only [go_sem]
     have e4 := Option.some.inj h
     subst e4
     have e4 := hret4 _ rfl
     subst e4
     replace h : some false = some r := hk4
     have er := Option.some.inj h
     subst er
     try simp -implicitDefEqProofs (maxSteps := 1000000) (disch := omega) [go_sem, t0_4, t3_4]
     refine retG_pureA (Ext.refl hw) hK (e := by first | with_reducible rfl | (simp -implicitDefEqProofs (maxSteps := 1000000) (disch := omega) [go_sem, t0_4, t3_4] <;> omega))
    ·intro c16 h
     try simp -implicitDefEqProofs (disch := omega) at c16
     try simp -implicitDefEqProofs (maxSteps := 1000000) (disch := omega) [go_sem, t0_4, t3_4]
     subst hc11
     refine IWp_cond_i h (by first | with_reducible rfl | (simp -implicitDefEqProofs (maxSteps := 1000000) (disch := omega) [go_sem, t0_4, t3_4] <;> omega)) rfl ?_ ?_
     ·intro c14 h
      try simp -implicitDefEqProofs (disch := omega) at c14
      refine IWp_seqF fun cb hc15 => ?_
      refine vcK ?_
      try simp -implicitDefEqProofs (maxSteps := 1000000) (disch := omega) [go_sem, t0_4, t3_4]
      subst hc15
      refine vcK ?_
      simp -implicitDefEqProofs only [go_sem]
      have e4 := Option.some.inj h
      subst e4
      have e4 := hret4 _ rfl
      subst e4
      replace h : some false = some r := hk4
      have er := Option.some.inj h
      subst er
      try simp -implicitDefEqProofs (maxSteps := 1000000) (disch := omega) [go_sem, t0_4, t3_4]
      refine retG_pureA (Ext.refl hw) hK (e := by first | with_reducible rfl | (simp -implicitDefEqProofs (maxSteps := 1000000) (disch := omega) [go_sem, t0_4, t3_4] <;> omega))
     ·intro c14 h
      try simp -implicitDefEqProofs (disch := omega) at c14
      refine vcK ?_
      simp -implicitDefEqProofs only [go_sem]
      subst hc10
      refine vcK ?_
      try simp -implicitDefEqProofs (maxSteps := 1000000) (disch := omega) [go_sem, t0_4, t3_4]
      have e4 := Option.some.inj h
      subst e4
      refine loopN_mk hI4 (IntKind.i64.wrap (v5 + 1)) ?_
      refine .same ⟨rfl, ?_, ?_⟩ <;> first | with_reducible rfl | with_reducible assumption | (simp -implicitDefEqProofs (maxSteps := 1000000) (disch := omega) [go_sem, t0_4, t3_4] <;> omega)
   ·intro c9 h
    try simp -implicitDefEqProofs (disch := omega) at c9
    refine vcK ?_
    simp -implicitDefEqProofs only [go_sem]
    have e4 := Option.some.inj h
    subst e4
    have hy4 := hret4 _ rfl
    refine hc4 _ _ ?_
    refine .same ⟨hy4, rfl⟩

/-! cardcase/cardcaseref07.Right -/

noncomputable def F18_k8  : Option Bool :=
 some true

noncomputable def F18_k19 (v9 : Int) : Option (Int ⊕ (Unit ⊕ Bool)) :=
 some (.inl (IntKind.i64.wrap (v9 + 1)))

noncomputable def F18_b19 (a0 : List S50) (v9 : Int) (v20 : Int) : Option (Int ⊕ (Unit ⊕ Bool)) :=
 if v20 < ((((a0.getD v9.toNat S50.zero).fValues).length : Int)) then (gd (0 ≤ (IntKind.i64.wrap (v20 - 1)) ∧ (IntKind.i64.wrap (v20 - 1)) < ((a0.getD v9.toNat S50.zero).fValues).length) (gd (0 ≤ v20 ∧ v20 < ((a0.getD v9.toNat S50.zero).fValues).length) (if ¬ Op.bytesLess (((a0.getD v9.toNat S50.zero).fValues).getD (IntKind.i64.wrap (v20 - 1)).toNat []) (((a0.getD v9.toNat S50.zero).fValues).getD v20.toNat []) = true then (some (.inr (.inr false))) else (some (.inl (IntKind.i64.wrap (v20 + 1))))))) else (some (.inr (.inl ())))

noncomputable def F18_k17 (a0 : List S50) (v9 : Int) : Option (Int ⊕ (Unit ⊕ Bool)) :=
 (loopO (fun (s : Int) => F18_b19 a0 v9 s) 1).bind fun y => Sum.elim (fun (e : Unit) => F18_k19 v9) (fun (q : Bool) => some (.inr (.inr q))) y

noncomputable def F18_b8 (a0 : List S50) (v9 : Int) : Option (Int ⊕ (Unit ⊕ Bool)) :=
 if v9 < (a0.length : Int) then (gd (0 ≤ v9 ∧ v9 < a0.length) ((F49 ((a0.getD v9.toNat S50.zero).fName)).bind fun (x31 : Bool) => if ¬ (x31 = true) then (some (.inr (.inr false))) else ((F50 ((a0.getD v9.toNat S50.zero).fName)).bind fun (x33 : (List UInt8)) => if ¬ x33 = ((a0.getD v9.toNat S50.zero).fName) then (some (.inr (.inr false))) else (if ((((a0.getD v9.toNat S50.zero).fValues).length : Int)) < 1 then (some (.inr (.inr false))) else (if 16 < ((((a0.getD v9.toNat S50.zero).fValues).length : Int)) then (some (.inr (.inr false))) else ((F51 ((a0.getD v9.toNat S50.zero).fValues)).bind fun (x37 : Bool) => if ¬ (x37 = true) then (some (.inr (.inr false))) else (if 0 < v9 then (gd (0 ≤ (IntKind.i64.wrap (v9 - 1)) ∧ (IntKind.i64.wrap (v9 - 1)) < a0.length) (if ¬ Op.bytesLess ((a0.getD (IntKind.i64.wrap (v9 - 1)).toNat S50.zero).fName) ((a0.getD v9.toNat S50.zero).fName) = true then (some (.inr (.inr false))) else (F18_k17 a0 v9))) else (F18_k17 a0 v9)))))))) else (some (.inr (.inl ())))

noncomputable def F18 (a0 : List S50) : Option Bool :=
 if 24 < (a0.length : Int) then (some false) else ((loopO (fun (s : Int) => F18_b8 a0 s) 0).bind fun y => Sum.elim (fun (e : Unit) => F18_k8) (fun (q : Bool) => some q) y)

set_option maxHeartbeats 8000000 in
set_option pp.deepTerms false in
set_option maxRecDepth 60000 in
theorem F18_ok {H : IHeap} {K : IEnd → IHeap → Prop} (a0 : List S50) {r : Bool} (h : F18 a0 = some r) (hK : K (.ret (.v (.bool r))) H) : ICalls prog 18 [.sl 2 (a0.map fun x => [.v (str x.fName), .sl 1 (x.fValues.map fun x => [.v (str x)])])] H K := by
 refine ICalls_iwp (N := 83) func18 (by kernel_rfl) rfl (by kernel_rfl) (by kernel_rfl) fun cb hcb hw hbd hnb => ?_
 clear hbd hnb
 subst hcb
 unfold F18 at h
 refine IWp_seqF fun cb hc1 => ?_
 refine vcK ?_
 try simp -implicitDefEqProofs (maxSteps := 1000000) (disch := omega) [go_sem]
 subst hc1
 refine IWp_seqF fun cb hc2 => ?_
 refine IWp_seqF fun cb hc3 => ?_
 refine vcK ?_
 try simp -implicitDefEqProofs (maxSteps := 1000000) (disch := omega) [go_sem]
 subst hc3
 refine IWp_cond_i h (by first | with_reducible rfl | (simp -implicitDefEqProofs (maxSteps := 1000000) (disch := omega) [go_sem] <;> omega)) rfl ?_ ?_
 ·intro c4 h
  try simp -implicitDefEqProofs (disch := omega) at c4
  refine IWp_seqF fun cb hc5 => ?_
  refine vcK ?_
  try simp -implicitDefEqProofs (maxSteps := 1000000) (disch := omega) [go_sem]
  subst hc5
  refine vcK ?_
  simp -implicitDefEqProofs only [go_sem]
  have er := Option.some.inj h
  subst er
  try simp -implicitDefEqProofs (maxSteps := 1000000) (disch := omega) [go_sem]
  refine retG_pureA (Ext.refl hw) hK (e := by first | with_reducible rfl | (simp -implicitDefEqProofs (maxSteps := 1000000) (disch := omega) [go_sem] <;> omega))
 ·intro c4 h
  try simp -implicitDefEqProofs (disch := omega) at c4
  refine vcK ?_
  simp -implicitDefEqProofs only [go_sem]
  subst hc2
  refine IWp_seqF fun cb hc6 => ?_
  refine IWp_seqF fun cb hc7 => ?_
  refine vcK ?_
  try simp -implicitDefEqProofs (maxSteps := 1000000) (disch := omega) [go_sem]
  subst hc7
  obtain ⟨y8, hl8q, hk8⟩ := bind_some' h
  refine IWp_tailC (fun tm' H' => .inl () = y8 ∧ Ext H H' ∧ H.next ≤ H'.next) ?_ fun cb hc8 => ?_
  ·rintro tm8e H8e ⟨rfl, he8e, hl8e⟩
   have h : F18_k8 = some r := hk8
   unfold F18_k8 at h
   simp -implicitDefEqProofs only [go_sem]
   subst hc6
   refine IWp_seqF fun cb hc10 => ?_
   refine vcK ?_
   try simp -implicitDefEqProofs (maxSteps := 1000000) (disch := omega) [go_sem]
   subst hc10
   refine vcK ?_
   simp -implicitDefEqProofs only [go_sem]
   have er := Option.some.inj h
   subst er
   try simp -implicitDefEqProofs (maxSteps := 1000000) (disch := omega) [go_sem]
   refine retG_pureA he8e hK (e := by first | with_reducible rfl | (simp -implicitDefEqProofs (maxSteps := 1000000) (disch := omega) [go_sem] <;> omega))
  ·refine IWp_block ?_
   refine IWp_loopF (fun (s : Int) tm' H' => Ext H H' ∧ H.next ≤ H'.next ∧ tm' 0 = .sl 2 (a0.map fun x => [.v (str x.fName), .sl 1 (x.fValues.map fun x => [.v (str x)])]) ∧ tm' 3 = .v (.int .i64 s)) hl8q ?_ ?_
   ·refine .same ⟨by repeat (first | exact (Ext.refl hw) | refine Ext.new ?_ _ | refine Ext.set ?_ (by first | omega | (simp [go_sem]; done) | (simp [go_sem]; omega)) _ | refine Ext.del ?_ (by first | omega | (simp [go_sem]; done) | (simp [go_sem]; omega))), by first | with_reducible rfl | with_reducible assumption | omega | (simp -implicitDefEqProofs (maxSteps := 1000000) (disch := omega) [go_sem] <;> omega), by first | with_reducible rfl | with_reducible assumption | (simp -implicitDefEqProofs (maxSteps := 1000000) (disch := omega) [go_sem] <;> omega), by first | with_reducible rfl | with_reducible assumption | (simp -implicitDefEqProofs (maxSteps := 1000000) (disch := omega) [go_sem] <;> omega)⟩
   ·rintro I8 hI8 v9 x8 tm8 H8 ⟨he8, hl8, t0_8, t3_8⟩ h hret8
    replace h : F18_b8 a0 v9 = some x8 := h
    unfold F18_b8 at h
    refine IWp_seqF fun cb hc11 => ?_
    refine IWp_seqF fun cb hc12 => ?_
    refine vcK ?_
    try simp -implicitDefEqProofs (maxSteps := 1000000) (disch := omega) [go_sem, t0_8, t3_8]
    subst hc12
    refine IWp_cond_i h (by first | with_reducible rfl | (simp -implicitDefEqProofs (maxSteps := 1000000) (disch := omega) [go_sem, t0_8, t3_8] <;> omega)) rfl ?_ ?_
    ·intro c13 h
     try simp -implicitDefEqProofs (disch := omega) at c13
     refine vcK ?_
     simp -implicitDefEqProofs only [go_sem]
     subst hc11
     refine IWp_seqF fun cb hc14 => ?_
     refine IWp_block ?_
     refine IWp_seqF fun cb hc15 => ?_
     refine vcK ?_
     obtain ⟨g16, h⟩ := gd_some.1 h
     try simp -implicitDefEqProofs (disch := omega) at g16
     try simp -implicitDefEqProofs (maxSteps := 1000000) (disch := omega) [go_sem, t0_8, t3_8]
     subst hc15
     refine IWp_seqC (fun tm' H' => Ext H H' ∧ H8.next + 1 ≤ H'.next ∧ tm' 0 = .sl 2 (a0.map fun x => [.v (str x.fName), .sl 1 (x.fValues.map fun x => [.v (str x)])]) ∧ tm' 3 = .v (.int .i64 v9) ∧ tm' 4 = .p H8.next 0 ∧ H'.obj H8.next = some (.cells ([.v (str ((a0.getD v9.toNat S50.zero).fName)), .sl 1 (((a0.getD v9.toNat S50.zero).fValues).map fun x => [.v (str x)])])) ∧ F18_k17 a0 v9 = some x8) ?_ fun cb hc17 => ?_
     ·rintro tm17 H17 ⟨he17, hl17, t0_17, t3_17, t4_17, ob0_17, h⟩
      unfold F18_k17 at h
      refine IWp_seqF fun cb hc18 => ?_
      refine vcK ?_
      try simp -implicitDefEqProofs (maxSteps := 1000000) (disch := omega) [go_sem, t0_17, t3_17, t4_17, ob0_17]
      subst hc18
      obtain ⟨y19, hl19q, hk19⟩ := bind_some' h
      refine IWp_tailC (fun tm' H' => .inl () = y19 ∧ H17 = H' ∧ tm' 0 = .sl 2 (a0.map fun x => [.v (str x.fName), .sl 1 (x.fValues.map fun x => [.v (str x)])]) ∧ tm' 3 = .v (.int .i64 v9)) ?_ fun cb hc19 => ?_
      ·rintro tm19e H19e ⟨rfl, rfl, t0_19e, t3_19e⟩
       have h : F18_k19 v9 = some x8 := hk19
       unfold F18_k19 at h
       simp -implicitDefEqProofs only [go_sem]
       subst hc14
       refine vcK ?_
       try simp -implicitDefEqProofs (maxSteps := 1000000) (disch := omega) [go_sem, t0_19e, t3_19e, ob0_17]
       have e8 := Option.some.inj h
       subst e8
       refine loopN_mk hI8 (IntKind.i64.wrap (v9 + 1)) ?_
       refine .same ⟨by repeat (first | exact he17 | refine Ext.new ?_ _ | refine Ext.set ?_ (by first | omega | (simp [go_sem]; done) | (simp [go_sem]; omega)) _ | refine Ext.del ?_ (by first | omega | (simp [go_sem]; done) | (simp [go_sem]; omega))), by first | with_reducible rfl | with_reducible assumption | omega | (simp -implicitDefEqProofs (maxSteps := 1000000) (disch := omega) [go_sem, t0_19e, t3_19e, ob0_17] <;> omega), by first | with_reducible rfl | with_reducible assumption | (simp -implicitDefEqProofs (maxSteps := 1000000) (disch := omega) [go_sem, t0_19e, t3_19e, ob0_17] <;> omega), by first | with_reducible rfl | with_reducible assumption | (simp -implicitDefEqProofs (maxSteps := 1000000) (disch := omega) [go_sem, t0_19e, t3_19e, ob0_17] <;> omega)⟩
      ·refine IWp_block ?_
       refine IWp_loopF (fun (s : Int) tm' H' => H17 = H' ∧ tm' 0 = .sl 2 (a0.map fun x => [.v (str x.fName), .sl 1 (x.fValues.map fun x => [.v (str x)])]) ∧ tm' 3 = .v (.int .i64 v9) ∧ tm' 4 = .p H8.next 0 ∧ tm' 5 = .v (.int .i64 s)) hl19q ?_ ?_
       ·refine .same ⟨rfl, ?_, ?_, ?_, ?_⟩ <;> first | with_reducible rfl | with_reducible assumption | (simp -implicitDefEqProofs (maxSteps := 1000000) (disch := omega) [go_sem, t0_17, t3_17, t4_17, ob0_17] <;> omega)
       ·rintro I19 hI19 v20 x19 tm19 H19 ⟨rfl, t0_19, t3_19, t4_19, t5_19⟩ h hret19
        replace h : F18_b19 a0 v9 v20 = some x19 := h
        unfold F18_b19 at h
        refine IWp_seqF fun cb hc21 => ?_
        refine IWp_seqF fun cb hc22 => ?_
        refine vcK ?_
        try simp -implicitDefEqProofs (maxSteps := 1000000) (disch := omega) [go_sem, t0_19, t3_19, t4_19, t5_19, ob0_17]
        subst hc22
        refine IWp_cond_i h (by first | with_reducible rfl | (simp -implicitDefEqProofs (maxSteps := 1000000) (disch := omega) [go_sem, t0_19, t3_19, t4_19, t5_19, ob0_17] <;> omega)) rfl ?_ ?_
        ·intro c23 h
         try simp -implicitDefEqProofs (disch := omega) at c23
         refine vcK ?_
         simp -implicitDefEqProofs only [go_sem]
         subst hc21
         refine IWp_seqF fun cb hc24 => ?_
         refine IWp_block ?_
         refine IWp_seqF fun cb hc25 => ?_
         refine IWp_drawP [] [0, 1, 2, 3, 4, 5, 6, 7, 8, 9, 10, 11] (by kernel_rfl) (by kernel_rfl) (fun _ _ _ _ h => h) ?_
         obtain ⟨g26, h⟩ := gd_some.1 h
         try simp -implicitDefEqProofs (disch := omega) at g26
         obtain ⟨g27, h⟩ := gd_some.1 h
         try simp -implicitDefEqProofs (disch := omega) at g27
         try simp -implicitDefEqProofs (maxSteps := 1000000) (disch := omega) [go_sem, t0_19, t3_19, t4_19, t5_19, ob0_17]
         subst hc25
         refine IWp_cond_i h (by first | with_reducible rfl | (simp -implicitDefEqProofs (maxSteps := 1000000) (disch := omega) [go_sem, t0_19, t3_19, t4_19, t5_19, ob0_17] <;> omega)) rfl ?_ ?_
         ·intro c28 h
          try simp -implicitDefEqProofs (disch := omega) at c28
          refine IWp_seqF fun cb hc29 => ?_
          refine vcK ?_
          try simp -implicitDefEqProofs (maxSteps := 1000000) (disch := omega) [go_sem, t0_19, t3_19, t4_19, t5_19, ob0_17]
          subst hc29
          refine vcK ?_
          simp -implicitDefEqProofs only [go_sem]
          have e19 := Option.some.inj h
          subst e19
          have e19 := hret19 _ rfl
          subst e19
          replace h : some (.inr (.inr false)) = some x8 := hk19
          have e8 := Option.some.inj h
          subst e8
          have e8 := hret8 _ rfl
          subst e8
          replace h : some false = some r := hk8
          have er := Option.some.inj h
          subst er
          try simp -implicitDefEqProofs (maxSteps := 1000000) (disch := omega) [go_sem, t0_19, t3_19, t4_19, t5_19, ob0_17]
          refine retG_pureA he17 hK (e := by first | with_reducible rfl | (simp -implicitDefEqProofs (maxSteps := 1000000) (disch := omega) [go_sem, t0_19, t3_19, t4_19, t5_19, ob0_17] <;> omega))
         ·intro c28 h
          try simp -implicitDefEqProofs (disch := omega) at c28
          refine vcK ?_
          simp -implicitDefEqProofs only [go_sem]
          subst hc24
          refine vcK ?_
          try simp -implicitDefEqProofs (maxSteps := 1000000) (disch := omega) [go_sem, t0_19, t3_19, t4_19, t5_19, ob0_17]
          have e19 := Option.some.inj h
          subst e19
          refine loopN_mk hI19 (IntKind.i64.wrap (v20 + 1)) ?_
          refine .same ⟨rfl, ?_, ?_, ?_, ?_⟩ <;> first | with_reducible rfl | with_reducible assumption | (simp -implicitDefEqProofs (maxSteps := 1000000) (disch := omega) [go_sem, t0_19, t3_19, t4_19, t5_19, ob0_17] <;> omega)
        ·intro c23 h
         try simp -implicitDefEqProofs (disch := omega) at c23
         refine vcK ?_
         simp -implicitDefEqProofs only [go_sem]
         have e19 := Option.some.inj h
         subst e19
         have hy19 := hret19 _ rfl
         refine hc19 _ _ ?_
         refine .same ⟨hy19, rfl, ?_, ?_⟩ <;> first | with_reducible rfl | with_reducible assumption | (simp -implicitDefEqProofs (maxSteps := 1000000) (disch := omega) [go_sem, t0_19, t3_19, t4_19, t5_19, ob0_17] <;> omega)
     ·refine IWp_seqF fun cb hc30 => ?_
      refine IWp_drawP [2, 7, 27] [0, 1, 2, 3, 4, 5, 6, 7, 8, 9, 10, 11, 12, 13, 14, 15, 16, 17, 18, 19, 20, 21, 22, 23, 24, 25, 26, 27, 28, 29, 30, 31, 32, 33, 34, 35, 36, 37, 38, 39, 40, 41, 42, 43, 44] (by kernel_rfl) (by kernel_rfl) (fun _ _ _ _ h => h) ?_
      try simp -implicitDefEqProofs (maxSteps := 1000000) (disch := omega) [go_sem, t0_8, t3_8]
      obtain ⟨x31, hx31, h⟩ := bind_some' h
      refine PureC.mk _ (fun _ _ hK => ICalls.eqA (args' := [.v (str ((a0.getD v9.toNat S50.zero).fName))]) (by first | with_reducible rfl | (simp -implicitDefEqProofs (maxSteps := 1000000) (disch := omega) [go_sem, t0_8, t3_8] <;> omega)) (F49_ok ((a0.getD v9.toNat S50.zero).fName) hx31 hK)) ?_
      try simp -implicitDefEqProofs (maxSteps := 1000000) (disch := omega) [go_sem, t0_8, t3_8]
      refine splitG_f h (by first | with_reducible rfl | (simp -implicitDefEqProofs (maxSteps := 1000000) (disch := omega) [go_sem, t0_8, t3_8] <;> omega)) ?_ ?_
      ·intro c47 h
       try simp -implicitDefEqProofs (disch := omega) at c47
       try simp -implicitDefEqProofs (maxSteps := 1000000) (disch := omega) [go_sem, t0_8, t3_8]
       subst hc30
       refine IWp_cond_t (by first | with_reducible rfl | (simp -implicitDefEqProofs (maxSteps := 1000000) (disch := omega) [go_sem, t0_8, t3_8] <;> omega)) rfl ?_
       refine IWp_seqF fun cb hc32 => ?_
       refine vcK ?_
       try simp -implicitDefEqProofs (maxSteps := 1000000) (disch := omega) [go_sem, t0_8, t3_8]
       subst hc32
       refine vcK ?_
       simp -implicitDefEqProofs only [go_sem]
       have e8 := Option.some.inj h
       subst e8
       have e8 := hret8 _ rfl
       subst e8
       replace h : some false = some r := hk8
       have er := Option.some.inj h
       subst er
       try simp -implicitDefEqProofs (maxSteps := 1000000) (disch := omega) [go_sem, t0_8, t3_8]
       refine retG_pureA he8 hK (e := by first | with_reducible rfl | (simp -implicitDefEqProofs (maxSteps := 1000000) (disch := omega) [go_sem, t0_8, t3_8] <;> omega))
      ·intro c47 h
       try simp -implicitDefEqProofs (disch := omega) at c47
       try simp -implicitDefEqProofs (maxSteps := 1000000) (disch := omega) [go_sem, t0_8, t3_8]
       obtain ⟨x33, hx33, h⟩ := bind_some' h
       refine PureC.mk _ (fun _ _ hK => ICalls.eqA (args' := [.v (str ((a0.getD v9.toNat S50.zero).fName))]) (by first | with_reducible rfl | (simp -implicitDefEqProofs (maxSteps := 1000000) (disch := omega) [go_sem, t0_8, t3_8] <;> omega)) (F50_ok ((a0.getD v9.toNat S50.zero).fName) hx33 hK)) ?_
       try simp -implicitDefEqProofs (maxSteps := 1000000) (disch := omega) [go_sem, t0_8, t3_8]
       refine splitG_f h (by first | with_reducible rfl | (simp -implicitDefEqProofs (maxSteps := 1000000) (disch := omega) [go_sem, t0_8, t3_8] <;> omega)) ?_ ?_
       ·intro c46 h
        try simp -implicitDefEqProofs (disch := omega) at c46
        try simp -implicitDefEqProofs (maxSteps := 1000000) (disch := omega) [go_sem, t0_8, t3_8]
        subst hc30
        refine IWp_cond_t (by first | with_reducible rfl | (simp -implicitDefEqProofs (maxSteps := 1000000) (disch := omega) [go_sem, t0_8, t3_8] <;> omega)) rfl ?_
        refine IWp_seqF fun cb hc34 => ?_
        refine vcK ?_
        try simp -implicitDefEqProofs (maxSteps := 1000000) (disch := omega) [go_sem, t0_8, t3_8]
        subst hc34
        refine vcK ?_
        simp -implicitDefEqProofs only [go_sem]
        have e8 := Option.some.inj h
        subst e8
        have e8 := hret8 _ rfl
        subst e8
        replace h : some false = some r := hk8
        have er := Option.some.inj h
        subst er
        try simp -implicitDefEqProofs (maxSteps := 1000000) (disch := omega) [go_sem, t0_8, t3_8]
        refine retG_pureA he8 hK (e := by first | with_reducible rfl | (simp -implicitDefEqProofs (maxSteps := 1000000) (disch := omega) [go_sem, t0_8, t3_8] <;> omega))
       ·intro c46 h
        try simp -implicitDefEqProofs (disch := omega) at c46
        try simp -implicitDefEqProofs (maxSteps := 1000000) (disch := omega) [go_sem, t0_8, t3_8]
        refine splitG_f h (by first | with_reducible rfl | (simp -implicitDefEqProofs (maxSteps := 1000000) (disch := omega) [go_sem, t0_8, t3_8] <;> omega)) ?_ ?_
        ·intro c45 h
         try simp -implicitDefEqProofs (disch := omega) at c45
         try simp -implicitDefEqProofs (maxSteps := 1000000) (disch := omega) [go_sem, t0_8, t3_8]
         subst hc30
         refine IWp_cond_t (by first | with_reducible rfl | (simp -implicitDefEqProofs (maxSteps := 1000000) (disch := omega) [go_sem, t0_8, t3_8] <;> omega)) rfl ?_
         refine IWp_seqF fun cb hc35 => ?_
         refine vcK ?_
         try simp -implicitDefEqProofs (maxSteps := 1000000) (disch := omega) [go_sem, t0_8, t3_8]
         subst hc35
         refine vcK ?_
         simp -implicitDefEqProofs only [go_sem]
         have e8 := Option.some.inj h
         subst e8
         have e8 := hret8 _ rfl
         subst e8
         replace h : some false = some r := hk8
         have er := Option.some.inj h
         subst er
         try simp -implicitDefEqProofs (maxSteps := 1000000) (disch := omega) [go_sem, t0_8, t3_8]
         refine retG_pureA he8 hK (e := by first | with_reducible rfl | (simp -implicitDefEqProofs (maxSteps := 1000000) (disch := omega) [go_sem, t0_8, t3_8] <;> omega))
        ·intro c45 h
         try simp -implicitDefEqProofs (disch := omega) at c45
         try simp -implicitDefEqProofs (maxSteps := 1000000) (disch := omega) [go_sem, t0_8, t3_8]
         refine splitG_f h (by first | with_reducible rfl | (simp -implicitDefEqProofs (maxSteps := 1000000) (disch := omega) [go_sem, t0_8, t3_8] <;> omega)) ?_ ?_
         ·intro c44 h
          try simp -implicitDefEqProofs (disch := omega) at c44
          try simp -implicitDefEqProofs (maxSteps := 1000000) (disch := omega) [go_sem, t0_8, t3_8]
          subst hc30
          refine IWp_cond_t (by first | with_reducible rfl | (simp -implicitDefEqProofs (maxSteps := 1000000) (disch := omega) [go_sem, t0_8, t3_8] <;> omega)) rfl ?_
          refine IWp_seqF fun cb hc36 => ?_
          refine vcK ?_
          try simp -implicitDefEqProofs (maxSteps := 1000000) (disch := omega) [go_sem, t0_8, t3_8]
          subst hc36
          refine vcK ?_
          simp -implicitDefEqProofs only [go_sem]
          have e8 := Option.some.inj h
          subst e8
          have e8 := hret8 _ rfl
          subst e8
          replace h : some false = some r := hk8
          have er := Option.some.inj h
          subst er
          try simp -implicitDefEqProofs (maxSteps := 1000000) (disch := omega) [go_sem, t0_8, t3_8]
          refine retG_pureA he8 hK (e := by first | with_reducible rfl | (simp -implicitDefEqProofs (maxSteps := 1000000) (disch := omega) [go_sem, t0_8, t3_8] <;> omega))
         ·intro c44 h
          try simp -implicitDefEqProofs (disch := omega) at c44
          try simp -implicitDefEqProofs (maxSteps := 1000000) (disch := omega) [go_sem, t0_8, t3_8]
          obtain ⟨x37, hx37, h⟩ := bind_some' h
          refine PureC.mk _ (fun _ _ hK => ICalls.eqA (args' := [.sl 1 (((a0.getD v9.toNat S50.zero).fValues).map fun x => [.v (str x)])]) (by first | with_reducible rfl | (simp -implicitDefEqProofs (maxSteps := 1000000) (disch := omega) [go_sem, t0_8, t3_8] <;> omega)) (F51_ok ((a0.getD v9.toNat S50.zero).fValues) hx37 hK)) ?_
          try simp -implicitDefEqProofs (maxSteps := 1000000) (disch := omega) [go_sem, t0_8, t3_8]
          refine splitG_f h (by first | with_reducible rfl | (simp -implicitDefEqProofs (maxSteps := 1000000) (disch := omega) [go_sem, t0_8, t3_8] <;> omega)) ?_ ?_
          ·intro c43 h
           try simp -implicitDefEqProofs (disch := omega) at c43
           try simp -implicitDefEqProofs (maxSteps := 1000000) (disch := omega) [go_sem, t0_8, t3_8]
           subst hc30
           refine IWp_cond_t (by first | with_reducible rfl | (simp -implicitDefEqProofs (maxSteps := 1000000) (disch := omega) [go_sem, t0_8, t3_8] <;> omega)) rfl ?_
           refine IWp_seqF fun cb hc38 => ?_
           refine vcK ?_
           try simp -implicitDefEqProofs (maxSteps := 1000000) (disch := omega) [go_sem, t0_8, t3_8]
           subst hc38
           refine vcK ?_
           simp -implicitDefEqProofs only [go_sem]
           have e8 := Option.some.inj h
           subst e8
           have e8 := hret8 _ rfl
           subst e8
           replace h : some false = some r := hk8
           have er := Option.some.inj h
           subst er
           try simp -implicitDefEqProofs (maxSteps := 1000000) (disch := omega) [go_sem, t0_8, t3_8]
           refine retG_pureA he8 hK (e := by first | with_reducible rfl | (simp -implicitDefEqProofs (maxSteps := 1000000) (disch := omega) [go_sem, t0_8, t3_8] <;> omega))
          ·intro c43 h
           try simp -implicitDefEqProofs (disch := omega) at c43
           try simp -implicitDefEqProofs (maxSteps := 1000000) (disch := omega) [go_sem, t0_8, t3_8]
           refine splitG_f h (by first | with_reducible rfl | (simp -implicitDefEqProofs (maxSteps := 1000000) (disch := omega) [go_sem, t0_8, t3_8] <;> omega)) ?_ ?_
           ·intro c42 h
            try simp -implicitDefEqProofs (disch := omega) at c42
            obtain ⟨g39, h⟩ := gd_some.1 h
            try simp -implicitDefEqProofs (disch := omega) at g39
            try simp -implicitDefEqProofs (maxSteps := 1000000) (disch := omega) [go_sem, t0_8, t3_8]
            subst hc30
            refine IWp_cond_i h (by first | with_reducible rfl | (simp -implicitDefEqProofs (maxSteps := 1000000) (disch := omega) [go_sem, t0_8, t3_8] <;> omega)) rfl ?_ ?_
            ·intro c40 h
             try simp -implicitDefEqProofs (disch := omega) at c40
             refine IWp_seqF fun cb hc41 => ?_
             refine vcK ?_
             try simp -implicitDefEqProofs (maxSteps := 1000000) (disch := omega) [go_sem, t0_8, t3_8]
             subst hc41
             refine vcK ?_
             simp -implicitDefEqProofs only [go_sem]
             have e8 := Option.some.inj h
             subst e8
             have e8 := hret8 _ rfl
             subst e8
             replace h : some false = some r := hk8
             have er := Option.some.inj h
             subst er
             try simp -implicitDefEqProofs (maxSteps := 1000000) (disch := omega) [go_sem, t0_8, t3_8]
             refine retG_pureA he8 hK (e := by first | with_reducible rfl | (simp -implicitDefEqProofs (maxSteps := 1000000) (disch := omega) [go_sem, t0_8, t3_8] <;> omega))
            ·intro c40 h
             try simp -implicitDefEqProofs (disch := omega) at c40
             refine vcK ?_
             simp -implicitDefEqProofs only [go_sem]
             refine hc17 _ _ ?_
             refine .same ⟨by repeat (first | exact he8 | refine Ext.new ?_ _ | refine Ext.set ?_ (by first | omega | (simp [go_sem]; done) | (simp [go_sem]; omega)) _ | refine Ext.del ?_ (by first | omega | (simp [go_sem]; done) | (simp [go_sem]; omega))), by first | with_reducible rfl | with_reducible assumption | omega | (simp -implicitDefEqProofs (maxSteps := 1000000) (disch := omega) [go_sem, t0_8, t3_8] <;> omega), by first | with_reducible rfl | with_reducible assumption | (simp -implicitDefEqProofs (maxSteps := 1000000) (disch := omega) [go_sem, t0_8, t3_8] <;> omega), by first | with_reducible rfl | with_reducible assumption | (simp -implicitDefEqProofs (maxSteps := 1000000) (disch := omega) [go_sem, t0_8, t3_8] <;> omega), by first | with_reducible rfl | with_reducible assumption | (simp -implicitDefEqProofs (maxSteps := 1000000) (disch := omega) [go_sem, t0_8, t3_8] <;> omega), by first | with_reducible rfl | with_reducible assumption | (simp -implicitDefEqProofs (maxSteps := 1000000) (disch := omega) [go_sem, t0_8, t3_8] <;> omega), h⟩
           ·intro c42 h
            try simp -implicitDefEqProofs (disch := omega) at c42
            try simp -implicitDefEqProofs (maxSteps := 1000000) (disch := omega) [go_sem, t0_8, t3_8]
            subst hc30
            refine IWp_cond_f (by first | with_reducible rfl | (simp -implicitDefEqProofs (maxSteps := 1000000) (disch := omega) [go_sem, t0_8, t3_8] <;> omega)) rfl ?_
            refine vcK ?_
            simp -implicitDefEqProofs only [go_sem]
            refine hc17 _ _ ?_
            refine .same ⟨by repeat (first | exact he8 | refine Ext.new ?_ _ | refine Ext.set ?_ (by first | omega | (simp [go_sem]; done) | (simp [go_sem]; omega)) _ | refine Ext.del ?_ (by first | omega | (simp [go_sem]; done) | (simp [go_sem]; omega))), by first | with_reducible rfl | with_reducible assumption | omega | (simp -implicitDefEqProofs (maxSteps := 1000000) (disch := omega) [go_sem, t0_8, t3_8] <;> omega), by first | with_reducible rfl | with_reducible assumption | (simp -implicitDefEqProofs (maxSteps := 1000000) (disch := omega) [go_sem, t0_8, t3_8] <;> omega), by first | with_reducible rfl | with_reducible assumption | (simp -implicitDefEqProofs (maxSteps := 1000000) (disch := omega) [go_sem, t0_8, t3_8] <;> omega), by first | with_reducible rfl | with_reducible assumption | (simp -implicitDefEqProofs (maxSteps := 1000000) (disch := omega) [go_sem, t0_8, t3_8] <;> omega), by first | with_reducible rfl | with_reducible assumption | (simp -implicitDefEqProofs (maxSteps := 1000000) (disch := omega) [go_sem, t0_8, t3_8] <;> omega), h⟩
    ·intro c13 h
     try simp -implicitDefEqProofs (disch := omega) at c13
     refine vcK ?_
     simp -implicitDefEqProofs only [go_sem]
     have e8 := Option.some.inj h
     subst e8
     have hy8 := hret8 _ rfl
     refine hc8 _ _ ?_
     refine .same ⟨hy8, by repeat (first | exact he8 | refine Ext.new ?_ _ | refine Ext.set ?_ (by first | omega | (simp [go_sem]; done) | (simp [go_sem]; omega)) _ | refine Ext.del ?_ (by first | omega | (simp [go_sem]; done) | (simp [go_sem]; omega))), by first | with_reducible rfl | with_reducible assumption | omega | (simp -implicitDefEqProofs (maxSteps := 1000000) (disch := omega) [go_sem, t0_8, t3_8] <;> omega)⟩

/-! cardcase/cardcaseref07.May -/

/-! cardcase/cardcaseref07.Get -/

noncomputable def F23_k4  : Option ((List (List UInt8))) :=
 some []

noncomputable def F23_b4 (a0 : List S50) (a1 : List UInt8) (v5 : Int) : Option (Int ⊕ (Unit ⊕ ((List (List UInt8))))) :=
 if v5 < (a0.length : Int) then (gd (0 ≤ v5 ∧ v5 < a0.length) ((F50 a1).bind fun (x13 : (List UInt8)) => if ((a0.getD v5.toNat S50.zero).fName) = x13 then (some (.inr (.inr ((a0.getD v5.toNat S50.zero).fValues)))) else (some (.inl (IntKind.i64.wrap (v5 + 1)))))) else (some (.inr (.inl ())))

noncomputable def F23 (a0 : List S50) (a1 : List UInt8) : Option ((List (List UInt8))) :=
 (loopO (fun (s : Int) => F23_b4 a0 a1 s) 0).bind fun y => Sum.elim (fun (e : Unit) => F23_k4) (fun (q : (List (List UInt8))) => some q) y

set_option maxHeartbeats 8000000 in
set_option pp.deepTerms false in
set_option maxRecDepth 60000 in
theorem F23_ok {H : IHeap} {K : IEnd → IHeap → Prop} (a0 : List S50) (a1 : List UInt8) {r : (List (List UInt8))} (h : F23 a0 a1 = some r) (hK : K (.ret (.sl 1 (r.map fun x => [.v (str x)]))) H) : ICalls prog 23 [.sl 2 (a0.map fun x => [.v (str x.fName), .sl 1 (x.fValues.map fun x => [.v (str x)])]), .v (str a1)] H K := by
 refine ICalls_iwp (N := 25) func23 (by kernel_rfl) rfl (by kernel_rfl) (by kernel_rfl) fun cb hcb hw hbd hnb => ?_
 clear hbd hnb
 subst hcb
 unfold F23 at h
 refine IWp_seqF fun cb hc1 => ?_
 refine vcK ?_
 try simp -implicitDefEqProofs (maxSteps := 1000000) (disch := omega) [go_sem]
 subst hc1
 refine IWp_seqF fun cb hc2 => ?_
 refine IWp_seqF fun cb hc3 => ?_
 refine vcK ?_
 try simp -implicitDefEqProofs (maxSteps := 1000000) (disch := omega) [go_sem]
 subst hc3
 obtain ⟨y4, hl4q, hk4⟩ := bind_some' h
 refine IWp_tailC (fun tm' H' => .inl () = y4 ∧ H = H') ?_ fun cb hc4 => ?_
 ·rintro tm4e H4e ⟨rfl, rfl⟩
  have h : F23_k4 = some r := hk4
  unfold F23_k4 at h
  simp -implicitDefEqProofs only [go_sem]
  subst hc2
  refine IWp_seqF fun cb hc6 => ?_
  refine vcK ?_
  try simp -implicitDefEqProofs (maxSteps := 1000000) (disch := omega) [go_sem]
  subst hc6
  refine IWp.gh (Gh.slotN 4 1 (by simp -implicitDefEqProofs (maxSteps := 1000000) (disch := omega) [go_sem])) ?_
  refine vcK ?_
  simp -implicitDefEqProofs only [go_sem]
  have er := Option.some.inj h
  subst er
  try simp -implicitDefEqProofs (maxSteps := 1000000) (disch := omega) [go_sem]
  refine retG_pureA (Ext.refl hw) hK (e := by first | with_reducible rfl | (simp -implicitDefEqProofs (maxSteps := 1000000) (disch := omega) [go_sem] <;> omega))
 ·refine IWp_block ?_
  refine IWp_loopF (fun (s : Int) tm' H' => H = H' ∧ tm' 0 = .sl 2 (a0.map fun x => [.v (str x.fName), .sl 1 (x.fValues.map fun x => [.v (str x)])]) ∧ tm' 1 = .v (str a1) ∧ tm' 5 = .v (.int .i64 s)) hl4q ?_ ?_
  ·refine .same ⟨rfl, ?_, ?_, ?_⟩ <;> first | with_reducible rfl | with_reducible assumption | (simp -implicitDefEqProofs (maxSteps := 1000000) (disch := omega) [go_sem] <;> omega)
  ·rintro I4 hI4 v5 x4 tm4 H4 ⟨rfl, t0_4, t1_4, t5_4⟩ h hret4
   replace h : F23_b4 a0 a1 v5 = some x4 := h
   unfold F23_b4 at h
   refine IWp_seqF fun cb hc7 => ?_
   refine IWp_seqF fun cb hc8 => ?_
   refine vcK ?_
   try simp -implicitDefEqProofs (maxSteps := 1000000) (disch := omega) [go_sem, t0_4, t1_4, t5_4]
   subst hc8
   refine IWp_cond_i h (by first | with_reducible rfl | (simp -implicitDefEqProofs (maxSteps := 1000000) (disch := omega) [go_sem, t0_4, t1_4, t5_4] <;> omega)) rfl ?_ ?_
   ·intro c9 h
    try simp -implicitDefEqProofs (disch := omega) at c9
    refine vcK ?_
    simp -implicitDefEqProofs only [go_sem]
    subst hc7
    refine IWp_seqF fun cb hc10 => ?_
    refine IWp_block ?_
    refine IWp_seqF fun cb hc11 => ?_
    refine IWp_drawP [6] [0, 1, 2, 3, 4, 5, 6, 7] (by kernel_rfl) (by kernel_rfl) (fun _ _ _ _ h => h) ?_
    obtain ⟨g12, h⟩ := gd_some.1 h
    try simp -implicitDefEqProofs (disch := omega) at g12
    try simp -implicitDefEqProofs (maxSteps := 1000000) (disch := omega) [go_sem, t0_4, t1_4, t5_4]
    obtain ⟨x13, hx13, h⟩ := bind_some' h
    refine PureC.mk _ (fun _ _ hK => ICalls.eqA (args' := [.v (str a1)]) (by first | with_reducible rfl | (simp -implicitDefEqProofs (maxSteps := 1000000) (disch := omega) [go_sem, t0_4, t1_4, t5_4] <;> omega)) (F50_ok a1 hx13 hK)) ?_
    try simp -implicitDefEqProofs (maxSteps := 1000000) (disch := omega) [go_sem, t0_4, t1_4, t5_4]
    subst hc11
    refine IWp_cond_i h (by first | with_reducible rfl | (simp -implicitDefEqProofs (maxSteps := 1000000) (disch := omega) [go_sem, t0_4, t1_4, t5_4] <;> omega)) rfl ?_ ?_
    ·intro c14 h
     try simp -implicitDefEqProofs (disch := omega) at c14
     refine IWp_seqF fun cb hc15 => ?_
     refine vcK ?_
     try simp -implicitDefEqProofs (maxSteps := 1000000) (disch := omega) [go_sem, t0_4, t1_4, t5_4]
     subst hc15
     refine vcK ?_
     simp -implicitDefEqProofs only [go_sem]
     have e4 := Option.some.inj h
     subst e4
     have e4 := hret4 _ rfl
     subst e4
     replace h : some ((a0.getD v5.toNat S50.zero).fValues) = some r := hk4
     have er := Option.some.inj h
     subst er
     try simp -implicitDefEqProofs (maxSteps := 1000000) (disch := omega) [go_sem, t0_4, t1_4, t5_4]
     refine retG_pureA (Ext.refl hw) hK (e := by first | with_reducible rfl | (simp -implicitDefEqProofs (maxSteps := 1000000) (disch := omega) [go_sem, t0_4, t1_4, t5_4] <;> omega))
    ·intro c14 h
     try simp -implicitDefEqProofs (disch := omega) at c14
     refine vcK ?_
     simp -implicitDefEqProofs only [go_sem]
     subst hc10
     refine vcK ?_
     try simp -implicitDefEqProofs (maxSteps := 1000000) (disch := omega) [go_sem, t0_4, t1_4, t5_4]
     have e4 := Option.some.inj h
     subst e4
     refine loopN_mk hI4 (IntKind.i64.wrap (v5 + 1)) ?_
     refine .same ⟨rfl, ?_, ?_, ?_⟩ <;> first | with_reducible rfl | with_reducible assumption | (simp -implicitDefEqProofs (maxSteps := 1000000) (disch := omega) [go_sem, t0_4, t1_4, t5_4] <;> omega)
   ·intro c9 h
    try simp -implicitDefEqProofs (disch := omega) at c9
    refine vcK ?_
    simp -implicitDefEqProofs only [go_sem]
    have e4 := Option.some.inj h
    subst e4
    have hy4 := hret4 _ rfl
    refine hc4 _ _ ?_
    refine .same ⟨hy4, rfl⟩

/-! cardcase/cardcaseref07.among -/

/-! cardcase/cardcaseref07.twice -/

end Go.Idl

namespace Go.Idl

open Go Go.Proofs.Tryz

/-! cardcase/cardcaseref07.with -/

noncomputable def F54_k6 (a1 : List UInt8) (v11 : List (List UInt8)) (v13 : Bool) : Option ((List (List UInt8))) :=
 if ¬ (v13 = true) then (gd ((v11.length + ([a1]).length) * 16 ≤ 140737488355328) (some (v11 ++ ([a1])))) else (some v11)

noncomputable def F54_k24 (a0 : List (List UInt8)) (a1 : List UInt8) (v10 : Int) (v25 : List (List UInt8)) (v27 : Bool) : Option (((List (List UInt8)) × Bool × Int) ⊕ ((List (List UInt8)) × Bool)) :=
 gd (0 ≤ v10 ∧ v10 < a0.length) (if ¬ (a0.getD v10.toNat []) = a1 then (gd ((v25.length + ([a0.getD v10.toNat []]).length) * 16 ≤ 140737488355328) (some (.inl ((v25 ++ ([a0.getD v10.toNat []]), v27, IntKind.i64.wrap (v10 + 1)))))) else (some (.inl ((v25, v27, IntKind.i64.wrap (v10 + 1))))))

noncomputable def F54_b6 (a0 : List (List UInt8)) (a1 : List UInt8) (v7 : List (List UInt8)) (v9 : Bool) (v10 : Int) : Option (((List (List UInt8)) × Bool × Int) ⊕ ((List (List UInt8)) × Bool)) :=
 if v10 < (a0.length : Int) then (if ¬ (v9 = true) then (gd (0 ≤ v10 ∧ v10 < a0.length) (if ¬ Op.bytesLess (a0.getD v10.toNat []) a1 = true then (gd ((v7.length + ([a1]).length) * 16 ≤ 140737488355328) (F54_k24 a0 a1 v10 (v7 ++ ([a1])) true)) else (F54_k24 a0 a1 v10 v7 v9))) else (F54_k24 a0 a1 v10 v7 v9)) else (some (.inr (v7, v9)))

noncomputable def F54 (a0 : List (List UInt8)) (a1 : List UInt8) : Option ((List (List UInt8))) :=
 (loopO (fun (s : (List (List UInt8)) × Bool × Int) => F54_b6 a0 a1 s.1 s.2.1 s.2.2) ([], false, 0)).bind fun (e : (List (List UInt8)) × Bool) => F54_k6 a1 e.1 e.2

set_option maxHeartbeats 8000000 in
set_option pp.deepTerms false in
set_option maxRecDepth 60000 in
theorem F54_ok {H : IHeap} {K : IEnd → IHeap → Prop} (a0 : List (List UInt8)) (a1 : List UInt8) {r : (List (List UInt8))} (h : F54 a0 a1 = some r) (hK : K (.ret (.sl 1 (r.map fun x => [.v (str x)]))) H) : ICalls prog 54 [.sl 1 (a0.map fun x => [.v (str x)]), .v (str a1)] H K := by
 refine ICalls_iwp (N := 48) func54 (by kernel_rfl) rfl (by kernel_rfl) (by kernel_rfl) fun cb hcb hw hbd hnb => ?_
 clear hbd hnb
 subst hcb
 unfold F54 at h
 refine IWp_seqF fun cb hc1 => ?_
 refine vcK ?_
 try simp -implicitDefEqProofs (maxSteps := 1000000) (disch := omega) [go_sem]
 subst hc1
 refine IWp_seqF fun cb hc2 => ?_
 refine vcK ?_
 try simp -implicitDefEqProofs (maxSteps := 1000000) (disch := omega) [go_sem]
 subst hc2
 refine IWp_seqF fun cb hc3 => ?_
 refine vcK ?_
 try simp -implicitDefEqProofs (maxSteps := 1000000) (disch := omega) [go_sem]
 subst hc3
 refine IWp_seqF fun cb hc4 => ?_
 refine IWp_seqF fun cb hc5 => ?_
 refine vcK ?_
 try simp -implicitDefEqProofs (maxSteps := 1000000) (disch := omega) [go_sem]
 subst hc5
 obtain ⟨y6, hl6q, hk6⟩ := bind_some' h
 refine IWp_tailC (fun tm' H' => ∃ n12 : Nat, ∃ v11 : List (List UInt8), ∃ v13 : Bool, (v11, v13) = y6 ∧ Ext H H' ∧ H.next ≤ H'.next ∧ H.next ≤ n12 ∧ n12 < H'.next ∧ tm' 1 = .v (str a1) ∧ tm' 5 = .os n12 v11.length ∧ tm' 6 = .v (.bool v13) ∧ H'.obj n12 = some (.row 1 (v11.map fun x => [.v (str x)]))) ?_ fun cb hc6 => ?_
 ·rintro tm6e H6e ⟨n12, v11, v13, rfl, he6e, hl6e, hr0_6e, hs0_6e, t1_6e, t5_6e, t6_6e, or0_6e⟩
  have h : F54_k6 a1 v11 v13 = some r := hk6
  unfold F54_k6 at h
  simp -implicitDefEqProofs only [go_sem]
  subst hc4
  refine IWp_seqF fun cb hc14 => ?_
  refine IWp_seqF fun cb hc15 => ?_
  refine vcK ?_
  try simp -implicitDefEqProofs (maxSteps := 1000000) (disch := omega) [go_sem, t1_6e, t5_6e, t6_6e, or0_6e]
  subst hc15
  refine IWp_cond_i h (by first | with_reducible rfl | (simp -implicitDefEqProofs (maxSteps := 1000000) (disch := omega) [go_sem, t1_6e, t5_6e, t6_6e, or0_6e] <;> omega)) rfl ?_ ?_
  ·intro c16 h
   try simp -implicitDefEqProofs (disch := omega) at c16
   refine vcK ?_
   obtain ⟨g17, h⟩ := gd_some.1 h
   try simp -implicitDefEqProofs (disch := omega) at g17
   try simp -implicitDefEqProofs (maxSteps := 1000000) (disch := omega) [go_sem, t1_6e, t5_6e, t6_6e, or0_6e]
   subst hc14
   refine IWp_seqF fun cb hc18 => ?_
   refine vcK ?_
   try simp -implicitDefEqProofs (maxSteps := 1000000) (disch := omega) [go_sem, t1_6e, t5_6e, t6_6e, or0_6e]
   subst hc18
   refine IWp.gh (Gh.freeze (d := 4) (k := n12) (sz := 1) (es := (v11 ++ ([a1])).map fun x => [.v (str x)]) (by simp -implicitDefEqProofs (maxSteps := 1000000) (disch := omega) [go_sem, t1_6e, t5_6e, t6_6e, or0_6e]) (by simp -implicitDefEqProofs (maxSteps := 1000000) (disch := omega) [go_sem, t1_6e, t5_6e, t6_6e, or0_6e])) ?_
   refine vcK ?_
   simp -implicitDefEqProofs only [go_sem]
   have er := Option.some.inj h
   subst er
   try simp -implicitDefEqProofs (maxSteps := 1000000) (disch := omega) [go_sem, t1_6e, t5_6e, t6_6e, or0_6e]
   refine retG_pureA he6e hK (e := by first | with_reducible rfl | (simp -implicitDefEqProofs (maxSteps := 1000000) (disch := omega) [go_sem, t1_6e, t5_6e, t6_6e, or0_6e] <;> omega))
  ·intro c16 h
   try simp -implicitDefEqProofs (disch := omega) at c16
   refine vcK ?_
   simp -implicitDefEqProofs only [go_sem]
   subst hc14
   refine IWp_seqF fun cb hc19 => ?_
   refine vcK ?_
   try simp -implicitDefEqProofs (maxSteps := 1000000) (disch := omega) [go_sem, t1_6e, t5_6e, t6_6e, or0_6e]
   subst hc19
   refine IWp.gh (Gh.freeze (d := 4) (k := n12) (sz := 1) (es := v11.map fun x => [.v (str x)]) (by simp -implicitDefEqProofs (maxSteps := 1000000) (disch := omega) [go_sem, t1_6e, t5_6e, t6_6e, or0_6e]) (by simp -implicitDefEqProofs (maxSteps := 1000000) (disch := omega) [go_sem, t1_6e, t5_6e, t6_6e, or0_6e])) ?_
   refine vcK ?_
   simp -implicitDefEqProofs only [go_sem]
   have er := Option.some.inj h
   subst er
   try simp -implicitDefEqProofs (maxSteps := 1000000) (disch := omega) [go_sem, t1_6e, t5_6e, t6_6e, or0_6e]
   refine retG_pureA he6e hK (e := by first | with_reducible rfl | (simp -implicitDefEqProofs (maxSteps := 1000000) (disch := omega) [go_sem, t1_6e, t5_6e, t6_6e, or0_6e] <;> omega))
 ·refine IWp_block ?_
  refine IWp_loopF (fun (s : (List (List UInt8)) × Bool × Int) tm' H' => ∃ n8 : Nat, Ext H H' ∧ H.next ≤ H'.next ∧ H.next ≤ n8 ∧ n8 < H'.next ∧ tm' 0 = .sl 1 (a0.map fun x => [.v (str x)]) ∧ tm' 1 = .v (str a1) ∧ tm' 5 = .os n8 s.1.length ∧ tm' 6 = .v (.bool s.2.1) ∧ tm' 7 = .v (.int .i64 s.2.2) ∧ H'.obj n8 = some (.row 1 (s.1.map fun x => [.v (str x)]))) hl6q ?_ ?_
  ·refine UpI.gh (Gh.nilrow (d := 5) (sz := 1) (by omega) (by (simp -implicitDefEqProofs (maxSteps := 1000000) (disch := omega) [go_sem] <;> omega))) ?_
   refine .same ⟨H.next, by repeat (first | exact (Ext.refl hw) | refine Ext.new ?_ _ | refine Ext.set ?_ (by first | omega | (simp [go_sem]; done) | (simp [go_sem]; omega)) _ | refine Ext.del ?_ (by first | omega | (simp [go_sem]; done) | (simp [go_sem]; omega))), by first | with_reducible rfl | with_reducible assumption | omega | (simp -implicitDefEqProofs (maxSteps := 1000000) (disch := omega) [go_sem] <;> omega), by first | with_reducible rfl | with_reducible assumption | omega | (simp -implicitDefEqProofs (maxSteps := 1000000) (disch := omega) [go_sem] <;> omega), by first | with_reducible rfl | with_reducible assumption | omega | (simp -implicitDefEqProofs (maxSteps := 1000000) (disch := omega) [go_sem] <;> omega), by first | with_reducible rfl | with_reducible assumption | (simp -implicitDefEqProofs (maxSteps := 1000000) (disch := omega) [go_sem] <;> omega), by first | with_reducible rfl | with_reducible assumption | (simp -implicitDefEqProofs (maxSteps := 1000000) (disch := omega) [go_sem] <;> omega), by first | with_reducible rfl | with_reducible assumption | (simp -implicitDefEqProofs (maxSteps := 1000000) (disch := omega) [go_sem] <;> omega), by first | with_reducible rfl | with_reducible assumption | (simp -implicitDefEqProofs (maxSteps := 1000000) (disch := omega) [go_sem] <;> omega), by first | with_reducible rfl | with_reducible assumption | (simp -implicitDefEqProofs (maxSteps := 1000000) (disch := omega) [go_sem] <;> omega), by first | with_reducible rfl | with_reducible assumption | (simp -implicitDefEqProofs (maxSteps := 1000000) (disch := omega) [go_sem] <;> omega)⟩
  ·rintro I6 hI6 ⟨v7, v9, v10⟩ x6 tm6 H6 ⟨n8, he6, hl6, hr0_6, hs0_6, t0_6, t1_6, t5_6, t6_6, t7_6, or0_6⟩ h hret6
   replace h : F54_b6 a0 a1 v7 v9 v10 = some x6 := h
   unfold F54_b6 at h
   refine IWp_seqF fun cb hc20 => ?_
   refine IWp_seqF fun cb hc21 => ?_
   refine vcK ?_
   try simp -implicitDefEqProofs (maxSteps := 1000000) (disch := omega) [go_sem, t0_6, t1_6, t5_6, t6_6, t7_6, or0_6]
   subst hc21
   refine IWp_cond_i h (by first | with_reducible rfl | (simp -implicitDefEqProofs (maxSteps := 1000000) (disch := omega) [go_sem, t0_6, t1_6, t5_6, t6_6, t7_6, or0_6] <;> omega)) rfl ?_ ?_
   ·intro c22 h
    try simp -implicitDefEqProofs (disch := omega) at c22
    refine vcK ?_
    simp -implicitDefEqProofs only [go_sem]
    subst hc20
    refine IWp_seqF fun cb hc23 => ?_
    refine IWp_block ?_
    refine IWp_seqC (fun tm' H' => ∃ n26 : Nat, ∃ v25 : List (List UInt8), ∃ v27 : Bool, Ext H H' ∧ H6.next ≤ H'.next ∧ H.next ≤ n26 ∧ n26 < H'.next ∧ tm' 0 = .sl 1 (a0.map fun x => [.v (str x)]) ∧ tm' 1 = .v (str a1) ∧ tm' 5 = .os n26 v25.length ∧ tm' 6 = .v (.bool v27) ∧ tm' 7 = .v (.int .i64 v10) ∧ H'.obj n26 = some (.row 1 (v25.map fun x => [.v (str x)])) ∧ F54_k24 a0 a1 v10 v25 v27 = some x6) ?_ fun cb hc24 => ?_
    ·rintro tm24 H24 ⟨n26, v25, v27, he24, hl24, hr0_24, hs0_24, t0_24, t1_24, t5_24, t6_24, t7_24, or0_24, h⟩
     unfold F54_k24 at h
     refine IWp_seqF fun cb hc28 => ?_
     refine vcK ?_
     obtain ⟨g29, h⟩ := gd_some.1 h
     try simp -implicitDefEqProofs (disch := omega) at g29
     try simp -implicitDefEqProofs (maxSteps := 1000000) (disch := omega) [go_sem, t0_24, t1_24, t5_24, t6_24, t7_24, or0_24]
     subst hc28
     refine IWp_cond_i h (by first | with_reducible rfl | (simp -implicitDefEqProofs (maxSteps := 1000000) (disch := omega) [go_sem, t0_24, t1_24, t5_24, t6_24, t7_24, or0_24] <;> omega)) rfl ?_ ?_
     ·intro c30 h
      try simp -implicitDefEqProofs (disch := omega) at c30
      refine vcK ?_
      obtain ⟨g31, h⟩ := gd_some.1 h
      try simp -implicitDefEqProofs (disch := omega) at g31
      try simp -implicitDefEqProofs (maxSteps := 1000000) (disch := omega) [go_sem, t0_24, t1_24, t5_24, t6_24, t7_24, or0_24]
      subst hc23
      refine vcK ?_
      try simp -implicitDefEqProofs (maxSteps := 1000000) (disch := omega) [go_sem, t0_24, t1_24, t5_24, t6_24, t7_24, or0_24]
      have e6 := Option.some.inj h
      subst e6
      refine loopN_mk hI6 ((v25 ++ ([a0.getD v10.toNat []]), v27, IntKind.i64.wrap (v10 + 1))) ?_
      refine .same ⟨n26, by repeat (first | exact he24 | refine Ext.new ?_ _ | refine Ext.set ?_ (by first | omega | (simp [go_sem]; done) | (simp [go_sem]; omega)) _ | refine Ext.del ?_ (by first | omega | (simp [go_sem]; done) | (simp [go_sem]; omega))), by first | with_reducible rfl | with_reducible assumption | omega | (simp -implicitDefEqProofs (maxSteps := 1000000) (disch := omega) [go_sem, t0_24, t1_24, t5_24, t6_24, t7_24, or0_24] <;> omega), by first | with_reducible rfl | with_reducible assumption | omega | (simp -implicitDefEqProofs (maxSteps := 1000000) (disch := omega) [go_sem, t0_24, t1_24, t5_24, t6_24, t7_24, or0_24] <;> omega), by first | with_reducible rfl | with_reducible assumption | omega | (simp -implicitDefEqProofs (maxSteps := 1000000) (disch := omega) [go_sem, t0_24, t1_24, t5_24, t6_24, t7_24, or0_24] <;> omega), by first | with_reducible rfl | with_reducible assumption | (simp -implicitDefEqProofs (maxSteps := 1000000) (disch := omega) [go_sem, t0_24, t1_24, t5_24, t6_24, t7_24, or0_24] <;> omega), by first | with_reducible rfl | with_reducible assumption | (simp -implicitDefEqProofs (maxSteps := 1000000) (disch := omega) [go_sem, t0_24, t1_24, t5_24, t6_24, t7_24, or0_24] <;> omega), by first | with_reducible rfl | with_reducible assumption | (simp -implicitDefEqProofs (maxSteps := 1000000) (disch := omega) [go_sem, t0_24, t1_24, t5_24, t6_24, t7_24, or0_24] <;> omega), by first | with_reducible rfl | with_reducible assumption | (simp -implicitDefEqProofs (maxSteps := 1000000) (disch := omega) [go_sem, t0_24, t1_24, t5_24, t6_24, t7_24, or0_24] <;> omega), by first | with_reducible rfl | with_reducible assumption | (simp -implicitDefEqProofs (maxSteps := 1000000) (disch := omega) [go_sem, t0_24, t1_24, t5_24, t6_24, t7_24, or0_24] <;> omega), by first | with_reducible rfl | with_reducible assumption | (simp -implicitDefEqProofs (maxSteps := 1000000) (disch := omega) [go_sem, t0_24, t1_24, t5_24, t6_24, t7_24, or0_24] <;> omega)⟩
     ·intro c30 h
      try simp -implicitDefEqProofs (disch := omega) at c30
      refine vcK ?_
      simp -implicitDefEqProofs only [go_sem]
      subst hc23
      refine vcK ?_
      try simp -implicitDefEqProofs (maxSteps := 1000000) (disch := omega) [go_sem, t0_24, t1_24, t5_24, t6_24, t7_24, or0_24]
      have e6 := Option.some.inj h
      subst e6
      refine loopN_mk hI6 ((v25, v27, IntKind.i64.wrap (v10 + 1))) ?_
      refine .same ⟨n26, by repeat (first | exact he24 | refine Ext.new ?_ _ | refine Ext.set ?_ (by first | omega | (simp [go_sem]; done) | (simp [go_sem]; omega)) _ | refine Ext.del ?_ (by first | omega | (simp [go_sem]; done) | (simp [go_sem]; omega))), by first | with_reducible rfl | with_reducible assumption | omega | (simp -implicitDefEqProofs (maxSteps := 1000000) (disch := omega) [go_sem, t0_24, t1_24, t5_24, t6_24, t7_24, or0_24] <;> omega), by first | with_reducible rfl | with_reducible assumption | omega | (simp -implicitDefEqProofs (maxSteps := 1000000) (disch := omega) [go_sem, t0_24, t1_24, t5_24, t6_24, t7_24, or0_24] <;> omega), by first | with_reducible rfl | with_reducible assumption | omega | (simp -implicitDefEqProofs (maxSteps := 1000000) (disch := omega) [go_sem, t0_24, t1_24, t5_24, t6_24, t7_24, or0_24] <;> omega), by first | with_reducible rfl | with_reducible assumption | (simp -implicitDefEqProofs (maxSteps := 1000000) (disch := omega) [go_sem, t0_24, t1_24, t5_24, t6_24, t7_24, or0_24] <;> omega), by first | with_reducible rfl | with_reducible assumption | (simp -implicitDefEqProofs (maxSteps := 1000000) (disch := omega) [go_sem, t0_24, t1_24, t5_24, t6_24, t7_24, or0_24] <;> omega), by first | with_reducible rfl | with_reducible assumption | (simp -implicitDefEqProofs (maxSteps := 1000000) (disch := omega) [go_sem, t0_24, t1_24, t5_24, t6_24, t7_24, or0_24] <;> omega), by first | with_reducible rfl | with_reducible assumption | (simp -implicitDefEqProofs (maxSteps := 1000000) (disch := omega) [go_sem, t0_24, t1_24, t5_24, t6_24, t7_24, or0_24] <;> omega), by first | with_reducible rfl | with_reducible assumption | (simp -implicitDefEqProofs (maxSteps := 1000000) (disch := omega) [go_sem, t0_24, t1_24, t5_24, t6_24, t7_24, or0_24] <;> omega), by first | with_reducible rfl | with_reducible assumption | (simp -implicitDefEqProofs (maxSteps := 1000000) (disch := omega) [go_sem, t0_24, t1_24, t5_24, t6_24, t7_24, or0_24] <;> omega)⟩
    ·refine IWp_seqF fun cb hc32 => ?_
     refine vcK ?_
     try simp -implicitDefEqProofs (maxSteps := 1000000) (disch := omega) [go_sem, t0_6, t1_6, t5_6, t6_6, t7_6, or0_6]
     refine splitG_f h (by first | with_reducible rfl | (simp -implicitDefEqProofs (maxSteps := 1000000) (disch := omega) [go_sem, t0_6, t1_6, t5_6, t6_6, t7_6, or0_6] <;> omega)) ?_ ?_
     ·intro c37 h
      try simp -implicitDefEqProofs (disch := omega) at c37
      obtain ⟨g33, h⟩ := gd_some.1 h
      try simp -implicitDefEqProofs (disch := omega) at g33
      try simp -implicitDefEqProofs (maxSteps := 1000000) (disch := omega) [go_sem, t0_6, t1_6, t5_6, t6_6, t7_6, or0_6]
      subst hc32
      refine IWp_cond_i h (by first | with_reducible rfl | (simp -implicitDefEqProofs (maxSteps := 1000000) (disch := omega) [go_sem, t0_6, t1_6, t5_6, t6_6, t7_6, or0_6] <;> omega)) rfl ?_ ?_
      ·intro c34 h
       try simp -implicitDefEqProofs (disch := omega) at c34
       refine IWp_seqF fun cb hc35 => ?_
       refine vcK ?_
       obtain ⟨g36, h⟩ := gd_some.1 h
       try simp -implicitDefEqProofs (disch := omega) at g36
       try simp -implicitDefEqProofs (maxSteps := 1000000) (disch := omega) [go_sem, t0_6, t1_6, t5_6, t6_6, t7_6, or0_6]
       subst hc35
       refine vcK ?_
       try simp -implicitDefEqProofs (maxSteps := 1000000) (disch := omega) [go_sem, t0_6, t1_6, t5_6, t6_6, t7_6, or0_6]
       refine hc24 _ _ ?_
       refine .same ⟨n8, (v7 ++ ([a1])), true, by repeat (first | exact he6 | refine Ext.new ?_ _ | refine Ext.set ?_ (by first | omega | (simp [go_sem]; done) | (simp [go_sem]; omega)) _ | refine Ext.del ?_ (by first | omega | (simp [go_sem]; done) | (simp [go_sem]; omega))), by first | with_reducible rfl | with_reducible assumption | omega | (simp -implicitDefEqProofs (maxSteps := 1000000) (disch := omega) [go_sem, t0_6, t1_6, t5_6, t6_6, t7_6, or0_6] <;> omega), by first | with_reducible rfl | with_reducible assumption | omega | (simp -implicitDefEqProofs (maxSteps := 1000000) (disch := omega) [go_sem, t0_6, t1_6, t5_6, t6_6, t7_6, or0_6] <;> omega), by first | with_reducible rfl | with_reducible assumption | omega | (simp -implicitDefEqProofs (maxSteps := 1000000) (disch := omega) [go_sem, t0_6, t1_6, t5_6, t6_6, t7_6, or0_6] <;> omega), by first | with_reducible rfl | with_reducible assumption | (simp -implicitDefEqProofs (maxSteps := 1000000) (disch := omega) [go_sem, t0_6, t1_6, t5_6, t6_6, t7_6, or0_6] <;> omega), by first | with_reducible rfl | with_reducible assumption | (simp -implicitDefEqProofs (maxSteps := 1000000) (disch := omega) [go_sem, t0_6, t1_6, t5_6, t6_6, t7_6, or0_6] <;> omega), by first | with_reducible rfl | with_reducible assumption | (simp -implicitDefEqProofs (maxSteps := 1000000) (disch := omega) [go_sem, t0_6, t1_6, t5_6, t6_6, t7_6, or0_6] <;> omega), by first | with_reducible rfl | with_reducible assumption | (simp -implicitDefEqProofs (maxSteps := 1000000) (disch := omega) [go_sem, t0_6, t1_6, t5_6, t6_6, t7_6, or0_6] <;> omega), by first | with_reducible rfl | with_reducible assumption | (simp -implicitDefEqProofs (maxSteps := 1000000) (disch := omega) [go_sem, t0_6, t1_6, t5_6, t6_6, t7_6, or0_6] <;> omega), by first | with_reducible rfl | with_reducible assumption | (simp -implicitDefEqProofs (maxSteps := 1000000) (disch := omega) [go_sem, t0_6, t1_6, t5_6, t6_6, t7_6, or0_6] <;> omega), h⟩
      ·intro c34 h
       try simp -implicitDefEqProofs (disch := omega) at c34
       refine vcK ?_
       simp -implicitDefEqProofs only [go_sem]
       refine hc24 _ _ ?_
       refine .same ⟨n8, v7, v9, by repeat (first | exact he6 | refine Ext.new ?_ _ | refine Ext.set ?_ (by first | omega | (simp [go_sem]; done) | (simp [go_sem]; omega)) _ | refine Ext.del ?_ (by first | omega | (simp [go_sem]; done) | (simp [go_sem]; omega))), by first | with_reducible rfl | with_reducible assumption | omega | (simp -implicitDefEqProofs (maxSteps := 1000000) (disch := omega) [go_sem, t0_6, t1_6, t5_6, t6_6, t7_6, or0_6] <;> omega), by first | with_reducible rfl | with_reducible assumption | omega | (simp -implicitDefEqProofs (maxSteps := 1000000) (disch := omega) [go_sem, t0_6, t1_6, t5_6, t6_6, t7_6, or0_6] <;> omega), by first | with_reducible rfl | with_reducible assumption | omega | (simp -implicitDefEqProofs (maxSteps := 1000000) (disch := omega) [go_sem, t0_6, t1_6, t5_6, t6_6, t7_6, or0_6] <;> omega), by first | with_reducible rfl | with_reducible assumption | (simp -implicitDefEqProofs (maxSteps := 1000000) (disch := omega) [go_sem, t0_6, t1_6, t5_6, t6_6, t7_6, or0_6] <;> omega), by first | with_reducible rfl | with_reducible assumption | (simp -implicitDefEqProofs (maxSteps := 1000000) (disch := omega) [go_sem, t0_6, t1_6, t5_6, t6_6, t7_6, or0_6] <;> omega), by first | with_reducible rfl | with_reducible assumption | (simp -implicitDefEqProofs (maxSteps := 1000000) (disch := omega) [go_sem, t0_6, t1_6, t5_6, t6_6, t7_6, or0_6] <;> omega), by first | with_reducible rfl | with_reducible assumption | (simp -implicitDefEqProofs (maxSteps := 1000000) (disch := omega) [go_sem, t0_6, t1_6, t5_6, t6_6, t7_6, or0_6] <;> omega), by first | with_reducible rfl | with_reducible assumption | (simp -implicitDefEqProofs (maxSteps := 1000000) (disch := omega) [go_sem, t0_6, t1_6, t5_6, t6_6, t7_6, or0_6] <;> omega), by first | with_reducible rfl | with_reducible assumption | (simp -implicitDefEqProofs (maxSteps := 1000000) (disch := omega) [go_sem, t0_6, t1_6, t5_6, t6_6, t7_6, or0_6] <;> omega), h⟩
     ·intro c37 h
      try simp -implicitDefEqProofs (disch := omega) at c37
      try simp -implicitDefEqProofs (maxSteps := 1000000) (disch := omega) [go_sem, t0_6, t1_6, t5_6, t6_6, t7_6, or0_6]
      subst hc32
      refine IWp_cond_f (by first | with_reducible rfl | (simp -implicitDefEqProofs (maxSteps := 1000000) (disch := omega) [go_sem, t0_6, t1_6, t5_6, t6_6, t7_6, or0_6] <;> omega)) rfl ?_
      refine vcK ?_
      simp -implicitDefEqProofs only [go_sem]
      refine hc24 _ _ ?_
      refine .same ⟨n8, v7, v9, by repeat (first | exact he6 | refine Ext.new ?_ _ | refine Ext.set ?_ (by first | omega | (simp [go_sem]; done) | (simp [go_sem]; omega)) _ | refine Ext.del ?_ (by first | omega | (simp [go_sem]; done) | (simp [go_sem]; omega))), by first | with_reducible rfl | with_reducible assumption | omega | (simp -implicitDefEqProofs (maxSteps := 1000000) (disch := omega) [go_sem, t0_6, t1_6, t5_6, t6_6, t7_6, or0_6] <;> omega), by first | with_reducible rfl | with_reducible assumption | omega | (simp -implicitDefEqProofs (maxSteps := 1000000) (disch := omega) [go_sem, t0_6, t1_6, t5_6, t6_6, t7_6, or0_6] <;> omega), by first | with_reducible rfl | with_reducible assumption | omega | (simp -implicitDefEqProofs (maxSteps := 1000000) (disch := omega) [go_sem, t0_6, t1_6, t5_6, t6_6, t7_6, or0_6] <;> omega), by first | with_reducible rfl | with_reducible assumption | (simp -implicitDefEqProofs (maxSteps := 1000000) (disch := omega) [go_sem, t0_6, t1_6, t5_6, t6_6, t7_6, or0_6] <;> omega), by first | with_reducible rfl | with_reducible assumption | (simp -implicitDefEqProofs (maxSteps := 1000000) (disch := omega) [go_sem, t0_6, t1_6, t5_6, t6_6, t7_6, or0_6] <;> omega), by first | with_reducible rfl | with_reducible assumption | (simp -implicitDefEqProofs (maxSteps := 1000000) (disch := omega) [go_sem, t0_6, t1_6, t5_6, t6_6, t7_6, or0_6] <;> omega), by first | with_reducible rfl | with_reducible assumption | (simp -implicitDefEqProofs (maxSteps := 1000000) (disch := omega) [go_sem, t0_6, t1_6, t5_6, t6_6, t7_6, or0_6] <;> omega), by first | with_reducible rfl | with_reducible assumption | (simp -implicitDefEqProofs (maxSteps := 1000000) (disch := omega) [go_sem, t0_6, t1_6, t5_6, t6_6, t7_6, or0_6] <;> omega), by first | with_reducible rfl | with_reducible assumption | (simp -implicitDefEqProofs (maxSteps := 1000000) (disch := omega) [go_sem, t0_6, t1_6, t5_6, t6_6, t7_6, or0_6] <;> omega), h⟩
   ·intro c22 h
    try simp -implicitDefEqProofs (disch := omega) at c22
    refine vcK ?_
    simp -implicitDefEqProofs only [go_sem]
    have e6 := Option.some.inj h
    subst e6
    have hy6 := hret6 _ rfl
    refine hc6 _ _ ?_
    refine .same ⟨n8, v7, v9, hy6, by repeat (first | exact he6 | refine Ext.new ?_ _ | refine Ext.set ?_ (by first | omega | (simp [go_sem]; done) | (simp [go_sem]; omega)) _ | refine Ext.del ?_ (by first | omega | (simp [go_sem]; done) | (simp [go_sem]; omega))), by first | with_reducible rfl | with_reducible assumption | omega | (simp -implicitDefEqProofs (maxSteps := 1000000) (disch := omega) [go_sem, t0_6, t1_6, t5_6, t6_6, t7_6, or0_6] <;> omega), by first | with_reducible rfl | with_reducible assumption | omega | (simp -implicitDefEqProofs (maxSteps := 1000000) (disch := omega) [go_sem, t0_6, t1_6, t5_6, t6_6, t7_6, or0_6] <;> omega), by first | with_reducible rfl | with_reducible assumption | omega | (simp -implicitDefEqProofs (maxSteps := 1000000) (disch := omega) [go_sem, t0_6, t1_6, t5_6, t6_6, t7_6, or0_6] <;> omega), by first | with_reducible rfl | with_reducible assumption | (simp -implicitDefEqProofs (maxSteps := 1000000) (disch := omega) [go_sem, t0_6, t1_6, t5_6, t6_6, t7_6, or0_6] <;> omega), by first | with_reducible rfl | with_reducible assumption | (simp -implicitDefEqProofs (maxSteps := 1000000) (disch := omega) [go_sem, t0_6, t1_6, t5_6, t6_6, t7_6, or0_6] <;> omega), by first | with_reducible rfl | with_reducible assumption | (simp -implicitDefEqProofs (maxSteps := 1000000) (disch := omega) [go_sem, t0_6, t1_6, t5_6, t6_6, t7_6, or0_6] <;> omega), by first | with_reducible rfl | with_reducible assumption | (simp -implicitDefEqProofs (maxSteps := 1000000) (disch := omega) [go_sem, t0_6, t1_6, t5_6, t6_6, t7_6, or0_6] <;> omega)⟩

/-! cardcase/cardcaseref07.set -/

end Go.Idl

namespace Go.Idl

open Go Go.Proofs.Tryz

/-! cardcase/cardcaseref07.one -/

/-! cardcase/cardcaseref07.Do -/

/-! cardcase/cardcaseref07.Texts -/

noncomputable def F21_k8  : Option Bool :=
 some true

noncomputable def F21_b8 (a0 : List (List UInt8)) (a1 : List (List UInt8)) (v9 : Int) : Option (Int ⊕ (Unit ⊕ Bool)) :=
 if v9 < (a0.length : Int) then (gd (0 ≤ v9 ∧ v9 < a0.length) (gd (0 ≤ v9 ∧ v9 < a1.length) (if ¬ (a0.getD v9.toNat []) = (a1.getD v9.toNat []) then (some (.inr (.inr false))) else (some (.inl (IntKind.i64.wrap (v9 + 1))))))) else (some (.inr (.inl ())))

noncomputable def F21 (a0 : List (List UInt8)) (a1 : List (List UInt8)) : Option Bool :=
 if ¬ (a0.length : Int) = (a1.length : Int) then (some false) else ((loopO (fun (s : Int) => F21_b8 a0 a1 s) 0).bind fun y => Sum.elim (fun (e : Unit) => F21_k8) (fun (q : Bool) => some q) y)

set_option maxHeartbeats 8000000 in
set_option pp.deepTerms false in
set_option maxRecDepth 60000 in
theorem F21_ok {H : IHeap} {K : IEnd → IHeap → Prop} (a0 : List (List UInt8)) (a1 : List (List UInt8)) {r : Bool} (h : F21 a0 a1 = some r) (hK : K (.ret (.v (.bool r))) H) : ICalls prog 21 [.sl 1 (a0.map fun x => [.v (str x)]), .sl 1 (a1.map fun x => [.v (str x)])] H K := by
 refine ICalls_iwp (N := 26) func21 (by kernel_rfl) rfl (by kernel_rfl) (by kernel_rfl) fun cb hcb hw hbd hnb => ?_
 clear hbd hnb
 subst hcb
 unfold F21 at h
 refine IWp_seqF fun cb hc1 => ?_
 refine vcK ?_
 try simp -implicitDefEqProofs (maxSteps := 1000000) (disch := omega) [go_sem]
 subst hc1
 refine IWp_seqF fun cb hc2 => ?_
 refine IWp_seqF fun cb hc3 => ?_
 refine vcK ?_
 try simp -implicitDefEqProofs (maxSteps := 1000000) (disch := omega) [go_sem]
 subst hc3
 refine IWp_cond_i h (by first | with_reducible rfl | (simp -implicitDefEqProofs (maxSteps := 1000000) (disch := omega) [go_sem] <;> omega)) rfl ?_ ?_
 ·intro c4 h
  try simp -implicitDefEqProofs (disch := omega) at c4
  refine IWp_seqF fun cb hc5 => ?_
  refine vcK ?_
  try simp -implicitDefEqProofs (maxSteps := 1000000) (disch := omega) [go_sem]
  subst hc5
  refine vcK ?_
  simp -implicitDefEqProofs only [go_sem]
  have er := Option.some.inj h
  subst er
  try simp -implicitDefEqProofs (maxSteps := 1000000) (disch := omega) [go_sem]
  refine retG_pureA (Ext.refl hw) hK (e := by first | with_reducible rfl | (simp -implicitDefEqProofs (maxSteps := 1000000) (disch := omega) [go_sem] <;> omega))
 ·intro c4 h
  try simp -implicitDefEqProofs (disch := omega) at c4
  refine vcK ?_
  simp -implicitDefEqProofs only [go_sem]
  subst hc2
  refine IWp_seqF fun cb hc6 => ?_
  refine IWp_seqF fun cb hc7 => ?_
  refine vcK ?_
  try simp -implicitDefEqProofs (maxSteps := 1000000) (disch := omega) [go_sem]
  subst hc7
  obtain ⟨y8, hl8q, hk8⟩ := bind_some' h
  refine IWp_tailC (fun tm' H' => .inl () = y8 ∧ H = H') ?_ fun cb hc8 => ?_
  ·rintro tm8e H8e ⟨rfl, rfl⟩
   have h : F21_k8 = some r := hk8
   unfold F21_k8 at h
   simp -implicitDefEqProofs only [go_sem]
   subst hc6
   refine IWp_seqF fun cb hc10 => ?_
   refine vcK ?_
   try simp -implicitDefEqProofs (maxSteps := 1000000) (disch := omega) [go_sem]
   subst hc10
   refine vcK ?_
   simp -implicitDefEqProofs only [go_sem]
   have er := Option.some.inj h
   subst er
   try simp -implicitDefEqProofs (maxSteps := 1000000) (disch := omega) [go_sem]
   refine retG_pureA (Ext.refl hw) hK (e := by first | with_reducible rfl | (simp -implicitDefEqProofs (maxSteps := 1000000) (disch := omega) [go_sem] <;> omega))
  ·refine IWp_block ?_
   refine IWp_loopF (fun (s : Int) tm' H' => H = H' ∧ tm' 0 = .sl 1 (a0.map fun x => [.v (str x)]) ∧ tm' 1 = .sl 1 (a1.map fun x => [.v (str x)]) ∧ tm' 5 = .v (.int .i64 s)) hl8q ?_ ?_
   ·refine .same ⟨rfl, ?_, ?_, ?_⟩ <;> first | with_reducible rfl | with_reducible assumption | (simp -implicitDefEqProofs (maxSteps := 1000000) (disch := omega) [go_sem] <;> omega)
   ·rintro I8 hI8 v9 x8 tm8 H8 ⟨rfl, t0_8, t1_8, t5_8⟩ h hret8
    replace h : F21_b8 a0 a1 v9 = some x8 := h
    unfold F21_b8 at h
    refine IWp_seqF fun cb hc11 => ?_
    refine IWp_seqF fun cb hc12 => ?_
    refine vcK ?_
    try simp -implicitDefEqProofs (maxSteps := 1000000) (disch := omega) [go_sem, t0_8, t1_8, t5_8]
    subst hc12
    refine IWp_cond_i h (by first | with_reducible rfl | (simp -implicitDefEqProofs (maxSteps := 1000000) (disch := omega) [go_sem, t0_8, t1_8, t5_8] <;> omega)) rfl ?_ ?_
    ·intro c13 h
     try simp -implicitDefEqProofs (disch := omega) at c13
     refine vcK ?_
     simp -implicitDefEqProofs only [go_sem]
     subst hc11
     refine IWp_seqF fun cb hc14 => ?_
     refine IWp_block ?_
     refine IWp_seqF fun cb hc15 => ?_
     refine IWp_drawP [] [0, 1, 2, 3, 4, 5, 6, 7, 8] (by kernel_rfl) (by kernel_rfl) (fun _ _ _ _ h => h) ?_
     obtain ⟨g16, h⟩ := gd_some.1 h
     try simp -implicitDefEqProofs (disch := omega) at g16
     obtain ⟨g17, h⟩ := gd_some.1 h
     try simp -implicitDefEqProofs (disch := omega) at g17
     try simp -implicitDefEqProofs (maxSteps := 1000000) (disch := omega) [go_sem, t0_8, t1_8, t5_8]
     subst hc15
     refine IWp_cond_i h (by first | with_reducible rfl | (simp -implicitDefEqProofs (maxSteps := 1000000) (disch := omega) [go_sem, t0_8, t1_8, t5_8] <;> omega)) rfl ?_ ?_
     ·intro c18 h
      try simp -implicitDefEqProofs (disch := omega) at c18
      refine IWp_seqF fun cb hc19 => ?_
      refine vcK ?_
      try simp -implicitDefEqProofs (maxSteps := 1000000) (disch := omega) [go_sem, t0_8, t1_8, t5_8]
      subst hc19
      refine vcK ?_
      simp -implicitDefEqProofs only [go_sem]
      have e8 := Option.some.inj h
      subst e8
      have e8 := hret8 _ rfl
      subst e8
      replace h : some false = some r := hk8
      have er := Option.some.inj h
      subst er
      try simp -implicitDefEqProofs (maxSteps := 1000000) (disch := omega) [go_sem, t0_8, t1_8, t5_8]
      refine retG_pureA (Ext.refl hw) hK (e := by first | with_reducible rfl | (simp -implicitDefEqProofs (maxSteps := 1000000) (disch := omega) [go_sem, t0_8, t1_8, t5_8] <;> omega))
     ·intro c18 h
      try simp -implicitDefEqProofs (disch := omega) at c18
      refine vcK ?_
      simp -implicitDefEqProofs only [go_sem]
      subst hc14
      refine vcK ?_
      try simp -implicitDefEqProofs (maxSteps := 1000000) (disch := omega) [go_sem, t0_8, t1_8, t5_8]
      have e8 := Option.some.inj h
      subst e8
      refine loopN_mk hI8 (IntKind.i64.wrap (v9 + 1)) ?_
      refine .same ⟨rfl, ?_, ?_, ?_⟩ <;> first | with_reducible rfl | with_reducible assumption | (simp -implicitDefEqProofs (maxSteps := 1000000) (disch := omega) [go_sem, t0_8, t1_8, t5_8] <;> omega)
    ·intro c13 h
     try simp -implicitDefEqProofs (disch := omega) at c13
     refine vcK ?_
     simp -implicitDefEqProofs only [go_sem]
     have e8 := Option.some.inj h
     subst e8
     have hy8 := hret8 _ rfl
     refine hc8 _ _ ?_
     refine .same ⟨hy8, rfl⟩

end Go.Idl

namespace Go.Idl

open Go Go.Proofs.Tryz

/-! cardcase/cardcaseref07.Same -/

noncomputable def F16_k8  : Option Bool :=
 some true

noncomputable def F16_b8 (a0 : List S50) (a1 : List S50) (v9 : Int) : Option (Int ⊕ (Unit ⊕ Bool)) :=
 if v9 < (a0.length : Int) then (gd (0 ≤ v9 ∧ v9 < a0.length) (gd (0 ≤ v9 ∧ v9 < a1.length) (if ¬ ((a0.getD v9.toNat S50.zero).fName) = ((a1.getD v9.toNat S50.zero).fName) then (some (.inr (.inr false))) else ((F21 ((a0.getD v9.toNat S50.zero).fValues) ((a1.getD v9.toNat S50.zero).fValues)).bind fun (x19 : Bool) => if ¬ (x19 = true) then (some (.inr (.inr false))) else (some (.inl (IntKind.i64.wrap (v9 + 1)))))))) else (some (.inr (.inl ())))

noncomputable def F16 (a0 : List S50) (a1 : List S50) : Option Bool :=
 if ¬ (a0.length : Int) = (a1.length : Int) then (some false) else ((loopO (fun (s : Int) => F16_b8 a0 a1 s) 0).bind fun y => Sum.elim (fun (e : Unit) => F16_k8) (fun (q : Bool) => some q) y)

set_option maxHeartbeats 8000000 in
set_option pp.deepTerms false in
set_option maxRecDepth 60000 in
theorem F16_ok {H : IHeap} {K : IEnd → IHeap → Prop} (a0 : List S50) (a1 : List S50) {r : Bool} (h : F16 a0 a1 = some r) (hK : K (.ret (.v (.bool r))) H) : ICalls prog 16 [.sl 2 (a0.map fun x => [.v (str x.fName), .sl 1 (x.fValues.map fun x => [.v (str x)])]), .sl 2 (a1.map fun x => [.v (str x.fName), .sl 1 (x.fValues.map fun x => [.v (str x)])])] H K := by
 refine ICalls_iwp (N := 42) func16 (by kernel_rfl) rfl (by kernel_rfl) (by kernel_rfl) fun cb hcb hw hbd hnb => ?_
 clear hbd hnb
 subst hcb
 unfold F16 at h
 refine IWp_seqF fun cb hc1 => ?_
 refine vcK ?_
 try simp -implicitDefEqProofs (maxSteps := 1000000) (disch := omega) [go_sem]
 subst hc1
 refine IWp_seqF fun cb hc2 => ?_
 refine IWp_seqF fun cb hc3 => ?_
 refine vcK ?_
 try simp -implicitDefEqProofs (maxSteps := 1000000) (disch := omega) [go_sem]
 subst hc3
 refine IWp_cond_i h (by first | with_reducible rfl | (simp -implicitDefEqProofs (maxSteps := 1000000) (disch := omega) [go_sem] <;> omega)) rfl ?_ ?_
 ·intro c4 h
  try simp -implicitDefEqProofs (disch := omega) at c4
  refine IWp_seqF fun cb hc5 => ?_
  refine vcK ?_
  try simp -implicitDefEqProofs (maxSteps := 1000000) (disch := omega) [go_sem]
  subst hc5
  refine vcK ?_
  simp -implicitDefEqProofs only [go_sem]
  have er := Option.some.inj h
  subst er
  try simp -implicitDefEqProofs (maxSteps := 1000000) (disch := omega) [go_sem]
  refine retG_pureA (Ext.refl hw) hK (e := by first | with_reducible rfl | (simp -implicitDefEqProofs (maxSteps := 1000000) (disch := omega) [go_sem] <;> omega))
 ·intro c4 h
  try simp -implicitDefEqProofs (disch := omega) at c4
  refine vcK ?_
  simp -implicitDefEqProofs only [go_sem]
  subst hc2
  refine IWp_seqF fun cb hc6 => ?_
  refine IWp_seqF fun cb hc7 => ?_
  refine vcK ?_
  try simp -implicitDefEqProofs (maxSteps := 1000000) (disch := omega) [go_sem]
  subst hc7
  obtain ⟨y8, hl8q, hk8⟩ := bind_some' h
  refine IWp_tailC (fun tm' H' => .inl () = y8 ∧ H = H') ?_ fun cb hc8 => ?_
  ·rintro tm8e H8e ⟨rfl, rfl⟩
   have h : F16_k8 = some r := hk8
   unfold F16_k8 at h
   simp -implicitDefEqProofs only [go_sem]
   subst hc6
   refine IWp_seqF fun cb hc10 => ?_
   refine vcK ?_
   try simp -implicitDefEqProofs (maxSteps := 1000000) (disch := omega) [go_sem]
   subst hc10
   refine vcK ?_
   simp -implicitDefEqProofs only [go_sem]
   have er := Option.some.inj h
   subst er
   try simp -implicitDefEqProofs (maxSteps := 1000000) (disch := omega) [go_sem]
   refine retG_pureA (Ext.refl hw) hK (e := by first | with_reducible rfl | (simp -implicitDefEqProofs (maxSteps := 1000000) (disch := omega) [go_sem] <;> omega))
  ·refine IWp_block ?_
   refine IWp_loopF (fun (s : Int) tm' H' => H = H' ∧ tm' 0 = .sl 2 (a0.map fun x => [.v (str x.fName), .sl 1 (x.fValues.map fun x => [.v (str x)])]) ∧ tm' 1 = .sl 2 (a1.map fun x => [.v (str x.fName), .sl 1 (x.fValues.map fun x => [.v (str x)])]) ∧ tm' 5 = .v (.int .i64 s)) hl8q ?_ ?_
   ·refine .same ⟨rfl, ?_, ?_, ?_⟩ <;> first | with_reducible rfl | with_reducible assumption | (simp -implicitDefEqProofs (maxSteps := 1000000) (disch := omega) [go_sem] <;> omega)
   ·rintro I8 hI8 v9 x8 tm8 H8 ⟨rfl, t0_8, t1_8, t5_8⟩ h hret8
    replace h : F16_b8 a0 a1 v9 = some x8 := h
    unfold F16_b8 at h
    refine IWp_seqF fun cb hc11 => ?_
    refine IWp_seqF fun cb hc12 => ?_
    refine vcK ?_
    try simp -implicitDefEqProofs (maxSteps := 1000000) (disch := omega) [go_sem, t0_8, t1_8, t5_8]
    subst hc12
    refine IWp_cond_i h (by first | with_reducible rfl | (simp -implicitDefEqProofs (maxSteps := 1000000) (disch := omega) [go_sem, t0_8, t1_8, t5_8] <;> omega)) rfl ?_ ?_
    ·intro c13 h
     try simp -implicitDefEqProofs (disch := omega) at c13
     refine vcK ?_
     simp -implicitDefEqProofs only [go_sem]
     subst hc11
     refine IWp_seqF fun cb hc14 => ?_
     refine IWp_block ?_
     refine IWp_seqF fun cb hc15 => ?_
     refine IWp_drawP [22] [0, 1, 2, 3, 4, 5, 6, 7, 8, 9, 10, 11, 12, 13, 14, 15, 16, 17, 18, 19, 20, 21, 22, 23, 24] (by kernel_rfl) (by kernel_rfl) (fun _ _ _ _ h => h) ?_
     obtain ⟨g16, h⟩ := gd_some.1 h
     try simp -implicitDefEqProofs (disch := omega) at g16
     obtain ⟨g17, h⟩ := gd_some.1 h
     try simp -implicitDefEqProofs (disch := omega) at g17
     try simp -implicitDefEqProofs (maxSteps := 1000000) (disch := omega) [go_sem, t0_8, t1_8, t5_8]
     refine splitG_f h (by first | with_reducible rfl | (simp -implicitDefEqProofs (maxSteps := 1000000) (disch := omega) [go_sem, t0_8, t1_8, t5_8] <;> omega)) ?_ ?_
     ·intro c22 h
      try simp -implicitDefEqProofs (disch := omega) at c22
      try simp -implicitDefEqProofs (maxSteps := 1000000) (disch := omega) [go_sem, t0_8, t1_8, t5_8]
      subst hc15
      refine IWp_cond_t (by first | with_reducible rfl | (simp -implicitDefEqProofs (maxSteps := 1000000) (disch := omega) [go_sem, t0_8, t1_8, t5_8] <;> omega)) rfl ?_
      refine IWp_seqF fun cb hc18 => ?_
      refine vcK ?_
      try simp -implicitDefEqProofs (maxSteps := 1000000) (disch := omega) [go_sem, t0_8, t1_8, t5_8]
      subst hc18
      refine vcK ?_
      simp -implicitDefEqProofs only [go_sem]
      have e8 := Option.some.inj h
      subst e8
      have e8 := hret8 _ rfl
      subst e8
      replace h : some false = some r := hk8
      have er := Option.some.inj h
      subst er
      try simp -implicitDefEqProofs (maxSteps := 1000000) (disch := omega) [go_sem, t0_8, t1_8, t5_8]
      refine retG_pureA (Ext.refl hw) hK (e := by first | with_reducible rfl | (simp -implicitDefEqProofs (maxSteps := 1000000) (disch := omega) [go_sem, t0_8, t1_8, t5_8] <;> omega))
     ·intro c22 h
      try simp -implicitDefEqProofs (disch := omega) at c22
      try simp -implicitDefEqProofs (maxSteps := 1000000) (disch := omega) [go_sem, t0_8, t1_8, t5_8]
      obtain ⟨x19, hx19, h⟩ := bind_some' h
      refine PureC.mk _ (fun _ _ hK => ICalls.eqA (args' := [.sl 1 (((a0.getD v9.toNat S50.zero).fValues).map fun x => [.v (str x)]), .sl 1 (((a1.getD v9.toNat S50.zero).fValues).map fun x => [.v (str x)])]) (by first | with_reducible rfl | (simp -implicitDefEqProofs (maxSteps := 1000000) (disch := omega) [go_sem, t0_8, t1_8, t5_8] <;> omega)) (F21_ok ((a0.getD v9.toNat S50.zero).fValues) ((a1.getD v9.toNat S50.zero).fValues) hx19 hK)) ?_
      try simp -implicitDefEqProofs (maxSteps := 1000000) (disch := omega) [go_sem, t0_8, t1_8, t5_8]
      subst hc15
      refine IWp_cond_i h (by first | with_reducible rfl | (simp -implicitDefEqProofs (maxSteps := 1000000) (disch := omega) [go_sem, t0_8, t1_8, t5_8] <;> omega)) rfl ?_ ?_
      ·intro c20 h
       try simp -implicitDefEqProofs (disch := omega) at c20
       refine IWp_seqF fun cb hc21 => ?_
       refine vcK ?_
       try simp -implicitDefEqProofs (maxSteps := 1000000) (disch := omega) [go_sem, t0_8, t1_8, t5_8]
       subst hc21
       refine vcK ?_
       simp -implicitDefEqProofs only [go_sem]
       have e8 := Option.some.inj h
       subst e8
       have e8 := hret8 _ rfl
       subst e8
       replace h : some false = some r := hk8
       have er := Option.some.inj h
       subst er
       try simp -implicitDefEqProofs (maxSteps := 1000000) (disch := omega) [go_sem, t0_8, t1_8, t5_8]
       refine retG_pureA (Ext.refl hw) hK (e := by first | with_reducible rfl | (simp -implicitDefEqProofs (maxSteps := 1000000) (disch := omega) [go_sem, t0_8, t1_8, t5_8] <;> omega))
      ·intro c20 h
       try simp -implicitDefEqProofs (disch := omega) at c20
       refine vcK ?_
       simp -implicitDefEqProofs only [go_sem]
       subst hc14
       refine vcK ?_
       try simp -implicitDefEqProofs (maxSteps := 1000000) (disch := omega) [go_sem, t0_8, t1_8, t5_8]
       have e8 := Option.some.inj h
       subst e8
       refine loopN_mk hI8 (IntKind.i64.wrap (v9 + 1)) ?_
       refine .same ⟨rfl, ?_, ?_, ?_⟩ <;> first | with_reducible rfl | with_reducible assumption | (simp -implicitDefEqProofs (maxSteps := 1000000) (disch := omega) [go_sem, t0_8, t1_8, t5_8] <;> omega)
    ·intro c13 h
     try simp -implicitDefEqProofs (disch := omega) at c13
     refine vcK ?_
     simp -implicitDefEqProofs only [go_sem]
     have e8 := Option.some.inj h
     subst e8
     have hy8 := hret8 _ rfl
     refine hc8 _ _ ?_
     refine .same ⟨hy8, rfl⟩

/-! cardcase/cardcaselaw07.EntryDoes -/

/-! cardcase/cardcaseref07.Order -/

/-! cardcase/cardcaselaw07.EntryOrder -/

end Go.Idl

namespace Go.Idl

open Go Go.Proofs.Tryz

/-! cardcase/cardcaseref07.Diff -/

noncomputable def F26_k18 (v22 : List S48) : Option (List S48) :=
 some v22

noncomputable def F26_b18 (a0 : List S50) (a1 : List S50) (v14 : List (List UInt8)) (v19 : List S48) (v21 : Int) : Option (((List S48) × Int) ⊕ (List S48)) :=
 if v21 < (v14.length : Int) then (gd (0 ≤ v21 ∧ v21 < v14.length) ((F23 a0 (v14.getD v21.toNat [])).bind fun (x31 : (List (List UInt8))) => (F23 a1 (v14.getD v21.toNat [])).bind fun (x32 : (List (List UInt8))) => (F21 x31 x32).bind fun (x36 : Bool) => if x36 = true then (some (.inl ((v19, IntKind.i64.wrap (v21 + 1))))) else (if (x32.length : Int) = 0 then (gd ((v19.length + ([(⟨2, v14.getD v21.toNat [], x32⟩ : S48)]).length) * 48 ≤ 140737488355328) (some (.inl ((v19 ++ ([(⟨2, v14.getD v21.toNat [], x32⟩ : S48)]), IntKind.i64.wrap (v21 + 1)))))) else (if (x31.length : Int) = 0 then (gd ((v19.length + ([(⟨1, v14.getD v21.toNat [], x32⟩ : S48)]).length) * 48 ≤ 140737488355328) (some (.inl ((v19 ++ ([(⟨1, v14.getD v21.toNat [], x32⟩ : S48)]), IntKind.i64.wrap (v21 + 1)))))) else (gd ((v19.length + ([(⟨3, v14.getD v21.toNat [], x32⟩ : S48)]).length) * 48 ≤ 140737488355328) (some (.inl ((v19 ++ ([(⟨3, v14.getD v21.toNat [], x32⟩ : S48)]), IntKind.i64.wrap (v21 + 1)))))))))) else (some (.inr v19))

noncomputable def F26_k11 (a0 : List S50) (a1 : List S50) (v14 : List (List UInt8)) : Option (List S48) :=
 (loopO (fun (s : (List S48) × Int) => F26_b18 a0 a1 v14 s.1 s.2) ([], 0)).bind fun (e : (List S48)) => F26_k18 e

noncomputable def F26_b11 (a1 : List S50) (v12 : List (List UInt8)) (v13 : Int) : Option (((List (List UInt8)) × Int) ⊕ ((List (List UInt8)))) :=
 if v13 < (a1.length : Int) then (gd (0 ≤ v13 ∧ v13 < a1.length) ((F54 v12 ((a1.getD v13.toNat S50.zero).fName)).bind fun (x51 : (List (List UInt8))) => some (.inl ((x51, IntKind.i64.wrap (v13 + 1)))))) else (some (.inr v12))

noncomputable def F26_k5 (a0 : List S50) (a1 : List S50) (v8 : List (List UInt8)) : Option (List S48) :=
 (loopO (fun (s : (List (List UInt8)) × Int) => F26_b11 a1 s.1 s.2) (v8, 0)).bind fun (e : (List (List UInt8))) => F26_k11 a0 a1 e

noncomputable def F26_b5 (a0 : List S50) (v6 : List (List UInt8)) (v7 : Int) : Option (((List (List UInt8)) × Int) ⊕ ((List (List UInt8)))) :=
 if v7 < (a0.length : Int) then (gd (0 ≤ v7 ∧ v7 < a0.length) ((F54 v6 ((a0.getD v7.toNat S50.zero).fName)).bind fun (x57 : (List (List UInt8))) => some (.inl ((x57, IntKind.i64.wrap (v7 + 1)))))) else (some (.inr v6))

noncomputable def F26 (a0 : List S50) (a1 : List S50) : Option (List S48) :=
 (loopO (fun (s : (List (List UInt8)) × Int) => F26_b5 a0 s.1 s.2) ([], 0)).bind fun (e : (List (List UInt8))) => F26_k5 a0 a1 e

set_option maxHeartbeats 8000000 in
set_option pp.deepTerms false in
set_option maxRecDepth 60000 in
theorem F26_ok {H : IHeap} {K : IEnd → IHeap → Prop} (a0 : List S50) (a1 : List S50) {r : (List S48)} (h : F26 a0 a1 = some r) (hK : K (.ret (.sl 3 (r.map fun x => [.v (.int .i64 x.fKind), .v (str x.fName), .sl 1 (x.fValues.map fun x => [.v (str x)])]))) H) : ICalls prog 26 [.sl 2 (a0.map fun x => [.v (str x.fName), .sl 1 (x.fValues.map fun x => [.v (str x)])]), .sl 2 (a1.map fun x => [.v (str x.fName), .sl 1 (x.fValues.map fun x => [.v (str x)])])] H K := by
 refine ICalls_iwp (N := 79) func26 (by kernel_rfl) rfl (by kernel_rfl) (by kernel_rfl) fun cb hcb hw hbd hnb => ?_
 clear hbd hnb
 subst hcb
 unfold F26 at h
 refine IWp_seqF fun cb hc1 => ?_
 refine vcK ?_
 try simp -implicitDefEqProofs (maxSteps := 1000000) (disch := omega) [go_sem, bdP]
 subst hc1
 refine IWp_seqF fun cb hc2 => ?_
 refine vcK ?_
 try simp -implicitDefEqProofs (maxSteps := 1000000) (disch := omega) [go_sem, bdP]
 subst hc2
 refine IWp_seqF fun cb hc3 => ?_
 refine IWp_seqF fun cb hc4 => ?_
 refine vcK ?_
 try simp -implicitDefEqProofs (maxSteps := 1000000) (disch := omega) [go_sem, bdP]
 subst hc4
 obtain ⟨y5, hl5q, hk5⟩ := bind_some' h
 refine IWp_tailC (fun tm' H' => ∃ v8 : List (List UInt8), v8 = y5 ∧ H = H' ∧ tm' 0 = .sl 2 (a0.map fun x => [.v (str x.fName), .sl 1 (x.fValues.map fun x => [.v (str x)])]) ∧ tm' 1 = .sl 2 (a1.map fun x => [.v (str x.fName), .sl 1 (x.fValues.map fun x => [.v (str x)])]) ∧ tm' 5 = .sl 1 (v8.map fun x => [.v (str x)])) ?_ fun cb hc5 => ?_
 ·rintro tm5e H5e ⟨v8, rfl, rfl, t0_5e, t1_5e, t5_5e⟩
  have h : F26_k5 a0 a1 v8 = some r := hk5
  unfold F26_k5 at h
  simp -implicitDefEqProofs only [go_sem]
  subst hc3
  refine IWp_seqF fun cb hc9 => ?_
  refine IWp_seqF fun cb hc10 => ?_
  refine vcK ?_
  try simp -implicitDefEqProofs (maxSteps := 1000000) (disch := omega) [go_sem, bdP, t0_5e, t1_5e, t5_5e]
  subst hc10
  obtain ⟨y11, hl11q, hk11⟩ := bind_some' h
  refine IWp_tailC (fun tm' H' => ∃ v14 : List (List UInt8), v14 = y11 ∧ H = H' ∧ tm' 0 = .sl 2 (a0.map fun x => [.v (str x.fName), .sl 1 (x.fValues.map fun x => [.v (str x)])]) ∧ tm' 1 = .sl 2 (a1.map fun x => [.v (str x.fName), .sl 1 (x.fValues.map fun x => [.v (str x)])]) ∧ tm' 5 = .sl 1 (v14.map fun x => [.v (str x)])) ?_ fun cb hc11 => ?_
  ·rintro tm11e H11e ⟨v14, rfl, rfl, t0_11e, t1_11e, t5_11e⟩
   have h : F26_k11 a0 a1 v14 = some r := hk11
   unfold F26_k11 at h
   simp -implicitDefEqProofs only [go_sem]
   subst hc9
   refine IWp_seqF fun cb hc15 => ?_
   refine vcK ?_
   try simp -implicitDefEqProofs (maxSteps := 1000000) (disch := omega) [go_sem, bdP, t0_11e, t1_11e, t5_11e]
   subst hc15
   refine IWp_seqF fun cb hc16 => ?_
   refine IWp_seqF fun cb hc17 => ?_
   refine vcK ?_
   try simp -implicitDefEqProofs (maxSteps := 1000000) (disch := omega) [go_sem, bdP, t0_11e, t1_11e, t5_11e]
   subst hc17
   obtain ⟨y18, hl18q, hk18⟩ := bind_some' h
   refine IWp_tailC (fun tm' H' => ∃ n23 : Nat, ∃ v22 : List S48, v22 = y18 ∧ Ext H H' ∧ H.next ≤ H'.next ∧ H.next ≤ n23 ∧ n23 < H'.next ∧ tm' 8 = .os n23 v22.length ∧ H'.obj n23 = some (.row 3 (v22.map fun x => [.v (.int .i64 x.fKind), .v (str x.fName), .sl 1 (x.fValues.map fun x => [.v (str x)])]))) ?_ fun cb hc18 => ?_
   ·rintro tm18e H18e ⟨n23, v22, rfl, he18e, hl18e, hr0_18e, hs0_18e, t8_18e, or0_18e⟩
    have h : F26_k18 v22 = some r := hk18
    unfold F26_k18 at h
    simp -implicitDefEqProofs only [go_sem]
    subst hc16
    refine IWp_seqF fun cb hc24 => ?_
    refine vcK ?_
    try simp -implicitDefEqProofs (maxSteps := 1000000) (disch := omega) [go_sem, bdP, t8_18e, or0_18e]
    subst hc24
    refine IWp.gh (Gh.freeze (d := 4) (k := n23) (sz := 3) (es := v22.map fun x => [.v (.int .i64 x.fKind), .v (str x.fName), .sl 1 (x.fValues.map fun x => [.v (str x)])]) (by simp -implicitDefEqProofs (maxSteps := 1000000) (disch := omega) [go_sem, bdP, t8_18e, or0_18e]) (by simp -implicitDefEqProofs (maxSteps := 1000000) (disch := omega) [go_sem, bdP, t8_18e, or0_18e])) ?_
    refine vcK ?_
    simp -implicitDefEqProofs only [go_sem]
    have er := Option.some.inj h
    subst er
    try simp -implicitDefEqProofs (maxSteps := 1000000) (disch := omega) [go_sem, bdP, t8_18e, or0_18e]
    refine retG_pureA he18e hK (e := by first | with_reducible rfl | (simp -implicitDefEqProofs (maxSteps := 1000000) (disch := omega) [go_sem, bdP, t8_18e, or0_18e] <;> omega))
   ·refine IWp_block ?_
    refine IWp_loopF (fun (s : (List S48) × Int) tm' H' => ∃ n20 : Nat, Ext H H' ∧ H.next ≤ H'.next ∧ H.next ≤ n20 ∧ n20 < H'.next ∧ tm' 0 = .sl 2 (a0.map fun x => [.v (str x.fName), .sl 1 (x.fValues.map fun x => [.v (str x)])]) ∧ tm' 1 = .sl 2 (a1.map fun x => [.v (str x.fName), .sl 1 (x.fValues.map fun x => [.v (str x)])]) ∧ tm' 5 = .sl 1 (v14.map fun x => [.v (str x)]) ∧ tm' 8 = .os n20 s.1.length ∧ tm' 9 = .v (.int .i64 s.2) ∧ H'.obj n20 = some (.row 3 (s.1.map fun x => [.v (.int .i64 x.fKind), .v (str x.fName), .sl 1 (x.fValues.map fun x => [.v (str x)])]))) hl18q ?_ ?_
    ·refine UpI.gh (Gh.nilrow (d := 8) (sz := 3) (by omega) (by (simp -implicitDefEqProofs (maxSteps := 1000000) (disch := omega) [go_sem, bdP, t0_11e, t1_11e, t5_11e] <;> omega))) ?_
     refine .same ⟨H.next, by repeat (first | exact (Ext.refl hw) | refine Ext.new ?_ _ | refine Ext.set ?_ (by first | omega | (simp [go_sem]; done) | (simp [go_sem]; omega)) _ | refine Ext.del ?_ (by first | omega | (simp [go_sem]; done) | (simp [go_sem]; omega))), by first | with_reducible rfl | with_reducible assumption | omega | (simp -implicitDefEqProofs (maxSteps := 1000000) (disch := omega) [go_sem, bdP, t0_11e, t1_11e, t5_11e] <;> omega), by first | with_reducible rfl | with_reducible assumption | omega | (simp -implicitDefEqProofs (maxSteps := 1000000) (disch := omega) [go_sem, bdP, t0_11e, t1_11e, t5_11e] <;> omega), by first | with_reducible rfl | with_reducible assumption | omega | (simp -implicitDefEqProofs (maxSteps := 1000000) (disch := omega) [go_sem, bdP, t0_11e, t1_11e, t5_11e] <;> omega), by first | with_reducible rfl | with_reducible assumption | (simp -implicitDefEqProofs (maxSteps := 1000000) (disch := omega) [go_sem, bdP, t0_11e, t1_11e, t5_11e] <;> omega), by first | with_reducible rfl | with_reducible assumption | (simp -implicitDefEqProofs (maxSteps := 1000000) (disch := omega) [go_sem, bdP, t0_11e, t1_11e, t5_11e] <;> omega), by first | with_reducible rfl | with_reducible assumption | (simp -implicitDefEqProofs (maxSteps := 1000000) (disch := omega) [go_sem, bdP, t0_11e, t1_11e, t5_11e] <;> omega), by first | with_reducible rfl | with_reducible assumption | (simp -implicitDefEqProofs (maxSteps := 1000000) (disch := omega) [go_sem, bdP, t0_11e, t1_11e, t5_11e] <;> omega), by first | with_reducible rfl | with_reducible assumption | (simp -implicitDefEqProofs (maxSteps := 1000000) (disch := omega) [go_sem, bdP, t0_11e, t1_11e, t5_11e] <;> omega), by first | with_reducible rfl | with_reducible assumption | (simp -implicitDefEqProofs (maxSteps := 1000000) (disch := omega) [go_sem, bdP, t0_11e, t1_11e, t5_11e] <;> omega)⟩
    ·rintro I18 hI18 ⟨v19, v21⟩ x18 tm18 H18 ⟨n20, he18, hl18, hr0_18, hs0_18, t0_18, t1_18, t5_18, t8_18, t9_18, or0_18⟩ h hret18
     replace h : F26_b18 a0 a1 v14 v19 v21 = some x18 := h
     unfold F26_b18 at h
     refine IWp_seqF fun cb hc25 => ?_
     refine IWp_seqF fun cb hc26 => ?_
     refine vcK ?_
     try simp -implicitDefEqProofs (maxSteps := 1000000) (disch := omega) [go_sem, bdP, t0_18, t1_18, t5_18, t8_18, t9_18, or0_18]
     subst hc26
     refine IWp_cond_i h (by first | with_reducible rfl | (simp -implicitDefEqProofs (maxSteps := 1000000) (disch := omega) [go_sem, bdP, t0_18, t1_18, t5_18, t8_18, t9_18, or0_18] <;> omega)) rfl ?_ ?_
     ·intro c27 h
      try simp -implicitDefEqProofs (disch := omega) at c27
      refine vcK ?_
      simp -implicitDefEqProofs only [go_sem]
      subst hc25
      refine IWp_seqF fun cb hc28 => ?_
      refine IWp_block ?_
      refine IWp_seqF fun cb hc29 => ?_
      refine IWp_drawP [5, 11] [0, 1, 2, 3, 4, 5, 6, 7, 8, 9, 10, 11, 12, 13] (by kernel_rfl) (by kernel_rfl) (fun _ _ _ _ h => h) ?_
      obtain ⟨g30, h⟩ := gd_some.1 h
      try simp -implicitDefEqProofs (disch := omega) at g30
      try simp -implicitDefEqProofs (maxSteps := 1000000) (disch := omega) [go_sem, bdP, t0_18, t1_18, t5_18, t8_18, t9_18, or0_18]
      obtain ⟨x31, hx31, h⟩ := bind_some' h
      refine PureC.mk _ (fun _ _ hK => ICalls.eqA (args' := [.sl 2 (a0.map fun x => [.v (str x.fName), .sl 1 (x.fValues.map fun x => [.v (str x)])]), .v (str (v14.getD v21.toNat []))]) (by first | with_reducible rfl | (simp -implicitDefEqProofs (maxSteps := 1000000) (disch := omega) [go_sem, bdP, t0_18, t1_18, t5_18, t8_18, t9_18, or0_18] <;> omega)) (F23_ok a0 (v14.getD v21.toNat []) hx31 hK)) ?_
      try simp -implicitDefEqProofs (maxSteps := 1000000) (disch := omega) [go_sem, bdP, t0_18, t1_18, t5_18, t8_18, t9_18, or0_18]
      obtain ⟨x32, hx32, h⟩ := bind_some' h
      refine PureC.mk _ (fun _ _ hK => ICalls.eqA (args' := [.sl 2 (a1.map fun x => [.v (str x.fName), .sl 1 (x.fValues.map fun x => [.v (str x)])]), .v (str (v14.getD v21.toNat []))]) (by first | with_reducible rfl | (simp -implicitDefEqProofs (maxSteps := 1000000) (disch := omega) [go_sem, bdP, t0_18, t1_18, t5_18, t8_18, t9_18, or0_18] <;> omega)) (F23_ok a1 (v14.getD v21.toNat []) hx32 hK)) ?_
      try simp -implicitDefEqProofs (maxSteps := 1000000) (disch := omega) [go_sem, bdP, t0_18, t1_18, t5_18, t8_18, t9_18, or0_18]
      subst hc29
      refine IWp_seqF fun cb hc33 => ?_
      refine vcK ?_
      try simp -implicitDefEqProofs (maxSteps := 1000000) (disch := omega) [go_sem, bdP, t0_18, t1_18, t5_18, t8_18, t9_18, or0_18]
      subst hc33
      refine IWp_seqF fun cb hc34 => ?_
      refine IWp_seqF fun cb hc35 => ?_
      refine vcK ?_
      try simp -implicitDefEqProofs (maxSteps := 1000000) (disch := omega) [go_sem, bdP, t0_18, t1_18, t5_18, t8_18, t9_18, or0_18]
      obtain ⟨x36, hx36, h⟩ := bind_some' h
      refine ICalls.eqA (args' := [.sl 1 (x31.map fun x => [.v (str x)]), .sl 1 (x32.map fun x => [.v (str x)])]) (by first | with_reducible rfl | (simp -implicitDefEqProofs (maxSteps := 1000000) (disch := omega) [go_sem, bdP, t0_18, t1_18, t5_18, t8_18, t9_18, or0_18] <;> omega)) (F21_ok x31 x32 hx36 ?_)
      try simp -implicitDefEqProofs (maxSteps := 1000000) (disch := omega) [go_sem, bdP, t0_18, t1_18, t5_18, t8_18, t9_18, or0_18]
      subst hc35
      refine IWp_cond_i h (by first | with_reducible rfl | (simp -implicitDefEqProofs (maxSteps := 1000000) (disch := omega) [go_sem, bdP, t0_18, t1_18, t5_18, t8_18, t9_18, or0_18] <;> omega)) rfl ?_ ?_
      ·intro c37 h
       try simp -implicitDefEqProofs (disch := omega) at c37
       refine vcK ?_
       simp -implicitDefEqProofs only [go_sem]
       subst hc28
       refine vcK ?_
       try simp -implicitDefEqProofs (maxSteps := 1000000) (disch := omega) [go_sem, bdP, t0_18, t1_18, t5_18, t8_18, t9_18, or0_18]
       have e18 := Option.some.inj h
       subst e18
       refine loopN_mk hI18 ((v19, IntKind.i64.wrap (v21 + 1))) ?_
       refine .same ⟨n20, by repeat (first | exact he18 | refine Ext.new ?_ _ | refine Ext.set ?_ (by first | omega | (simp [go_sem]; done) | (simp [go_sem]; omega)) _ | refine Ext.del ?_ (by first | omega | (simp [go_sem]; done) | (simp [go_sem]; omega))), by first | with_reducible rfl | with_reducible assumption | omega | (simp -implicitDefEqProofs (maxSteps := 1000000) (disch := omega) [go_sem, bdP, t0_18, t1_18, t5_18, t8_18, t9_18, or0_18] <;> omega), by first | with_reducible rfl | with_reducible assumption | omega | (simp -implicitDefEqProofs (maxSteps := 1000000) (disch := omega) [go_sem, bdP, t0_18, t1_18, t5_18, t8_18, t9_18, or0_18] <;> omega), by first | with_reducible rfl | with_reducible assumption | omega | (simp -implicitDefEqProofs (maxSteps := 1000000) (disch := omega) [go_sem, bdP, t0_18, t1_18, t5_18, t8_18, t9_18, or0_18] <;> omega), by first | with_reducible rfl | with_reducible assumption | (simp -implicitDefEqProofs (maxSteps := 1000000) (disch := omega) [go_sem, bdP, t0_18, t1_18, t5_18, t8_18, t9_18, or0_18] <;> omega), by first | with_reducible rfl | with_reducible assumption | (simp -implicitDefEqProofs (maxSteps := 1000000) (disch := omega) [go_sem, bdP, t0_18, t1_18, t5_18, t8_18, t9_18, or0_18] <;> omega), by first | with_reducible rfl | with_reducible assumption | (simp -implicitDefEqProofs (maxSteps := 1000000) (disch := omega) [go_sem, bdP, t0_18, t1_18, t5_18, t8_18, t9_18, or0_18] <;> omega), by first | with_reducible rfl | with_reducible assumption | (simp -implicitDefEqProofs (maxSteps := 1000000) (disch := omega) [go_sem, bdP, t0_18, t1_18, t5_18, t8_18, t9_18, or0_18] <;> omega), by first | with_reducible rfl | with_reducible assumption | (simp -implicitDefEqProofs (maxSteps := 1000000) (disch := omega) [go_sem, bdP, t0_18, t1_18, t5_18, t8_18, t9_18, or0_18] <;> omega), by first | with_reducible rfl | with_reducible assumption | (simp -implicitDefEqProofs (maxSteps := 1000000) (disch := omega) [go_sem, bdP, t0_18, t1_18, t5_18, t8_18, t9_18, or0_18] <;> omega)⟩
      ·intro c37 h
       try simp -implicitDefEqProofs (disch := omega) at c37
       refine vcK ?_
       simp -implicitDefEqProofs only [go_sem]
       subst hc34
       refine IWp_seqF fun cb hc38 => ?_
       refine IWp_seqF fun cb hc39 => ?_
       refine vcK ?_
       try simp -implicitDefEqProofs (maxSteps := 1000000) (disch := omega) [go_sem, bdP, t0_18, t1_18, t5_18, t8_18, t9_18, or0_18]
       subst hc39
       refine IWp_cond_i h (by first | with_reducible rfl | (simp -implicitDefEqProofs (maxSteps := 1000000) (disch := omega) [go_sem, bdP, t0_18, t1_18, t5_18, t8_18, t9_18, or0_18] <;> omega)) rfl ?_ ?_
       ·intro c40 h
        try simp -implicitDefEqProofs (disch := omega) at c40
        refine vcK ?_
        try simp -implicitDefEqProofs (maxSteps := 1000000) (disch := omega) [go_sem, bdP, t0_18, t1_18, t5_18, t8_18, t9_18, or0_18]
        subst hc38
        refine vcK ?_
        obtain ⟨g41, h⟩ := gd_some.1 h
        try simp -implicitDefEqProofs (disch := omega) at g41
        try simp -implicitDefEqProofs (maxSteps := 1000000) (disch := omega) [go_sem, bdP, t0_18, t1_18, t5_18, t8_18, t9_18, or0_18]
        subst hc28
        refine vcK ?_
        try simp -implicitDefEqProofs (maxSteps := 1000000) (disch := omega) [go_sem, bdP, t0_18, t1_18, t5_18, t8_18, t9_18, or0_18]
        have e18 := Option.some.inj h
        subst e18
        refine loopN_mk hI18 ((v19 ++ ([(⟨2, v14.getD v21.toNat [], x32⟩ : S48)]), IntKind.i64.wrap (v21 + 1))) ?_
        refine .same ⟨n20, by repeat (first | exact he18 | refine Ext.new ?_ _ | refine Ext.set ?_ (by first | omega | (simp [go_sem]; done) | (simp [go_sem]; omega)) _ | refine Ext.del ?_ (by first | omega | (simp [go_sem]; done) | (simp [go_sem]; omega))), by first | with_reducible rfl | with_reducible assumption | omega | (simp -implicitDefEqProofs (maxSteps := 1000000) (disch := omega) [go_sem, bdP, t0_18, t1_18, t5_18, t8_18, t9_18, or0_18] <;> omega), by first | with_reducible rfl | with_reducible assumption | omega | (simp -implicitDefEqProofs (maxSteps := 1000000) (disch := omega) [go_sem, bdP, t0_18, t1_18, t5_18, t8_18, t9_18, or0_18] <;> omega), by first | with_reducible rfl | with_reducible assumption | omega | (simp -implicitDefEqProofs (maxSteps := 1000000) (disch := omega) [go_sem, bdP, t0_18, t1_18, t5_18, t8_18, t9_18, or0_18] <;> omega), by first | with_reducible rfl | with_reducible assumption | (simp -implicitDefEqProofs (maxSteps := 1000000) (disch := omega) [go_sem, bdP, t0_18, t1_18, t5_18, t8_18, t9_18, or0_18] <;> omega), by first | with_reducible rfl | with_reducible assumption | (simp -implicitDefEqProofs (maxSteps := 1000000) (disch := omega) [go_sem, bdP, t0_18, t1_18, t5_18, t8_18, t9_18, or0_18] <;> omega), by first | with_reducible rfl | with_reducible assumption | (simp -implicitDefEqProofs (maxSteps := 1000000) (disch := omega) [go_sem, bdP, t0_18, t1_18, t5_18, t8_18, t9_18, or0_18] <;> omega), by first | with_reducible rfl | with_reducible assumption | (simp -implicitDefEqProofs (maxSteps := 1000000) (disch := omega) [go_sem, bdP, t0_18, t1_18, t5_18, t8_18, t9_18, or0_18] <;> omega), by first | with_reducible rfl | with_reducible assumption | (simp -implicitDefEqProofs (maxSteps := 1000000) (disch := omega) [go_sem, bdP, t0_18, t1_18, t5_18, t8_18, t9_18, or0_18] <;> omega), by first | with_reducible rfl | with_reducible assumption | (simp -implicitDefEqProofs (maxSteps := 1000000) (disch := omega) [go_sem, bdP, t0_18, t1_18, t5_18, t8_18, t9_18, or0_18] <;> omega)⟩
       ·intro c40 h
        try simp -implicitDefEqProofs (disch := omega) at c40
        refine IWp_seqF fun cb hc42 => ?_
        refine vcK ?_
        try simp -implicitDefEqProofs (maxSteps := 1000000) (disch := omega) [go_sem, bdP, t0_18, t1_18, t5_18, t8_18, t9_18, or0_18]
        subst hc42
        refine IWp_cond_i h (by first | with_reducible rfl | (simp -implicitDefEqProofs (maxSteps := 1000000) (disch := omega) [go_sem, bdP, t0_18, t1_18, t5_18, t8_18, t9_18, or0_18] <;> omega)) rfl ?_ ?_
        ·intro c43 h
         try simp -implicitDefEqProofs (disch := omega) at c43
         refine vcK ?_
         try simp -implicitDefEqProofs (maxSteps := 1000000) (disch := omega) [go_sem, bdP, t0_18, t1_18, t5_18, t8_18, t9_18, or0_18]
         subst hc38
         refine vcK ?_
         obtain ⟨g44, h⟩ := gd_some.1 h
         try simp -implicitDefEqProofs (disch := omega) at g44
         try simp -implicitDefEqProofs (maxSteps := 1000000) (disch := omega) [go_sem, bdP, t0_18, t1_18, t5_18, t8_18, t9_18, or0_18]
         subst hc28
         refine vcK ?_
         try simp -implicitDefEqProofs (maxSteps := 1000000) (disch := omega) [go_sem, bdP, t0_18, t1_18, t5_18, t8_18, t9_18, or0_18]
         have e18 := Option.some.inj h
         subst e18
         refine loopN_mk hI18 ((v19 ++ ([(⟨1, v14.getD v21.toNat [], x32⟩ : S48)]), IntKind.i64.wrap (v21 + 1))) ?_
         refine .same ⟨n20, by repeat (first | exact he18 | refine Ext.new ?_ _ | refine Ext.set ?_ (by first | omega | (simp [go_sem]; done) | (simp [go_sem]; omega)) _ | refine Ext.del ?_ (by first | omega | (simp [go_sem]; done) | (simp [go_sem]; omega))), by first | with_reducible rfl | with_reducible assumption | omega | (simp -implicitDefEqProofs (maxSteps := 1000000) (disch := omega) [go_sem, bdP, t0_18, t1_18, t5_18, t8_18, t9_18, or0_18] <;> omega), by first | with_reducible rfl | with_reducible assumption | omega | (simp -implicitDefEqProofs (maxSteps := 1000000) (disch := omega) [go_sem, bdP, t0_18, t1_18, t5_18, t8_18, t9_18, or0_18] <;> omega), by first | with_reducible rfl | with_reducible assumption | omega | (simp -implicitDefEqProofs (maxSteps := 1000000) (disch := omega) [go_sem, bdP, t0_18, t1_18, t5_18, t8_18, t9_18, or0_18] <;> omega), by first | with_reducible rfl | with_reducible assumption | (simp -implicitDefEqProofs (maxSteps := 1000000) (disch := omega) [go_sem, bdP, t0_18, t1_18, t5_18, t8_18, t9_18, or0_18] <;> omega), by first | with_reducible rfl | with_reducible assumption | (simp -implicitDefEqProofs (maxSteps := 1000000) (disch := omega) [go_sem, bdP, t0_18, t1_18, t5_18, t8_18, t9_18, or0_18] <;> omega), by first | with_reducible rfl | with_reducible assumption | (simp -implicitDefEqProofs (maxSteps := 1000000) (disch := omega) [go_sem, bdP, t0_18, t1_18, t5_18, t8_18, t9_18, or0_18] <;> omega), by first | with_reducible rfl | with_reducible assumption | (simp -implicitDefEqProofs (maxSteps := 1000000) (disch := omega) [go_sem, bdP, t0_18, t1_18, t5_18, t8_18, t9_18, or0_18] <;> omega), by first | with_reducible rfl | with_reducible assumption | (simp -implicitDefEqProofs (maxSteps := 1000000) (disch := omega) [go_sem, bdP, t0_18, t1_18, t5_18, t8_18, t9_18, or0_18] <;> omega), by first | with_reducible rfl | with_reducible assumption | (simp -implicitDefEqProofs (maxSteps := 1000000) (disch := omega) [go_sem, bdP, t0_18, t1_18, t5_18, t8_18, t9_18, or0_18] <;> omega)⟩
        ·intro c43 h
         try simp -implicitDefEqProofs (disch := omega) at c43
         refine vcK ?_
         simp -implicitDefEqProofs only [go_sem]
         subst hc38
         refine vcK ?_
         obtain ⟨g45, h⟩ := gd_some.1 h
         try simp -implicitDefEqProofs (disch := omega) at g45
         try simp -implicitDefEqProofs (maxSteps := 1000000) (disch := omega) [go_sem, bdP, t0_18, t1_18, t5_18, t8_18, t9_18, or0_18]
         subst hc28
         refine vcK ?_
         try simp -implicitDefEqProofs (maxSteps := 1000000) (disch := omega) [go_sem, bdP, t0_18, t1_18, t5_18, t8_18, t9_18, or0_18]
         have e18 := Option.some.inj h
         subst e18
         refine loopN_mk hI18 ((v19 ++ ([(⟨3, v14.getD v21.toNat [], x32⟩ : S48)]), IntKind.i64.wrap (v21 + 1))) ?_
         refine .same ⟨n20, by repeat (first | exact he18 | refine Ext.new ?_ _ | refine Ext.set ?_ (by first | omega | (simp [go_sem]; done) | (simp [go_sem]; omega)) _ | refine Ext.del ?_ (by first | omega | (simp [go_sem]; done) | (simp [go_sem]; omega))), by first | with_reducible rfl | with_reducible assumption | omega | (simp -implicitDefEqProofs (maxSteps := 1000000) (disch := omega) [go_sem, bdP, t0_18, t1_18, t5_18, t8_18, t9_18, or0_18] <;> omega), by first | with_reducible rfl | with_reducible assumption | omega | (simp -implicitDefEqProofs (maxSteps := 1000000) (disch := omega) [go_sem, bdP, t0_18, t1_18, t5_18, t8_18, t9_18, or0_18] <;> omega), by first | with_reducible rfl | with_reducible assumption | omega | (simp -implicitDefEqProofs (maxSteps := 1000000) (disch := omega) [go_sem, bdP, t0_18, t1_18, t5_18, t8_18, t9_18, or0_18] <;> omega), by first | with_reducible rfl | with_reducible assumption | (simp -implicitDefEqProofs (maxSteps := 1000000) (disch := omega) [go_sem, bdP, t0_18, t1_18, t5_18, t8_18, t9_18, or0_18] <;> omega), by first | with_reducible rfl | with_reducible assumption | (simp -implicitDefEqProofs (maxSteps := 1000000) (disch := omega) [go_sem, bdP, t0_18, t1_18, t5_18, t8_18, t9_18, or0_18] <;> omega), by first | with_reducible rfl | with_reducible assumption | (simp -implicitDefEqProofs (maxSteps := 1000000) (disch := omega) [go_sem, bdP, t0_18, t1_18, t5_18, t8_18, t9_18, or0_18] <;> omega), by first | with_reducible rfl | with_reducible assumption | (simp -implicitDefEqProofs (maxSteps := 1000000) (disch := omega) [go_sem, bdP, t0_18, t1_18, t5_18, t8_18, t9_18, or0_18] <;> omega), by first | with_reducible rfl | with_reducible assumption | (simp -implicitDefEqProofs (maxSteps := 1000000) (disch := omega) [go_sem, bdP, t0_18, t1_18, t5_18, t8_18, t9_18, or0_18] <;> omega), by first | with_reducible rfl | with_reducible assumption | (simp -implicitDefEqProofs (maxSteps := 1000000) (disch := omega) [go_sem, bdP, t0_18, t1_18, t5_18, t8_18, t9_18, or0_18] <;> omega)⟩
     ·intro c27 h
      try simp -implicitDefEqProofs (disch := omega) at c27
      refine vcK ?_
      simp -implicitDefEqProofs only [go_sem]
      have e18 := Option.some.inj h
      subst e18
      have hy18 := hret18 _ rfl
      refine hc18 _ _ ?_
      refine .same ⟨n20, v19, hy18, by repeat (first | exact he18 | refine Ext.new ?_ _ | refine Ext.set ?_ (by first | omega | (simp [go_sem]; done) | (simp [go_sem]; omega)) _ | refine Ext.del ?_ (by first | omega | (simp [go_sem]; done) | (simp [go_sem]; omega))), by first | with_reducible rfl | with_reducible assumption | omega | (simp -implicitDefEqProofs (maxSteps := 1000000) (disch := omega) [go_sem, bdP, t0_18, t1_18, t5_18, t8_18, t9_18, or0_18] <;> omega), by first | with_reducible rfl | with_reducible assumption | omega | (simp -implicitDefEqProofs (maxSteps := 1000000) (disch := omega) [go_sem, bdP, t0_18, t1_18, t5_18, t8_18, t9_18, or0_18] <;> omega), by first | with_reducible rfl | with_reducible assumption | omega | (simp -implicitDefEqProofs (maxSteps := 1000000) (disch := omega) [go_sem, bdP, t0_18, t1_18, t5_18, t8_18, t9_18, or0_18] <;> omega), by first | with_reducible rfl | with_reducible assumption | (simp -implicitDefEqProofs (maxSteps := 1000000) (disch := omega) [go_sem, bdP, t0_18, t1_18, t5_18, t8_18, t9_18, or0_18] <;> omega), by first | with_reducible rfl | with_reducible assumption | (simp -implicitDefEqProofs (maxSteps := 1000000) (disch := omega) [go_sem, bdP, t0_18, t1_18, t5_18, t8_18, t9_18, or0_18] <;> omega)⟩
  ·refine IWp_block ?_
   refine IWp_loopF (fun (s : (List (List UInt8)) × Int) tm' H' => H = H' ∧ tm' 0 = .sl 2 (a0.map fun x => [.v (str x.fName), .sl 1 (x.fValues.map fun x => [.v (str x)])]) ∧ tm' 1 = .sl 2 (a1.map fun x => [.v (str x.fName), .sl 1 (x.fValues.map fun x => [.v (str x)])]) ∧ tm' 5 = .sl 1 (s.1.map fun x => [.v (str x)]) ∧ tm' 7 = .v (.int .i64 s.2)) hl11q ?_ ?_
   ·refine .same ⟨rfl, ?_, ?_, ?_, ?_⟩ <;> first | with_reducible rfl | with_reducible assumption | (simp -implicitDefEqProofs (maxSteps := 1000000) (disch := omega) [go_sem, bdP, t0_5e, t1_5e, t5_5e] <;> omega)
   ·rintro I11 hI11 ⟨v12, v13⟩ x11 tm11 H11 ⟨rfl, t0_11, t1_11, t5_11, t7_11⟩ h hret11
    replace h : F26_b11 a1 v12 v13 = some x11 := h
    unfold F26_b11 at h
    refine IWp_seqF fun cb hc46 => ?_
    refine IWp_seqF fun cb hc47 => ?_
    refine vcK ?_
    try simp -implicitDefEqProofs (maxSteps := 1000000) (disch := omega) [go_sem, bdP, t0_11, t1_11, t5_11, t7_11]
    subst hc47
    refine IWp_cond_i h (by first | with_reducible rfl | (simp -implicitDefEqProofs (maxSteps := 1000000) (disch := omega) [go_sem, bdP, t0_11, t1_11, t5_11, t7_11] <;> omega)) rfl ?_ ?_
    ·intro c48 h
     try simp -implicitDefEqProofs (disch := omega) at c48
     refine vcK ?_
     simp -implicitDefEqProofs only [go_sem]
     subst hc46
     refine IWp_seqF fun cb hc49 => ?_
     refine IWp_block ?_
     refine vcK ?_
     obtain ⟨g50, h⟩ := gd_some.1 h
     try simp -implicitDefEqProofs (disch := omega) at g50
     try simp -implicitDefEqProofs (maxSteps := 1000000) (disch := omega) [go_sem, bdP, t0_11, t1_11, t5_11, t7_11]
     obtain ⟨x51, hx51, h⟩ := bind_some' h
     refine ICalls.eqA (args' := [.sl 1 (v12.map fun x => [.v (str x)]), .v (str ((a1.getD v13.toNat S50.zero).fName))]) (by first | with_reducible rfl | (simp -implicitDefEqProofs (maxSteps := 1000000) (disch := omega) [go_sem, bdP, t0_11, t1_11, t5_11, t7_11] <;> omega)) (F54_ok v12 ((a1.getD v13.toNat S50.zero).fName) hx51 ?_)
     try simp -implicitDefEqProofs (maxSteps := 1000000) (disch := omega) [go_sem, bdP, t0_11, t1_11, t5_11, t7_11]
     subst hc49
     refine vcK ?_
     try simp -implicitDefEqProofs (maxSteps := 1000000) (disch := omega) [go_sem, bdP, t0_11, t1_11, t5_11, t7_11]
     have e11 := Option.some.inj h
     subst e11
     refine loopN_mk hI11 ((x51, IntKind.i64.wrap (v13 + 1))) ?_
     refine .same ⟨rfl, ?_, ?_, ?_, ?_⟩ <;> first | with_reducible rfl | with_reducible assumption | (simp -implicitDefEqProofs (maxSteps := 1000000) (disch := omega) [go_sem, bdP, t0_11, t1_11, t5_11, t7_11] <;> omega)
    ·intro c48 h
     try simp -implicitDefEqProofs (disch := omega) at c48
     refine vcK ?_
     simp -implicitDefEqProofs only [go_sem]
     have e11 := Option.some.inj h
     subst e11
     have hy11 := hret11 _ rfl
     refine hc11 _ _ ?_
     refine .same ⟨v12, hy11, rfl, ?_, ?_, ?_⟩ <;> first | with_reducible rfl | with_reducible assumption | (simp -implicitDefEqProofs (maxSteps := 1000000) (disch := omega) [go_sem, bdP, t0_11, t1_11, t5_11, t7_11] <;> omega)
 ·refine IWp_block ?_
  refine IWp_loopF (fun (s : (List (List UInt8)) × Int) tm' H' => H = H' ∧ tm' 0 = .sl 2 (a0.map fun x => [.v (str x.fName), .sl 1 (x.fValues.map fun x => [.v (str x)])]) ∧ tm' 1 = .sl 2 (a1.map fun x => [.v (str x.fName), .sl 1 (x.fValues.map fun x => [.v (str x)])]) ∧ tm' 5 = .sl 1 (s.1.map fun x => [.v (str x)]) ∧ tm' 6 = .v (.int .i64 s.2)) hl5q ?_ ?_
  ·refine UpI.gh (Gh.slotN 5 1 (by (simp -implicitDefEqProofs (maxSteps := 1000000) (disch := omega) [go_sem, bdP] <;> omega))) ?_
   refine .same ⟨rfl, ?_, ?_, ?_, ?_⟩ <;> first | with_reducible rfl | with_reducible assumption | (simp -implicitDefEqProofs (maxSteps := 1000000) (disch := omega) [go_sem, bdP] <;> omega)
  ·rintro I5 hI5 ⟨v6, v7⟩ x5 tm5 H5 ⟨rfl, t0_5, t1_5, t5_5, t6_5⟩ h hret5
   replace h : F26_b5 a0 v6 v7 = some x5 := h
   unfold F26_b5 at h
   refine IWp_seqF fun cb hc52 => ?_
   refine IWp_seqF fun cb hc53 => ?_
   refine vcK ?_
   try simp -implicitDefEqProofs (maxSteps := 1000000) (disch := omega) [go_sem, bdP, t0_5, t1_5, t5_5, t6_5]
   subst hc53
   refine IWp_cond_i h (by first | with_reducible rfl | (simp -implicitDefEqProofs (maxSteps := 1000000) (disch := omega) [go_sem, bdP, t0_5, t1_5, t5_5, t6_5] <;> omega)) rfl ?_ ?_
   ·intro c54 h
    try simp -implicitDefEqProofs (disch := omega) at c54
    refine vcK ?_
    simp -implicitDefEqProofs only [go_sem]
    subst hc52
    refine IWp_seqF fun cb hc55 => ?_
    refine IWp_block ?_
    refine vcK ?_
    obtain ⟨g56, h⟩ := gd_some.1 h
    try simp -implicitDefEqProofs (disch := omega) at g56
    try simp -implicitDefEqProofs (maxSteps := 1000000) (disch := omega) [go_sem, bdP, t0_5, t1_5, t5_5, t6_5]
    obtain ⟨x57, hx57, h⟩ := bind_some' h
    refine ICalls.eqA (args' := [.sl 1 (v6.map fun x => [.v (str x)]), .v (str ((a0.getD v7.toNat S50.zero).fName))]) (by first | with_reducible rfl | (simp -implicitDefEqProofs (maxSteps := 1000000) (disch := omega) [go_sem, bdP, t0_5, t1_5, t5_5, t6_5] <;> omega)) (F54_ok v6 ((a0.getD v7.toNat S50.zero).fName) hx57 ?_)
    try simp -implicitDefEqProofs (maxSteps := 1000000) (disch := omega) [go_sem, bdP, t0_5, t1_5, t5_5, t6_5]
    subst hc55
    refine vcK ?_
    try simp -implicitDefEqProofs (maxSteps := 1000000) (disch := omega) [go_sem, bdP, t0_5, t1_5, t5_5, t6_5]
    have e5 := Option.some.inj h
    subst e5
    refine loopN_mk hI5 ((x57, IntKind.i64.wrap (v7 + 1))) ?_
    refine .same ⟨rfl, ?_, ?_, ?_, ?_⟩ <;> first | with_reducible rfl | with_reducible assumption | (simp -implicitDefEqProofs (maxSteps := 1000000) (disch := omega) [go_sem, bdP, t0_5, t1_5, t5_5, t6_5] <;> omega)
   ·intro c54 h
    try simp -implicitDefEqProofs (disch := omega) at c54
    refine vcK ?_
    simp -implicitDefEqProofs only [go_sem]
    have e5 := Option.some.inj h
    subst e5
    have hy5 := hret5 _ rfl
    refine hc5 _ _ ?_
    refine .same ⟨v6, hy5, rfl, ?_, ?_, ?_⟩ <;> first | with_reducible rfl | with_reducible assumption | (simp -implicitDefEqProofs (maxSteps := 1000000) (disch := omega) [go_sem, bdP, t0_5, t1_5, t5_5, t6_5] <;> omega)

/-! cardcase/cardcaseref07.SameMods -/

noncomputable def F25_k8  : Option Bool :=
 some true

noncomputable def F25_b8 (a0 : List S48) (a1 : List S48) (v9 : Int) : Option (Int ⊕ (Unit ⊕ Bool)) :=
 if v9 < (a0.length : Int) then (gd (0 ≤ v9 ∧ v9 < a0.length) (gd (0 ≤ v9 ∧ v9 < a1.length) (if ¬ ((a0.getD v9.toNat S48.zero).fKind) = ((a1.getD v9.toNat S48.zero).fKind) then (some (.inr (.inr false))) else (if ¬ ((a0.getD v9.toNat S48.zero).fName) = ((a1.getD v9.toNat S48.zero).fName) then (some (.inr (.inr false))) else ((F21 ((a0.getD v9.toNat S48.zero).fValues) ((a1.getD v9.toNat S48.zero).fValues)).bind fun (x20 : Bool) => if ¬ (x20 = true) then (some (.inr (.inr false))) else (some (.inl (IntKind.i64.wrap (v9 + 1))))))))) else (some (.inr (.inl ())))

noncomputable def F25 (a0 : List S48) (a1 : List S48) : Option Bool :=
 if ¬ (a0.length : Int) = (a1.length : Int) then (some false) else ((loopO (fun (s : Int) => F25_b8 a0 a1 s) 0).bind fun y => Sum.elim (fun (e : Unit) => F25_k8) (fun (q : Bool) => some q) y)

set_option maxHeartbeats 8000000 in
set_option pp.deepTerms false in
set_option maxRecDepth 60000 in
theorem F25_ok {H : IHeap} {K : IEnd → IHeap → Prop} (a0 : List S48) (a1 : List S48) {r : Bool} (h : F25 a0 a1 = some r) (hK : K (.ret (.v (.bool r))) H) : ICalls prog 25 [.sl 3 (a0.map fun x => [.v (.int .i64 x.fKind), .v (str x.fName), .sl 1 (x.fValues.map fun x => [.v (str x)])]), .sl 3 (a1.map fun x => [.v (.int .i64 x.fKind), .v (str x.fName), .sl 1 (x.fValues.map fun x => [.v (str x)])])] H K := by
 refine ICalls_iwp (N := 55) func25 (by kernel_rfl) rfl (by kernel_rfl) (by kernel_rfl) fun cb hcb hw hbd hnb => ?_
 clear hbd hnb
 subst hcb
 unfold F25 at h
 refine IWp_seqF fun cb hc1 => ?_
 refine vcK ?_
 try simp -implicitDefEqProofs (maxSteps := 1000000) (disch := omega) [go_sem]
 subst hc1
 refine IWp_seqF fun cb hc2 => ?_
 refine IWp_seqF fun cb hc3 => ?_
 refine vcK ?_
 try simp -implicitDefEqProofs (maxSteps := 1000000) (disch := omega) [go_sem]
 subst hc3
 refine IWp_cond_i h (by first | with_reducible rfl | (simp -implicitDefEqProofs (maxSteps := 1000000) (disch := omega) [go_sem] <;> omega)) rfl ?_ ?_
 ·intro c4 h
  try simp -implicitDefEqProofs (disch := omega) at c4
  refine IWp_seqF fun cb hc5 => ?_
  refine vcK ?_
  try simp -implicitDefEqProofs (maxSteps := 1000000) (disch := omega) [go_sem]
  subst hc5
  refine vcK ?_
  simp -implicitDefEqProofs only [go_sem]
  have er := Option.some.inj h
  subst er
  try simp -implicitDefEqProofs (maxSteps := 1000000) (disch := omega) [go_sem]
  refine retG_pureA (Ext.refl hw) hK (e := by first | with_reducible rfl | (simp -implicitDefEqProofs (maxSteps := 1000000) (disch := omega) [go_sem] <;> omega))
 ·intro c4 h
  try simp -implicitDefEqProofs (disch := omega) at c4
  refine vcK ?_
  simp -implicitDefEqProofs only [go_sem]
  subst hc2
  refine IWp_seqF fun cb hc6 => ?_
  refine IWp_seqF fun cb hc7 => ?_
  refine vcK ?_
  try simp -implicitDefEqProofs (maxSteps := 1000000) (disch := omega) [go_sem]
  subst hc7
  obtain ⟨y8, hl8q, hk8⟩ := bind_some' h
  refine IWp_tailC (fun tm' H' => .inl () = y8 ∧ H = H') ?_ fun cb hc8 => ?_
  ·rintro tm8e H8e ⟨rfl, rfl⟩
   have h : F25_k8 = some r := hk8
   unfold F25_k8 at h
   simp -implicitDefEqProofs only [go_sem]
   subst hc6
   refine IWp_seqF fun cb hc10 => ?_
   refine vcK ?_
   try simp -implicitDefEqProofs (maxSteps := 1000000) (disch := omega) [go_sem]
   subst hc10
   refine vcK ?_
   simp -implicitDefEqProofs only [go_sem]
   have er := Option.some.inj h
   subst er
   try simp -implicitDefEqProofs (maxSteps := 1000000) (disch := omega) [go_sem]
   refine retG_pureA (Ext.refl hw) hK (e := by first | with_reducible rfl | (simp -implicitDefEqProofs (maxSteps := 1000000) (disch := omega) [go_sem] <;> omega))
  ·refine IWp_block ?_
   refine IWp_loopF (fun (s : Int) tm' H' => H = H' ∧ tm' 0 = .sl 3 (a0.map fun x => [.v (.int .i64 x.fKind), .v (str x.fName), .sl 1 (x.fValues.map fun x => [.v (str x)])]) ∧ tm' 1 = .sl 3 (a1.map fun x => [.v (.int .i64 x.fKind), .v (str x.fName), .sl 1 (x.fValues.map fun x => [.v (str x)])]) ∧ tm' 5 = .v (.int .i64 s)) hl8q ?_ ?_
   ·refine .same ⟨rfl, ?_, ?_, ?_⟩ <;> first | with_reducible rfl | with_reducible assumption | (simp -implicitDefEqProofs (maxSteps := 1000000) (disch := omega) [go_sem] <;> omega)
   ·rintro I8 hI8 v9 x8 tm8 H8 ⟨rfl, t0_8, t1_8, t5_8⟩ h hret8
    replace h : F25_b8 a0 a1 v9 = some x8 := h
    unfold F25_b8 at h
    refine IWp_seqF fun cb hc11 => ?_
    refine IWp_seqF fun cb hc12 => ?_
    refine vcK ?_
    try simp -implicitDefEqProofs (maxSteps := 1000000) (disch := omega) [go_sem, t0_8, t1_8, t5_8]
    subst hc12
    refine IWp_cond_i h (by first | with_reducible rfl | (simp -implicitDefEqProofs (maxSteps := 1000000) (disch := omega) [go_sem, t0_8, t1_8, t5_8] <;> omega)) rfl ?_ ?_
    ·intro c13 h
     try simp -implicitDefEqProofs (disch := omega) at c13
     refine vcK ?_
     simp -implicitDefEqProofs only [go_sem]
     subst hc11
     refine IWp_seqF fun cb hc14 => ?_
     refine IWp_block ?_
     refine IWp_seqF fun cb hc15 => ?_
     refine IWp_drawP [35] [0, 1, 2, 3, 4, 5, 6, 7, 8, 9, 10, 11, 12, 13, 14, 15, 16, 17, 18, 19, 20, 21, 22, 23, 24, 25, 26, 27, 28, 29, 30, 31, 32, 33, 34, 35, 36, 37] (by kernel_rfl) (by kernel_rfl) (fun _ _ _ _ h => h) ?_
     obtain ⟨g16, h⟩ := gd_some.1 h
     try simp -implicitDefEqProofs (disch := omega) at g16
     obtain ⟨g17, h⟩ := gd_some.1 h
     try simp -implicitDefEqProofs (disch := omega) at g17
     try simp -implicitDefEqProofs (maxSteps := 1000000) (disch := omega) [go_sem, t0_8, t1_8, t5_8]
     refine splitG_f h (by first | with_reducible rfl | (simp -implicitDefEqProofs (maxSteps := 1000000) (disch := omega) [go_sem, t0_8, t1_8, t5_8] <;> omega)) ?_ ?_
     ·intro c24 h
      try simp -implicitDefEqProofs (disch := omega) at c24
      try simp -implicitDefEqProofs (maxSteps := 1000000) (disch := omega) [go_sem, t0_8, t1_8, t5_8]
      subst hc15
      refine IWp_cond_t (by first | with_reducible rfl | (simp -implicitDefEqProofs (maxSteps := 1000000) (disch := omega) [go_sem, t0_8, t1_8, t5_8] <;> omega)) rfl ?_
      refine IWp_seqF fun cb hc18 => ?_
      refine vcK ?_
      try simp -implicitDefEqProofs (maxSteps := 1000000) (disch := omega) [go_sem, t0_8, t1_8, t5_8]
      subst hc18
      refine vcK ?_
      simp -implicitDefEqProofs only [go_sem]
      have e8 := Option.some.inj h
      subst e8
      have e8 := hret8 _ rfl
      subst e8
      replace h : some false = some r := hk8
      have er := Option.some.inj h
      subst er
      try simp -implicitDefEqProofs (maxSteps := 1000000) (disch := omega) [go_sem, t0_8, t1_8, t5_8]
      refine retG_pureA (Ext.refl hw) hK (e := by first | with_reducible rfl | (simp -implicitDefEqProofs (maxSteps := 1000000) (disch := omega) [go_sem, t0_8, t1_8, t5_8] <;> omega))
     ·intro c24 h
      try simp -implicitDefEqProofs (disch := omega) at c24
      try simp -implicitDefEqProofs (maxSteps := 1000000) (disch := omega) [go_sem, t0_8, t1_8, t5_8]
      refine splitG_f h (by first | with_reducible rfl | (simp -implicitDefEqProofs (maxSteps := 1000000) (disch := omega) [go_sem, t0_8, t1_8, t5_8] <;> omega)) ?_ ?_
      ·intro c23 h
       try simp -implicitDefEqProofs (disch := omega) at c23
       try simp -implicitDefEqProofs (maxSteps := 1000000) (disch := omega) [go_sem, t0_8, t1_8, t5_8]
       subst hc15
       refine IWp_cond_t (by first | with_reducible rfl | (simp -implicitDefEqProofs (maxSteps := 1000000) (disch := omega) [go_sem, t0_8, t1_8, t5_8] <;> omega)) rfl ?_
       refine IWp_seqF fun cb hc19 => ?_
       refine vcK ?_
       try simp -implicitDefEqProofs (maxSteps := 1000000) (disch := omega) [go_sem, t0_8, t1_8, t5_8]
       subst hc19
       refine vcK ?_
       simp -implicitDefEqProofs only [go_sem]
       have e8 := Option.some.inj h
       subst e8
       have e8 := hret8 _ rfl
       subst e8
       replace h : some false = some r := hk8
       have er := Option.some.inj h
       subst er
       try simp -implicitDefEqProofs (maxSteps := 1000000) (disch := omega) [go_sem, t0_8, t1_8, t5_8]
       refine retG_pureA (Ext.refl hw) hK (e := by first | with_reducible rfl | (simp -implicitDefEqProofs (maxSteps := 1000000) (disch := omega) [go_sem, t0_8, t1_8, t5_8] <;> omega))
      ·intro c23 h
       try simp -implicitDefEqProofs (disch := omega) at c23
       try simp -implicitDefEqProofs (maxSteps := 1000000) (disch := omega) [go_sem, t0_8, t1_8, t5_8]
       obtain ⟨x20, hx20, h⟩ := bind_some' h
       refine PureC.mk _ (fun _ _ hK => ICalls.eqA (args' := [.sl 1 (((a0.getD v9.toNat S48.zero).fValues).map fun x => [.v (str x)]), .sl 1 (((a1.getD v9.toNat S48.zero).fValues).map fun x => [.v (str x)])]) (by first | with_reducible rfl | (simp -implicitDefEqProofs (maxSteps := 1000000) (disch := omega) [go_sem, t0_8, t1_8, t5_8] <;> omega)) (F21_ok ((a0.getD v9.toNat S48.zero).fValues) ((a1.getD v9.toNat S48.zero).fValues) hx20 hK)) ?_
       try simp -implicitDefEqProofs (maxSteps := 1000000) (disch := omega) [go_sem, t0_8, t1_8, t5_8]
       subst hc15
       refine IWp_cond_i h (by first | with_reducible rfl | (simp -implicitDefEqProofs (maxSteps := 1000000) (disch := omega) [go_sem, t0_8, t1_8, t5_8] <;> omega)) rfl ?_ ?_
       ·intro c21 h
        try simp -implicitDefEqProofs (disch := omega) at c21
        refine IWp_seqF fun cb hc22 => ?_
        refine vcK ?_
        try simp -implicitDefEqProofs (maxSteps := 1000000) (disch := omega) [go_sem, t0_8, t1_8, t5_8]
        subst hc22
        refine vcK ?_
        simp -implicitDefEqProofs only [go_sem]
        have e8 := Option.some.inj h
        subst e8
        have e8 := hret8 _ rfl
        subst e8
        replace h : some false = some r := hk8
        have er := Option.some.inj h
        subst er
        try simp -implicitDefEqProofs (maxSteps := 1000000) (disch := omega) [go_sem, t0_8, t1_8, t5_8]
        refine retG_pureA (Ext.refl hw) hK (e := by first | with_reducible rfl | (simp -implicitDefEqProofs (maxSteps := 1000000) (disch := omega) [go_sem, t0_8, t1_8, t5_8] <;> omega))
       ·intro c21 h
        try simp -implicitDefEqProofs (disch := omega) at c21
        refine vcK ?_
        simp -implicitDefEqProofs only [go_sem]
        subst hc14
        refine vcK ?_
        try simp -implicitDefEqProofs (maxSteps := 1000000) (disch := omega) [go_sem, t0_8, t1_8, t5_8]
        have e8 := Option.some.inj h
        subst e8
        refine loopN_mk hI8 (IntKind.i64.wrap (v9 + 1)) ?_
        refine .same ⟨rfl, ?_, ?_, ?_⟩ <;> first | with_reducible rfl | with_reducible assumption | (simp -implicitDefEqProofs (maxSteps := 1000000) (disch := omega) [go_sem, t0_8, t1_8, t5_8] <;> omega)
    ·intro c13 h
     try simp -implicitDefEqProofs (disch := omega) at c13
     refine vcK ?_
     simp -implicitDefEqProofs only [go_sem]
     have e8 := Option.some.inj h
     subst e8
     have hy8 := hret8 _ rfl
     refine hc8 _ _ ?_
     refine .same ⟨hy8, rfl⟩

/-! cardcase/cardcaselaw07.EntryDiffs -/

noncomputable def F5_k38 (a1 : List S50) (v42 : List S50) (v43 : Int) : Option Bool :=
 if v43 = 0 then ((F16 v42 a1).bind fun (x45 : Bool) => if x45 = true then ((F13 ).bind fun (x46 : Bool) => some x46) else (some false)) else (some false)

noncomputable def F5_k54 (v41 : Int) (v58 : List S50) (v59 : Int) : Option (((List S50) × Int × Int) ⊕ ((List S50) × Int)) :=
 some (.inl ((v58, v59, IntKind.i64.wrap (v41 + 1))))

noncomputable def F5_b54 (x12 : (List S48) × Int) (v41 : Int) (v55 : List S50) (v56 : Int) (v57 : Int) : Option (((List S50) × Int × Int) ⊕ ((List S50) × Int)) :=
 if v57 < (x12.1.length : Int) then (if v56 = 0 then (gd (0 ≤ v57 ∧ v57 < x12.1.length) (if (decide (((x12.1.getD v57.toNat S48.zero).fKind) = 2)) = (decide (v41 = 0)) then ((F14 v55 ([x12.1.getD v57.toNat S48.zero])).bind fun (x67 : (List S50) × Int) => some (.inl ((x67.1, x67.2, IntKind.i64.wrap (v57 + 1))))) else (some (.inl ((v55, v56, IntKind.i64.wrap (v57 + 1))))))) else (some (.inr (v55, v56)))) else (some (.inr (v55, v56)))

noncomputable def F5_b38 (x12 : (List S48) × Int) (v39 : List S50) (v40 : Int) (v41 : Int) : Option (((List S50) × Int × Int) ⊕ ((List S50) × Int)) :=
 if v41 < 2 then ((loopO (fun (s : (List S50) × Int × Int) => F5_b54 x12 v41 s.1 s.2.1 s.2.2) (v39, v40, 0)).bind fun (e : (List S50) × Int) => F5_k54 v41 e.1 e.2) else (some (.inr (v39, v40)))

noncomputable def F5 (a0 : List S50) (a1 : List S50) : Option Bool :=
 (F11 a0).bind fun (x4 : Bool) => if ¬ (x4 = true) then ((F13 ).bind fun (x6 : Bool) => some x6) else ((F11 a1).bind fun (x7 : Bool) => if ¬ (x7 = true) then ((F13 ).bind fun (x10 : Bool) => some x10) else ((F24 a0 a1).bind fun (x12 : (List S48) × Int) => (F18 a0).bind fun (x15 : Bool) => if ¬ (x15 = true) then (if (x12.1.length : Int) = 0 then (if x12.2 = 2 then ((F13 ).bind fun (x17 : Bool) => some x17) else (some false)) else (some false)) else ((F18 a1).bind fun (x20 : Bool) => if ¬ (x20 = true) then (if (x12.1.length : Int) = 0 then (if x12.2 = 2 then ((F13 ).bind fun (x23 : Bool) => some x23) else (some false)) else (some false)) else (if ¬ x12.2 = 0 then (some false) else ((F26 a0 a1).bind fun (x29 : (List S48)) => (F25 x12.1 x29).bind fun (x30 : Bool) => if ¬ (x30 = true) then (some false) else ((F16 a0 a1).bind fun (x32 : Bool) => if ¬ (decide ((x12.1.length : Int) = 0)) = x32 then (some false) else ((loopO (fun (s : (List S50) × Int × Int) => F5_b38 x12 s.1 s.2.1 s.2.2) (a0, 0, 0)).bind fun (e : (List S50) × Int) => F5_k38 a1 e.1 e.2)))))))

set_option maxHeartbeats 8000000 in
set_option pp.deepTerms false in
set_option maxRecDepth 60000 in
theorem F5_ok {H : IHeap} {K : IEnd → IHeap → Prop} (a0 : List S50) (a1 : List S50) {r : Bool} (h : F5 a0 a1 = some r) (hK : K (.ret (.v (.bool r))) H) : ICalls prog 5 [.sl 2 (a0.map fun x => [.v (str x.fName), .sl 1 (x.fValues.map fun x => [.v (str x)])]), .sl 2 (a1.map fun x => [.v (str x.fName), .sl 1 (x.fValues.map fun x => [.v (str x)])])] H K := by
 refine ICalls_iwp (N := 107) func5 (by kernel_rfl) rfl (by kernel_rfl) (by kernel_rfl) fun cb hcb hw hbd hnb => ?_
 clear hbd hnb
 subst hcb
 unfold F5 at h
 refine IWp_seqF fun cb hc1 => ?_
 refine vcK ?_
 try simp -implicitDefEqProofs (maxSteps := 1000000) (disch := omega) [go_sem]
 subst hc1
 refine IWp_seqF fun cb hc2 => ?_
 refine IWp_seqF fun cb hc3 => ?_
 refine vcK ?_
 try simp -implicitDefEqProofs (maxSteps := 1000000) (disch := omega) [go_sem]
 obtain ⟨x4, hx4, h⟩ := bind_some' h
 refine ICalls.eqA (args' := [.sl 2 (a0.map fun x => [.v (str x.fName), .sl 1 (x.fValues.map fun x => [.v (str x)])])]) (by first | with_reducible rfl | (simp -implicitDefEqProofs (maxSteps := 1000000) (disch := omega) [go_sem] <;> omega)) (F11_ok a0 hx4 ?_)
 try simp -implicitDefEqProofs (maxSteps := 1000000) (disch := omega) [go_sem]
 refine splitG_f h (by first | with_reducible rfl | (simp -implicitDefEqProofs (maxSteps := 1000000) (disch := omega) [go_sem] <;> omega)) ?_ ?_
 ·intro c72 h
  try simp -implicitDefEqProofs (disch := omega) at c72
  try simp -implicitDefEqProofs (maxSteps := 1000000) (disch := omega) [go_sem]
  subst hc3
  refine IWp_cond_t (by first | with_reducible rfl | (simp -implicitDefEqProofs (maxSteps := 1000000) (disch := omega) [go_sem] <;> omega)) rfl ?_
  refine IWp_seqF fun cb hc5 => ?_
  refine vcK ?_
  try simp -implicitDefEqProofs (maxSteps := 1000000) (disch := omega) [go_sem]
  obtain ⟨x6, hx6, h⟩ := bind_some' h
  refine ICalls.eqA (args' := []) (by first | with_reducible rfl | (simp -implicitDefEqProofs (maxSteps := 1000000) (disch := omega) [go_sem] <;> omega)) (F13_ok  hx6 ?_)
  try simp -implicitDefEqProofs (maxSteps := 1000000) (disch := omega) [go_sem]
  subst hc5
  refine vcK ?_
  simp -implicitDefEqProofs only [go_sem]
  have er := Option.some.inj h
  subst er
  try simp -implicitDefEqProofs (maxSteps := 1000000) (disch := omega) [go_sem]
  refine retG_pureA (Ext.refl hw) hK (e := by first | with_reducible rfl | (simp -implicitDefEqProofs (maxSteps := 1000000) (disch := omega) [go_sem] <;> omega))
 ·intro c72 h
  try simp -implicitDefEqProofs (disch := omega) at c72
  try simp -implicitDefEqProofs (maxSteps := 1000000) (disch := omega) [go_sem]
  obtain ⟨x7, hx7, h⟩ := bind_some' h
  refine ICalls.eqA (args' := [.sl 2 (a1.map fun x => [.v (str x.fName), .sl 1 (x.fValues.map fun x => [.v (str x)])])]) (by first | with_reducible rfl | (simp -implicitDefEqProofs (maxSteps := 1000000) (disch := omega) [go_sem] <;> omega)) (F11_ok a1 hx7 ?_)
  try simp -implicitDefEqProofs (maxSteps := 1000000) (disch := omega) [go_sem]
  subst hc3
  refine IWp_cond_i h (by first | with_reducible rfl | (simp -implicitDefEqProofs (maxSteps := 1000000) (disch := omega) [go_sem] <;> omega)) rfl ?_ ?_
  ·intro c8 h
   try simp -implicitDefEqProofs (disch := omega) at c8
   refine IWp_seqF fun cb hc9 => ?_
   refine vcK ?_
   try simp -implicitDefEqProofs (maxSteps := 1000000) (disch := omega) [go_sem]
   obtain ⟨x10, hx10, h⟩ := bind_some' h
   refine ICalls.eqA (args' := []) (by first | with_reducible rfl | (simp -implicitDefEqProofs (maxSteps := 1000000) (disch := omega) [go_sem] <;> omega)) (F13_ok  hx10 ?_)
   try simp -implicitDefEqProofs (maxSteps := 1000000) (disch := omega) [go_sem]
   subst hc9
   refine vcK ?_
   simp -implicitDefEqProofs only [go_sem]
   have er := Option.some.inj h
   subst er
   try simp -implicitDefEqProofs (maxSteps := 1000000) (disch := omega) [go_sem]
   refine retG_pureA (Ext.refl hw) hK (e := by first | with_reducible rfl | (simp -implicitDefEqProofs (maxSteps := 1000000) (disch := omega) [go_sem] <;> omega))
  ·intro c8 h
   try simp -implicitDefEqProofs (disch := omega) at c8
   refine vcK ?_
   simp -implicitDefEqProofs only [go_sem]
   subst hc2
   refine IWp_seqF fun cb hc11 => ?_
   refine vcK ?_
   try simp -implicitDefEqProofs (maxSteps := 1000000) (disch := omega) [go_sem]
   obtain ⟨x12, hx12, h⟩ := bind_some' h
   refine ICalls.eqA (args' := [.sl 2 (a0.map fun x => [.v (str x.fName), .sl 1 (x.fValues.map fun x => [.v (str x)])]), .sl 2 (a1.map fun x => [.v (str x.fName), .sl 1 (x.fValues.map fun x => [.v (str x)])])]) (by first | with_reducible rfl | (simp -implicitDefEqProofs (maxSteps := 1000000) (disch := omega) [go_sem] <;> omega)) (F24_ok a0 a1 hx12 ?_)
   try simp -implicitDefEqProofs (maxSteps := 1000000) (disch := omega) [go_sem]
   subst hc11
   refine IWp_seqF fun cb hc13 => ?_
   refine IWp_seqF fun cb hc14 => ?_
   refine vcK ?_
   try simp -implicitDefEqProofs (maxSteps := 1000000) (disch := omega) [go_sem]
   obtain ⟨x15, hx15, h⟩ := bind_some' h
   refine ICalls.eqA (args' := [.sl 2 (a0.map fun x => [.v (str x.fName), .sl 1 (x.fValues.map fun x => [.v (str x)])])]) (by first | with_reducible rfl | (simp -implicitDefEqProofs (maxSteps := 1000000) (disch := omega) [go_sem] <;> omega)) (F18_ok a0 hx15 ?_)
   try simp -implicitDefEqProofs (maxSteps := 1000000) (disch := omega) [go_sem]
   refine splitG_f h (by first | with_reducible rfl | (simp -implicitDefEqProofs (maxSteps := 1000000) (disch := omega) [go_sem] <;> omega)) ?_ ?_
   ·intro c71 h
    try simp -implicitDefEqProofs (disch := omega) at c71
    try simp -implicitDefEqProofs (maxSteps := 1000000) (disch := omega) [go_sem]
    subst hc14
    refine IWp_cond_t (by first | with_reducible rfl | (simp -implicitDefEqProofs (maxSteps := 1000000) (disch := omega) [go_sem] <;> omega)) rfl ?_
    refine IWp_seqF fun cb hc16 => ?_
    refine vcK ?_
    try simp -implicitDefEqProofs (maxSteps := 1000000) (disch := omega) [go_sem]
    refine splitG_f h (by first | with_reducible rfl | (simp -implicitDefEqProofs (maxSteps := 1000000) (disch := omega) [go_sem] <;> omega)) ?_ ?_
    ·intro c19 h
     try simp -implicitDefEqProofs (disch := omega) at c19
     try simp -implicitDefEqProofs (maxSteps := 1000000) (disch := omega) [go_sem]
     refine splitG_f h (by first | with_reducible rfl | (simp -implicitDefEqProofs (maxSteps := 1000000) (disch := omega) [go_sem] <;> omega)) ?_ ?_
     ·intro c18 h
      try simp -implicitDefEqProofs (disch := omega) at c18
      try simp -implicitDefEqProofs (maxSteps := 1000000) (disch := omega) [go_sem]
      obtain ⟨x17, hx17, h⟩ := bind_some' h
      refine ICalls.eqA (args' := []) (by first | with_reducible rfl | (simp -implicitDefEqProofs (maxSteps := 1000000) (disch := omega) [go_sem] <;> omega)) (F13_ok  hx17 ?_)
      try simp -implicitDefEqProofs (maxSteps := 1000000) (disch := omega) [go_sem]
      subst hc16
      refine vcK ?_
      simp -implicitDefEqProofs only [go_sem]
      have er := Option.some.inj h
      subst er
      try simp -implicitDefEqProofs (maxSteps := 1000000) (disch := omega) [go_sem]
      refine retG_pureA (Ext.refl hw) hK (e := by first | with_reducible rfl | (simp -implicitDefEqProofs (maxSteps := 1000000) (disch := omega) [go_sem] <;> omega))
     ·intro c18 h
      try simp -implicitDefEqProofs (disch := omega) at c18
      try simp -implicitDefEqProofs (maxSteps := 1000000) (disch := omega) [go_sem]
      subst hc16
      refine vcK ?_
      simp -implicitDefEqProofs only [go_sem]
      have er := Option.some.inj h
      subst er
      try simp -implicitDefEqProofs (maxSteps := 1000000) (disch := omega) [go_sem]
      refine retG_pureA (Ext.refl hw) hK (e := by first | with_reducible rfl | (simp -implicitDefEqProofs (maxSteps := 1000000) (disch := omega) [go_sem] <;> omega))
    ·intro c19 h
     try simp -implicitDefEqProofs (disch := omega) at c19
     try simp -implicitDefEqProofs (maxSteps := 1000000) (disch := omega) [go_sem]
     subst hc16
     refine vcK ?_
     simp -implicitDefEqProofs only [go_sem]
     have er := Option.some.inj h
     subst er
     try simp -implicitDefEqProofs (maxSteps := 1000000) (disch := omega) [go_sem]
     refine retG_pureA (Ext.refl hw) hK (e := by first | with_reducible rfl | (simp -implicitDefEqProofs (maxSteps := 1000000) (disch := omega) [go_sem] <;> omega))
   ·intro c71 h
    try simp -implicitDefEqProofs (disch := omega) at c71
    try simp -implicitDefEqProofs (maxSteps := 1000000) (disch := omega) [go_sem]
    obtain ⟨x20, hx20, h⟩ := bind_some' h
    refine ICalls.eqA (args' := [.sl 2 (a1.map fun x => [.v (str x.fName), .sl 1 (x.fValues.map fun x => [.v (str x)])])]) (by first | with_reducible rfl | (simp -implicitDefEqProofs (maxSteps := 1000000) (disch := omega) [go_sem] <;> omega)) (F18_ok a1 hx20 ?_)
    try simp -implicitDefEqProofs (maxSteps := 1000000) (disch := omega) [go_sem]
    subst hc14
    refine IWp_cond_i h (by first | with_reducible rfl | (simp -implicitDefEqProofs (maxSteps := 1000000) (disch := omega) [go_sem] <;> omega)) rfl ?_ ?_
    ·intro c21 h
     try simp -implicitDefEqProofs (disch := omega) at c21
     refine IWp_seqF fun cb hc22 => ?_
     refine vcK ?_
     try simp -implicitDefEqProofs (maxSteps := 1000000) (disch := omega) [go_sem]
     refine splitG_f h (by first | with_reducible rfl | (simp -implicitDefEqProofs (maxSteps := 1000000) (disch := omega) [go_sem] <;> omega)) ?_ ?_
     ·intro c25 h
      try simp -implicitDefEqProofs (disch := omega) at c25
      try simp -implicitDefEqProofs (maxSteps := 1000000) (disch := omega) [go_sem]
      refine splitG_f h (by first | with_reducible rfl | (simp -implicitDefEqProofs (maxSteps := 1000000) (disch := omega) [go_sem] <;> omega)) ?_ ?_
      ·intro c24 h
       try simp -implicitDefEqProofs (disch := omega) at c24
       try simp -implicitDefEqProofs (maxSteps := 1000000) (disch := omega) [go_sem]
       obtain ⟨x23, hx23, h⟩ := bind_some' h
       refine ICalls.eqA (args' := []) (by first | with_reducible rfl | (simp -implicitDefEqProofs (maxSteps := 1000000) (disch := omega) [go_sem] <;> omega)) (F13_ok  hx23 ?_)
       try simp -implicitDefEqProofs (maxSteps := 1000000) (disch := omega) [go_sem]
       subst hc22
       refine vcK ?_
       simp -implicitDefEqProofs only [go_sem]
       have er := Option.some.inj h
       subst er
       try simp -implicitDefEqProofs (maxSteps := 1000000) (disch := omega) [go_sem]
       refine retG_pureA (Ext.refl hw) hK (e := by first | with_reducible rfl | (simp -implicitDefEqProofs (maxSteps := 1000000) (disch := omega) [go_sem] <;> omega))
      ·intro c24 h
       try simp -implicitDefEqProofs (disch := omega) at c24
       try simp -implicitDefEqProofs (maxSteps := 1000000) (disch := omega) [go_sem]
       subst hc22
       refine vcK ?_
       simp -implicitDefEqProofs only [go_sem]
       have er := Option.some.inj h
       subst er
       try simp -implicitDefEqProofs (maxSteps := 1000000) (disch := omega) [go_sem]
       refine retG_pureA (Ext.refl hw) hK (e := by first | with_reducible rfl | (simp -implicitDefEqProofs (maxSteps := 1000000) (disch := omega) [go_sem] <;> omega))
     ·intro c25 h
      try simp -implicitDefEqProofs (disch := omega) at c25
      try simp -implicitDefEqProofs (maxSteps := 1000000) (disch := omega) [go_sem]
      subst hc22
      refine vcK ?_
      simp -implicitDefEqProofs only [go_sem]
      have er := Option.some.inj h
      subst er
      try simp -implicitDefEqProofs (maxSteps := 1000000) (disch := omega) [go_sem]
      refine retG_pureA (Ext.refl hw) hK (e := by first | with_reducible rfl | (simp -implicitDefEqProofs (maxSteps := 1000000) (disch := omega) [go_sem] <;> omega))
    ·intro c21 h
     try simp -implicitDefEqProofs (disch := omega) at c21
     refine vcK ?_
     simp -implicitDefEqProofs only [go_sem]
     subst hc13
     refine IWp_seqF fun cb hc26 => ?_
     refine IWp_seqF fun cb hc27 => ?_
     refine vcK ?_
     try simp -implicitDefEqProofs (maxSteps := 1000000) (disch := omega) [go_sem]
     refine splitG_f h (by first | with_reducible rfl | (simp -implicitDefEqProofs (maxSteps := 1000000) (disch := omega) [go_sem] <;> omega)) ?_ ?_
     ·intro c70 h
      try simp -implicitDefEqProofs (disch := omega) at c70
      try simp -implicitDefEqProofs (maxSteps := 1000000) (disch := omega) [go_sem]
      subst hc27
      refine IWp_cond_t (by first | with_reducible rfl | (simp -implicitDefEqProofs (maxSteps := 1000000) (disch := omega) [go_sem] <;> omega)) rfl ?_
      refine IWp_seqF fun cb hc28 => ?_
      refine vcK ?_
      try simp -implicitDefEqProofs (maxSteps := 1000000) (disch := omega) [go_sem]
      subst hc28
      refine vcK ?_
      simp -implicitDefEqProofs only [go_sem]
      have er := Option.some.inj h
      subst er
      try simp -implicitDefEqProofs (maxSteps := 1000000) (disch := omega) [go_sem]
      refine retG_pureA (Ext.refl hw) hK (e := by first | with_reducible rfl | (simp -implicitDefEqProofs (maxSteps := 1000000) (disch := omega) [go_sem] <;> omega))
     ·intro c70 h
      try simp -implicitDefEqProofs (disch := omega) at c70
      try simp -implicitDefEqProofs (maxSteps := 1000000) (disch := omega) [go_sem]
      obtain ⟨x29, hx29, h⟩ := bind_some' h
      refine ICalls.eqA (args' := [.sl 2 (a0.map fun x => [.v (str x.fName), .sl 1 (x.fValues.map fun x => [.v (str x)])]), .sl 2 (a1.map fun x => [.v (str x.fName), .sl 1 (x.fValues.map fun x => [.v (str x)])])]) (by first | with_reducible rfl | (simp -implicitDefEqProofs (maxSteps := 1000000) (disch := omega) [go_sem] <;> omega)) (F26_ok a0 a1 hx29 ?_)
      try simp -implicitDefEqProofs (maxSteps := 1000000) (disch := omega) [go_sem]
      obtain ⟨x30, hx30, h⟩ := bind_some' h
      refine ICalls.eqA (args' := [.sl 3 (x12.1.map fun x => [.v (.int .i64 x.fKind), .v (str x.fName), .sl 1 (x.fValues.map fun x => [.v (str x)])]), .sl 3 (x29.map fun x => [.v (.int .i64 x.fKind), .v (str x.fName), .sl 1 (x.fValues.map fun x => [.v (str x)])])]) (by first | with_reducible rfl | (simp -implicitDefEqProofs (maxSteps := 1000000) (disch := omega) [go_sem] <;> omega)) (F25_ok x12.1 x29 hx30 ?_)
      try simp -implicitDefEqProofs (maxSteps := 1000000) (disch := omega) [go_sem]
      refine splitG_f h (by first | with_reducible rfl | (simp -implicitDefEqProofs (maxSteps := 1000000) (disch := omega) [go_sem] <;> omega)) ?_ ?_
      ·intro c69 h
       try simp -implicitDefEqProofs (disch := omega) at c69
       try simp -implicitDefEqProofs (maxSteps := 1000000) (disch := omega) [go_sem]
       subst hc27
       refine IWp_cond_t (by first | with_reducible rfl | (simp -implicitDefEqProofs (maxSteps := 1000000) (disch := omega) [go_sem] <;> omega)) rfl ?_
       refine IWp_seqF fun cb hc31 => ?_
       refine vcK ?_
       try simp -implicitDefEqProofs (maxSteps := 1000000) (disch := omega) [go_sem]
       subst hc31
       refine vcK ?_
       simp -implicitDefEqProofs only [go_sem]
       have er := Option.some.inj h
       subst er
       try simp -implicitDefEqProofs (maxSteps := 1000000) (disch := omega) [go_sem]
       refine retG_pureA (Ext.refl hw) hK (e := by first | with_reducible rfl | (simp -implicitDefEqProofs (maxSteps := 1000000) (disch := omega) [go_sem] <;> omega))
      ·intro c69 h
       try simp -implicitDefEqProofs (disch := omega) at c69
       try simp -implicitDefEqProofs (maxSteps := 1000000) (disch := omega) [go_sem]
       obtain ⟨x32, hx32, h⟩ := bind_some' h
       refine ICalls.eqA (args' := [.sl 2 (a0.map fun x => [.v (str x.fName), .sl 1 (x.fValues.map fun x => [.v (str x)])]), .sl 2 (a1.map fun x => [.v (str x.fName), .sl 1 (x.fValues.map fun x => [.v (str x)])])]) (by first | with_reducible rfl | (simp -implicitDefEqProofs (maxSteps := 1000000) (disch := omega) [go_sem] <;> omega)) (F16_ok a0 a1 hx32 ?_)
       try simp -implicitDefEqProofs (maxSteps := 1000000) (disch := omega) [go_sem]
       subst hc27
       refine IWp_cond_i h (by first | with_reducible rfl | (simp -implicitDefEqProofs (maxSteps := 1000000) (disch := omega) [go_sem] <;> omega)) rfl ?_ ?_
       ·intro c33 h
        try simp -implicitDefEqProofs (disch := omega) at c33
        refine IWp_seqF fun cb hc34 => ?_
        refine vcK ?_
        try simp -implicitDefEqProofs (maxSteps := 1000000) (disch := omega) [go_sem]
        subst hc34
        refine vcK ?_
        simp -implicitDefEqProofs only [go_sem]
        have er := Option.some.inj h
        subst er
        try simp -implicitDefEqProofs (maxSteps := 1000000) (disch := omega) [go_sem]
        refine retG_pureA (Ext.refl hw) hK (e := by first | with_reducible rfl | (simp -implicitDefEqProofs (maxSteps := 1000000) (disch := omega) [go_sem] <;> omega))
       ·intro c33 h
        try simp -implicitDefEqProofs (disch := omega) at c33
        refine vcK ?_
        simp -implicitDefEqProofs only [go_sem]
        subst hc26
        refine IWp_seqF fun cb hc35 => ?_
        refine vcK ?_
        try simp -implicitDefEqProofs (maxSteps := 1000000) (disch := omega) [go_sem]
        subst hc35
        refine IWp_seqF fun cb hc36 => ?_
        refine IWp_seqF fun cb hc37 => ?_
        refine vcK ?_
        try simp -implicitDefEqProofs (maxSteps := 1000000) (disch := omega) [go_sem]
        subst hc37
        obtain ⟨y38, hl38q, hk38⟩ := bind_some' h
        refine IWp_tailC (fun tm' H' => ∃ v42 : List S50, ∃ v43 : Int, (v42, v43) = y38 ∧ H = H' ∧ tm' 1 = .sl 2 (a1.map fun x => [.v (str x.fName), .sl 1 (x.fValues.map fun x => [.v (str x)])]) ∧ tm' 7 = .sl 2 (v42.map fun x => [.v (str x.fName), .sl 1 (x.fValues.map fun x => [.v (str x)])]) ∧ tm' 8 = .v (.int .i64 v43)) ?_ fun cb hc38 => ?_
        ·rintro tm38e H38e ⟨v42, v43, rfl, rfl, t1_38e, t7_38e, t8_38e⟩
         have h : F5_k38 a1 v42 v43 = some r := hk38
         unfold F5_k38 at h
         simp -implicitDefEqProofs only [go_sem]
         subst hc36
         refine IWp_seqF fun cb hc44 => ?_
         refine vcK ?_
         try simp -implicitDefEqProofs (maxSteps := 1000000) (disch := omega) [go_sem, t1_38e, t7_38e, t8_38e]
         refine splitG_f h (by first | with_reducible rfl | (simp -implicitDefEqProofs (maxSteps := 1000000) (disch := omega) [go_sem, t1_38e, t7_38e, t8_38e] <;> omega)) ?_ ?_
         ·intro c48 h
          try simp -implicitDefEqProofs (disch := omega) at c48
          try simp -implicitDefEqProofs (maxSteps := 1000000) (disch := omega) [go_sem, t1_38e, t7_38e, t8_38e]
          obtain ⟨x45, hx45, h⟩ := bind_some' h
          refine ICalls.eqA (args' := [.sl 2 (v42.map fun x => [.v (str x.fName), .sl 1 (x.fValues.map fun x => [.v (str x)])]), .sl 2 (a1.map fun x => [.v (str x.fName), .sl 1 (x.fValues.map fun x => [.v (str x)])])]) (by first | with_reducible rfl | (simp -implicitDefEqProofs (maxSteps := 1000000) (disch := omega) [go_sem, t1_38e, t7_38e, t8_38e] <;> omega)) (F16_ok v42 a1 hx45 ?_)
          try simp -implicitDefEqProofs (maxSteps := 1000000) (disch := omega) [go_sem, t1_38e, t7_38e, t8_38e]
          refine splitG_f h (by first | with_reducible rfl | (simp -implicitDefEqProofs (maxSteps := 1000000) (disch := omega) [go_sem, t1_38e, t7_38e, t8_38e] <;> omega)) ?_ ?_
          ·intro c47 h
           try simp -implicitDefEqProofs (disch := omega) at c47
           try simp -implicitDefEqProofs (maxSteps := 1000000) (disch := omega) [go_sem, t1_38e, t7_38e, t8_38e]
           obtain ⟨x46, hx46, h⟩ := bind_some' h
           refine ICalls.eqA (args' := []) (by first | with_reducible rfl | (simp -implicitDefEqProofs (maxSteps := 1000000) (disch := omega) [go_sem, t1_38e, t7_38e, t8_38e] <;> omega)) (F13_ok  hx46 ?_)
           try simp -implicitDefEqProofs (maxSteps := 1000000) (disch := omega) [go_sem, t1_38e, t7_38e, t8_38e]
           subst hc44
           refine vcK ?_
           simp -implicitDefEqProofs only [go_sem]
           have er := Option.some.inj h
           subst er
           try simp -implicitDefEqProofs (maxSteps := 1000000) (disch := omega) [go_sem, t1_38e, t7_38e, t8_38e]
           refine retG_pureA (Ext.refl hw) hK (e := by first | with_reducible rfl | (simp -implicitDefEqProofs (maxSteps := 1000000) (disch := omega) [go_sem, t1_38e, t7_38e, t8_38e] <;> omega))
          ·intro c47 h
           try simp -implicitDefEqProofs (disch := omega) at c47
           try simp -implicitDefEqProofs (maxSteps := 1000000) (disch := omega) [go_sem, t1_38e, t7_38e, t8_38e]
           subst hc44
           refine vcK ?_
           simp -implicitDefEqProofs only [go_sem]
           have er := Option.some.inj h
           subst er
           try simp -implicitDefEqProofs (maxSteps := 1000000) (disch := omega) [go_sem, t1_38e, t7_38e, t8_38e]
           refine retG_pureA (Ext.refl hw) hK (e := by first | with_reducible rfl | (simp -implicitDefEqProofs (maxSteps := 1000000) (disch := omega) [go_sem, t1_38e, t7_38e, t8_38e] <;> omega))
         ·intro c48 h
          try simp -implicitDefEqProofs (disch := omega) at c48
          try simp -implicitDefEqProofs (maxSteps := 1000000) (disch := omega) [go_sem, t1_38e, t7_38e, t8_38e]
          subst hc44
          refine vcK ?_
          simp -implicitDefEqProofs only [go_sem]
          have er := Option.some.inj h
          subst er
          try simp -implicitDefEqProofs (maxSteps := 1000000) (disch := omega) [go_sem, t1_38e, t7_38e, t8_38e]
          refine retG_pureA (Ext.refl hw) hK (e := by first | with_reducible rfl | (simp -implicitDefEqProofs (maxSteps := 1000000) (disch := omega) [go_sem, t1_38e, t7_38e, t8_38e] <;> omega))
        ·refine IWp_block ?_
         refine IWp_loopF (fun (s : (List S50) × Int × Int) tm' H' => H = H' ∧ tm' 1 = .sl 2 (a1.map fun x => [.v (str x.fName), .sl 1 (x.fValues.map fun x => [.v (str x)])]) ∧ tm' 5 = .sl 3 (x12.1.map fun x => [.v (.int .i64 x.fKind), .v (str x.fName), .sl 1 (x.fValues.map fun x => [.v (str x)])]) ∧ tm' 7 = .sl 2 (s.1.map fun x => [.v (str x.fName), .sl 1 (x.fValues.map fun x => [.v (str x)])]) ∧ tm' 8 = .v (.int .i64 s.2.1) ∧ tm' 9 = .v (.int .i64 s.2.2)) hl38q ?_ ?_
         ·refine .same ⟨rfl, ?_, ?_, ?_, ?_, ?_⟩ <;> first | with_reducible rfl | with_reducible assumption | (simp -implicitDefEqProofs (maxSteps := 1000000) (disch := omega) [go_sem] <;> omega)
         ·rintro I38 hI38 ⟨v39, v40, v41⟩ x38 tm38 H38 ⟨rfl, t1_38, t5_38, t7_38, t8_38, t9_38⟩ h hret38
          replace h : F5_b38 x12 v39 v40 v41 = some x38 := h
          unfold F5_b38 at h
          refine IWp_seqF fun cb hc49 => ?_
          refine IWp_seqF fun cb hc50 => ?_
          refine vcK ?_
          try simp -implicitDefEqProofs (maxSteps := 1000000) (disch := omega) [go_sem, t1_38, t5_38, t7_38, t8_38, t9_38]
          subst hc50
          refine IWp_cond_i h (by first | with_reducible rfl | (simp -implicitDefEqProofs (maxSteps := 1000000) (disch := omega) [go_sem, t1_38, t5_38, t7_38, t8_38, t9_38] <;> omega)) rfl ?_ ?_
          ·intro c51 h
           try simp -implicitDefEqProofs (disch := omega) at c51
           refine vcK ?_
           simp -implicitDefEqProofs only [go_sem]
           subst hc49
           refine IWp_seqF fun cb hc52 => ?_
           refine IWp_block ?_
           refine IWp_seqF fun cb hc53 => ?_
           refine vcK ?_
           try simp -implicitDefEqProofs (maxSteps := 1000000) (disch := omega) [go_sem, t1_38, t5_38, t7_38, t8_38, t9_38]
           subst hc53
           obtain ⟨y54, hl54q, hk54⟩ := bind_some' h
           refine IWp_tailC (fun tm' H' => ∃ v58 : List S50, ∃ v59 : Int, (v58, v59) = y54 ∧ H = H' ∧ tm' 1 = .sl 2 (a1.map fun x => [.v (str x.fName), .sl 1 (x.fValues.map fun x => [.v (str x)])]) ∧ tm' 5 = .sl 3 (x12.1.map fun x => [.v (.int .i64 x.fKind), .v (str x.fName), .sl 1 (x.fValues.map fun x => [.v (str x)])]) ∧ tm' 7 = .sl 2 (v58.map fun x => [.v (str x.fName), .sl 1 (x.fValues.map fun x => [.v (str x)])]) ∧ tm' 8 = .v (.int .i64 v59) ∧ tm' 9 = .v (.int .i64 v41)) ?_ fun cb hc54 => ?_
           ·rintro tm54e H54e ⟨v58, v59, rfl, rfl, t1_54e, t5_54e, t7_54e, t8_54e, t9_54e⟩
            have h : F5_k54 v41 v58 v59 = some x38 := hk54
            unfold F5_k54 at h
            simp -implicitDefEqProofs only [go_sem]
            subst hc52
            refine vcK ?_
            try simp -implicitDefEqProofs (maxSteps := 1000000) (disch := omega) [go_sem, t1_54e, t5_54e, t7_54e, t8_54e, t9_54e]
            have e38 := Option.some.inj h
            subst e38
            refine loopN_mk hI38 ((v58, v59, IntKind.i64.wrap (v41 + 1))) ?_
            refine .same ⟨rfl, ?_, ?_, ?_, ?_, ?_⟩ <;> first | with_reducible rfl | with_reducible assumption | (simp -implicitDefEqProofs (maxSteps := 1000000) (disch := omega) [go_sem, t1_54e, t5_54e, t7_54e, t8_54e, t9_54e] <;> omega)
           ·refine IWp_block ?_
            refine IWp_loopF (fun (s : (List S50) × Int × Int) tm' H' => H = H' ∧ tm' 1 = .sl 2 (a1.map fun x => [.v (str x.fName), .sl 1 (x.fValues.map fun x => [.v (str x)])]) ∧ tm' 5 = .sl 3 (x12.1.map fun x => [.v (.int .i64 x.fKind), .v (str x.fName), .sl 1 (x.fValues.map fun x => [.v (str x)])]) ∧ tm' 7 = .sl 2 (s.1.map fun x => [.v (str x.fName), .sl 1 (x.fValues.map fun x => [.v (str x)])]) ∧ tm' 8 = .v (.int .i64 s.2.1) ∧ tm' 9 = .v (.int .i64 v41) ∧ tm' 10 = .v (.int .i64 s.2.2)) hl54q ?_ ?_
            ·refine .same ⟨rfl, ?_, ?_, ?_, ?_, ?_, ?_⟩ <;> first | with_reducible rfl | with_reducible assumption | (simp -implicitDefEqProofs (maxSteps := 1000000) (disch := omega) [go_sem, t1_38, t5_38, t7_38, t8_38, t9_38] <;> omega)
            ·rintro I54 hI54 ⟨v55, v56, v57⟩ x54 tm54 H54 ⟨rfl, t1_54, t5_54, t7_54, t8_54, t9_54, t10_54⟩ h hret54
             replace h : F5_b54 x12 v41 v55 v56 v57 = some x54 := h
             unfold F5_b54 at h
             refine IWp_seqF fun cb hc60 => ?_
             refine IWp_seqF fun cb hc61 => ?_
             refine vcK ?_
             try simp -implicitDefEqProofs (maxSteps := 1000000) (disch := omega) [go_sem, t1_54, t5_54, t7_54, t8_54, t9_54, t10_54]
             refine splitG_f h (by first | with_reducible rfl | (simp -implicitDefEqProofs (maxSteps := 1000000) (disch := omega) [go_sem, t1_54, t5_54, t7_54, t8_54, t9_54, t10_54] <;> omega)) ?_ ?_
             ·intro c68 h
              try simp -implicitDefEqProofs (disch := omega) at c68
              try simp -implicitDefEqProofs (maxSteps := 1000000) (disch := omega) [go_sem, t1_54, t5_54, t7_54, t8_54, t9_54, t10_54]
              subst hc61
              refine IWp_cond_i h (by first | with_reducible rfl | (simp -implicitDefEqProofs (maxSteps := 1000000) (disch := omega) [go_sem, t1_54, t5_54, t7_54, t8_54, t9_54, t10_54] <;> omega)) rfl ?_ ?_
              ·intro c62 h
               try simp -implicitDefEqProofs (disch := omega) at c62
               refine vcK ?_
               simp -implicitDefEqProofs only [go_sem]
               subst hc60
               refine IWp_seqF fun cb hc63 => ?_
               refine IWp_block ?_
               refine IWp_seqF fun cb hc64 => ?_
               refine vcK ?_
               obtain ⟨g65, h⟩ := gd_some.1 h
               try simp -implicitDefEqProofs (disch := omega) at g65
               try simp -implicitDefEqProofs (maxSteps := 1000000) (disch := omega) [go_sem, t1_54, t5_54, t7_54, t8_54, t9_54, t10_54]
               subst hc64
               refine IWp_cond_i h (by first | with_reducible rfl | (simp -implicitDefEqProofs (maxSteps := 1000000) (disch := omega) [go_sem, t1_54, t5_54, t7_54, t8_54, t9_54, t10_54] <;> omega)) rfl ?_ ?_
               ·intro c66 h
                try simp -implicitDefEqProofs (disch := omega) at c66
                refine vcK ?_
                try simp -implicitDefEqProofs (maxSteps := 1000000) (disch := omega) [go_sem, t1_54, t5_54, t7_54, t8_54, t9_54, t10_54]
                obtain ⟨x67, hx67, h⟩ := bind_some' h
                refine ICalls.eqA (args' := [.sl 2 (v55.map fun x => [.v (str x.fName), .sl 1 (x.fValues.map fun x => [.v (str x)])]), .sl 3 (([x12.1.getD v57.toNat S48.zero]).map fun x => [.v (.int .i64 x.fKind), .v (str x.fName), .sl 1 (x.fValues.map fun x => [.v (str x)])])]) (by first | with_reducible rfl | (simp -implicitDefEqProofs (maxSteps := 1000000) (disch := omega) [go_sem, t1_54, t5_54, t7_54, t8_54, t9_54, t10_54] <;> omega)) (F14_ok v55 ([x12.1.getD v57.toNat S48.zero]) hx67 ?_)
                try simp -implicitDefEqProofs (maxSteps := 1000000) (disch := omega) [go_sem, t1_54, t5_54, t7_54, t8_54, t9_54, t10_54]
                subst hc63
                refine vcK ?_
                try simp -implicitDefEqProofs (maxSteps := 1000000) (disch := omega) [go_sem, t1_54, t5_54, t7_54, t8_54, t9_54, t10_54]
                have e54 := Option.some.inj h
                subst e54
                refine loopN_mk hI54 ((x67.1, x67.2, IntKind.i64.wrap (v57 + 1))) ?_
                refine .same ⟨rfl, ?_, ?_, ?_, ?_, ?_, ?_⟩ <;> first | with_reducible rfl | with_reducible assumption | (simp -implicitDefEqProofs (maxSteps := 1000000) (disch := omega) [go_sem, t1_54, t5_54, t7_54, t8_54, t9_54, t10_54] <;> omega)
               ·intro c66 h
                try simp -implicitDefEqProofs (disch := omega) at c66
                refine vcK ?_
                simp -implicitDefEqProofs only [go_sem]
                subst hc63
                refine vcK ?_
                try simp -implicitDefEqProofs (maxSteps := 1000000) (disch := omega) [go_sem, t1_54, t5_54, t7_54, t8_54, t9_54, t10_54]
                have e54 := Option.some.inj h
                subst e54
                refine loopN_mk hI54 ((v55, v56, IntKind.i64.wrap (v57 + 1))) ?_
                refine .same ⟨rfl, ?_, ?_, ?_, ?_, ?_, ?_⟩ <;> first | with_reducible rfl | with_reducible assumption | (simp -implicitDefEqProofs (maxSteps := 1000000) (disch := omega) [go_sem, t1_54, t5_54, t7_54, t8_54, t9_54, t10_54] <;> omega)
              ·intro c62 h
               try simp -implicitDefEqProofs (disch := omega) at c62
               refine vcK ?_
               simp -implicitDefEqProofs only [go_sem]
               have e54 := Option.some.inj h
               subst e54
               have hy54 := hret54 _ rfl
               refine hc54 _ _ ?_
               refine .same ⟨v55, v56, hy54, rfl, ?_, ?_, ?_, ?_, ?_⟩ <;> first | with_reducible rfl | with_reducible assumption | (simp -implicitDefEqProofs (maxSteps := 1000000) (disch := omega) [go_sem, t1_54, t5_54, t7_54, t8_54, t9_54, t10_54] <;> omega)
             ·intro c68 h
              try simp -implicitDefEqProofs (disch := omega) at c68
              try simp -implicitDefEqProofs (maxSteps := 1000000) (disch := omega) [go_sem, t1_54, t5_54, t7_54, t8_54, t9_54, t10_54]
              subst hc61
              refine IWp_cond_f (by first | with_reducible rfl | (simp -implicitDefEqProofs (maxSteps := 1000000) (disch := omega) [go_sem, t1_54, t5_54, t7_54, t8_54, t9_54, t10_54] <;> omega)) rfl ?_
              refine vcK ?_
              simp -implicitDefEqProofs only [go_sem]
              have e54 := Option.some.inj h
              subst e54
              have hy54 := hret54 _ rfl
              refine hc54 _ _ ?_
              refine .same ⟨v55, v56, hy54, rfl, ?_, ?_, ?_, ?_, ?_⟩ <;> first | with_reducible rfl | with_reducible assumption | (simp -implicitDefEqProofs (maxSteps := 1000000) (disch := omega) [go_sem, t1_54, t5_54, t7_54, t8_54, t9_54, t10_54] <;> omega)
          ·intro c51 h
           try simp -implicitDefEqProofs (disch := omega) at c51
           refine vcK ?_
           simp -implicitDefEqProofs only [go_sem]
           have e38 := Option.some.inj h
           subst e38
           have hy38 := hret38 _ rfl
           refine hc38 _ _ ?_
           refine .same ⟨v39, v40, hy38, rfl, ?_, ?_, ?_⟩ <;> first | with_reducible rfl | with_reducible assumption | (simp -implicitDefEqProofs (maxSteps := 1000000) (disch := omega) [go_sem, t1_38, t5_38, t7_38, t8_38, t9_38] <;> omega)

end Go.Idl

namespace Go.Idl

open Go Go.Proofs.Tryz

/-! cardcase/cardcaselaw07.EntryBackAgain -/

/-! cardcase/cardcaselaw07.ordered -/

/-! cardcase/cardcaselaw07.EntryOne -/

end Go.Idl

namespace Go.Idl

open Go

def findI {α ρ : Type} (f : Nat → α → Option ρ) (d : ρ) : Nat → List α → ρ
  | _, [] => d
  | i, x :: l => match f i x with
    | none => findI f d (i + 1) l
    | some r => r

def runI {α σ ρ : Type} (f : Nat → σ → α → σ ⊕ ρ) (fin : σ → ρ) : Nat → σ → List α → ρ
  | _, a, [] => fin a
  | i, a, x :: l => match f i a x with
    | .inl a' => runI f fin (i + 1) a' l
    | .inr r => r

theorem findI_cons {α ρ : Type} {f : Nat → α → Option ρ} {d : ρ} {i : Nat} {x : α} {l : List α} : findI f d i (x :: l) = match f i x with
    | none => findI f d (i + 1) l
    | some r => r := rfl

theorem runI_cons {α σ ρ : Type} {f : Nat → σ → α → σ ⊕ ρ} {fin : σ → ρ} {i : Nat} {a : σ} {x : α} {l : List α} : runI f fin i a (x :: l) = match f i a x with
    | .inl a' => runI f fin (i + 1) a' l
    | .inr r => r := rfl

theorem loopO_find {α ρ : Type} (l : List α) {step : Int → Option (Int ⊕ ρ)} (f : Nat → α → Option ρ) (d : ρ) (hl : l.length ≤ 1000000000)
    (hs : ∀ (i : Nat) (h : i < l.length), step (i : Int) = some (match f i l[i] with | none => .inl (IntKind.i64.wrap ((i : Int) + 1)) | some r => .inr r))
    (hf : step (l.length : Int) = some (.inr d)) : loopO step 0 = some (findI f d 0 l) := by
  obtain ⟨r, h1, h2⟩ := loopO_for (step := step) (Post := fun r => r = findI f d 0 l) l.length (fun i => findI f d i (l.drop i) = findI f d 0 l) (by simp)
    (fun i hi hI => by
      rw [hs i hi]
      rw [List.drop_eq_getElem_cons hi] at hI
      rw [findI_cons] at hI
      cases hfi : f i l[i] with
      | none =>
        rw [hfi] at hI
        rw [wrap_nat (by omega)]
        exact .inl ⟨rfl, hI⟩
      | some r =>
        rw [hfi] at hI
        exact .inr ⟨r, rfl, hI⟩)
    (fun hI => ⟨d, hf, by rw [List.drop_length] at hI; exact hI⟩)
  rw [h1, h2]

theorem loopO_run {α σ ρ : Type} (l : List α) {step : σ × Int → Option ((σ × Int) ⊕ ρ)} (f : Nat → σ → α → σ ⊕ ρ) (fin : σ → ρ) (Inv : Nat → σ → Prop) {a : σ} (hl : l.length ≤ 1000000000) (h0 : Inv 0 a)
    (hs : ∀ (i : Nat) (h : i < l.length) (a : σ), Inv i a → step (a, (i : Int)) = some (match f i a l[i] with | .inl a' => .inl (a', IntKind.i64.wrap ((i : Int) + 1)) | .inr r => .inr r))
    (hn : ∀ (i : Nat) (h : i < l.length) (a a' : σ), Inv i a → f i a l[i] = .inl a' → Inv (i + 1) a')
    (hf : ∀ a, Inv l.length a → step (a, (l.length : Int)) = some (.inr (fin a))) : loopO step (a, 0) = some (runI f fin 0 a l) := by
  obtain ⟨r, h1, h2⟩ := loopO_for2 (step := step) (Post := fun r => r = runI f fin 0 a l) l.length (fun i a' => Inv i a' ∧ runI f fin i a' (l.drop i) = runI f fin 0 a l) (a := a) ⟨h0, by simp⟩
    (fun i a' hi hI => by
      obtain ⟨hI, hR⟩ := hI
      rw [hs i hi a' hI]
      rw [List.drop_eq_getElem_cons hi] at hR
      rw [runI_cons] at hR
      cases hfi : f i a' l[i] with
      | inl a2 =>
        rw [hfi] at hR
        rw [wrap_nat (by omega)]
        exact .inl ⟨a2, rfl, hn i hi a' a2 hI hfi, hR⟩
      | inr r =>
        rw [hfi] at hR
        exact .inr ⟨r, rfl, hR⟩)
    (fun a' hI => ⟨_, hf a' hI.1, by have := hI.2; rw [List.drop_length] at this; exact this⟩)
  rw [h1, h2]

theorem loopO_run2 {α σ τ ρ : Type} (l : List α) {step : σ × τ × Int → Option ((σ × τ × Int) ⊕ ρ)} (f : Nat → σ × τ → α → (σ × τ) ⊕ ρ) (fin : σ × τ → ρ) (Inv : Nat → σ × τ → Prop) {a : σ} {b : τ} (hl : l.length ≤ 1000000000) (h0 : Inv 0 (a, b))
    (hs : ∀ (i : Nat) (h : i < l.length) (a : σ) (b : τ), Inv i (a, b) → step (a, b, (i : Int)) = some (match f i (a, b) l[i] with | .inl a' => .inl (a'.1, a'.2, IntKind.i64.wrap ((i : Int) + 1)) | .inr r => .inr r))
    (hn : ∀ (i : Nat) (h : i < l.length) (a a' : σ × τ), Inv i a → f i a l[i] = .inl a' → Inv (i + 1) a')
    (hf : ∀ a b, Inv l.length (a, b) → step (a, b, (l.length : Int)) = some (.inr (fin (a, b)))) : loopO step (a, b, 0) = some (runI f fin 0 (a, b) l) := by
  have key : ∃ r, loopO step (a, b, 0) = some r ∧ r = runI f fin 0 (a, b) l := by
    refine loopO_inv (fun s : σ × τ × Int => ∃ i : Nat, i ≤ l.length ∧ s.2.2 = (i : Int) ∧ Inv i (s.1, s.2.1) ∧ runI f fin i (s.1, s.2.1) (l.drop i) = runI f fin 0 (a, b) l) (fun s : σ × τ × Int => l.length - s.2.2.toNat) ?_ ⟨0, Nat.zero_le _, rfl, h0, by simp⟩
    rintro ⟨a', b', s⟩ ⟨i, hi, hs2, hI, hR⟩
    simp only at hs2 hI hR
    subst hs2
    rcases Nat.lt_or_ge i l.length with h | h
    · rw [hs i h a' b' hI]
      rw [List.drop_eq_getElem_cons h] at hR
      rw [runI_cons] at hR
      cases hfi : f i (a', b') l[i] with
      | inl a2 =>
        rw [hfi] at hR
        rw [wrap_nat (by omega)]
        exact .inl ⟨_, rfl, ⟨i + 1, h, rfl, hn i h _ a2 hI hfi, hR⟩, by simp; omega⟩
      | inr r =>
        rw [hfi] at hR
        exact .inr ⟨r, rfl, hR⟩
    · have e : i = l.length := by omega
      subst e
      rw [List.drop_length] at hR
      exact .inr ⟨_, hf a' b' hI, hR⟩
  obtain ⟨r, h1, h2⟩ := key
  rw [h1, h2]

theorem findI_all {α ρ : Type} (p : α → Bool) (bad good : ρ) : ∀ (l : List α) (i : Nat), findI (fun _ x => if p x = true then none else some bad) good i l = if l.all p = true then good else bad
  | [], _ => by simp [findI]
  | x :: l, i => by
    unfold findI
    by_cases h : p x = true
    · rw [if_pos h]
      simp only [findI_all p bad good l (i + 1), List.all_cons, h, Bool.true_and]
    · rw [if_neg h]
      have : (List.all (x :: l) p) = false := by simp [List.all_cons, Bool.eq_false_iff.2 h]
      simp [this]

end Go.Idl

namespace Go.Idl

open Go

def letterB (b : UInt8) : Bool := decide (65 ≤ b.toNat ∧ b.toNat ≤ 90 ∨ 97 ≤ b.toNat ∧ b.toNat ≤ 122)

def restB (b : UInt8) : Bool := letterB b || decide (48 ≤ b.toNat ∧ b.toNat ≤ 57) || decide (b.toNat = 45)

def nameB (s : Str) : Bool := decide (1 ≤ s.length ∧ s.length ≤ 64) && letterB (s.getD 0 0) && s.all restB

abbrev smallS (s : Str) : Str := s.map lowB

theorem lowB_nat (b : UInt8) : (lowB b).toNat = if 65 ≤ b.toNat ∧ b.toNat ≤ 90 then b.toNat + 32 else b.toNat := by
  have h := lowB_int b
  split
  · rename_i c; have := h.1 (by omega); omega
  · rename_i c; rw [h.2 (by omega)]

theorem letter_low (b : UInt8) : letterB (lowB b) = letterB b := by
  have h := lowB_nat b
  simp only [letterB, decide_eq_decide]
  split at h <;> omega

theorem rest_low (b : UInt8) : restB (lowB b) = restB b := by
  have h := lowB_nat b
  simp only [restB, letter_low]
  congr 1
  · congr 1
    simp only [decide_eq_decide]
    split at h <;> omega
  · simp only [decide_eq_decide]
    split at h <;> omega

theorem low_low (b : UInt8) : lowB (lowB b) = lowB b := by
  refine UInt8.toNat_inj.1 ?_
  have h := lowB_nat b
  have h2 := lowB_nat (lowB b)
  split at h <;> split at h2 <;> omega

theorem small_small (s : Str) : smallS (smallS s) = smallS s := by
  simp [smallS, low_low]

theorem name_small (s : Str) : nameB (smallS s) = nameB s := by
  unfold nameB
  congr 1
  · congr 1
    · simp [smallS]
    · cases s with
      | nil => rfl
      | cons b s => simp [smallS, letter_low]
  · simp only [smallS, List.all_map]
    congr 1
    funext b
    exact rest_low b

theorem F41_eq (s : Str) (h : s.length ≤ 1000000) : F41 s = some (smallS s) := gd_pos (by omega)

theorem F113_eq (a b c : Int) : F113 a b c = some (decide (b ≤ a ∧ a ≤ c)) := by
  unfold F113
  by_cases h : b ≤ a
  · rw [if_pos h]; simp [h]
  · rw [if_neg h]; simp [h]

theorem F87_eq (b : UInt8) : F87 (b.toNat : Int) = some (letterB b) := by
  unfold F87 letterB
  by_cases h1 : 65 ≤ (b.toNat : Int) <;> by_cases h2 : (b.toNat : Int) ≤ 90 <;> by_cases h3 : 97 ≤ (b.toNat : Int) <;> simp only [h1, h2, h3, if_true, if_false, Option.some.injEq] <;> first | (symm; simp only [decide_eq_true_eq]; omega) | (symm; simp only [decide_eq_false_iff_not]; omega) | (simp only [decide_eq_decide]; omega)

theorem F50_eq (s : Str) (hl : s.length ≤ 1000000) : F50 s = some (smallS s) := by
  unfold F50
  rw [loopO_run s (fun _ a b => .inl (a ++ [lowB b])) id (fun i a => a.length = i) (by omega) rfl
    (fun i hi a hI => by
      simp only [F50_b5]
      rw [if_pos (by omega), gd_pos (by omega), Int.toNat_natCast, getD_some hi]
      have hb := UInt8.toNat_lt s[i]
      have hlb := lowB_nat s[i]
      by_cases h1 : 65 ≤ (s[i].toNat : Int)
      · rw [if_pos h1]
        by_cases h2 : (s[i].toNat : Int) ≤ 90
        · have hw : IntKind.u8.wrap ((s[i].toNat : Int) + 32) = ((lowB s[i]).toNat : Int) := by
            rw [if_pos (by omega)] at hlb
            rw [hlb]
            simp only [IntKind.wrap, IntKind.signed, IntKind.bits, Bool.false_and, Bool.false_eq_true, if_false]
            omega
          have hb2 := UInt8.toNat_lt (lowB s[i])
          rw [if_pos h2, hw, gd_pos (by omega), gd_pos (by simp only [List.length_cons, List.length_nil]; omega)]
          simp
        · rw [if_neg (by omega)] at hlb
          rw [if_neg h2, gd_pos (by omega), gd_pos (by simp only [List.length_cons, List.length_nil]; omega)]
          have : lowB s[i] = s[i] := UInt8.toNat_inj.1 hlb
          simp [this]
      · rw [if_neg (by omega)] at hlb
        rw [if_neg h1, gd_pos (by omega), gd_pos (by simp only [List.length_cons, List.length_nil]; omega)]
        have : lowB s[i] = s[i] := UInt8.toNat_inj.1 hlb
        simp [this])
    (fun i hi a a' hI h => by simp only [Sum.inl.injEq] at h; subst h; simp [hI])
    (fun a hI => by simp only [F50_b5]; rw [if_neg (by omega)]; rfl)]
  have : ∀ (l : Str) (i : Nat) (a : Str), runI (fun _ a b => (.inl (a ++ [lowB b]) : Str ⊕ Str)) id i a l = a ++ smallS l := by
    intro l
    induction l with
    | nil => intro i a; simp [runI]
    | cons x l ih => intro i a; rw [runI_cons]; simp only [ih]; simp
  rw [this]
  simp [F50_k5]

theorem F49_eq (s : Str) : F49 s = some (nameB s) := by
  unfold F49
  by_cases h1 : (s.length : Int) < 1
  · rw [if_pos h1]
    have : s = [] := List.eq_nil_of_length_eq_zero (by omega)
    subst this
    rfl
  · rw [if_neg h1]
    by_cases h2 : 64 < (s.length : Int)
    · rw [if_pos h2]
      have : nameB s = false := by simp [nameB]; omega
      rw [this]
    · rw [if_neg h2, gd_pos (by omega), F87_eq]
      have h3 : decide (1 ≤ s.length ∧ s.length ≤ 64) = true := by simp; omega
      simp only [Option.bind_some, nameB, h3, Bool.true_and]
      by_cases h4 : letterB (s.getD 0 0) = true
      · rw [if_neg (by simp only [h4, not_true, not_false_eq_true]), h4, Bool.true_and]
        rw [loopO_find s (fun _ b => if restB b = true then none else some (.inr false)) (.inl ()) (by omega)
          (fun i hi => by
            simp only [F49_b12]
            rw [if_pos (by omega), gd_pos (by omega), Int.toNat_natCast, getD_some hi, F87_eq]
            simp only [Option.bind_some]
            by_cases h5 : letterB s[i] = true
            · rw [if_neg (by simp [h5])]
              simp [restB, h5]
            · rw [if_pos h5]
              by_cases h6 : (s[i].toNat : Int) < 48
              · rw [if_pos h6]
                by_cases h7 : (s[i].toNat : Int) = 45
                · have : restB s[i] = true := by simp [restB]; omega
                  simp [h7, this]
                · have : restB s[i] = false := by simp [restB, h5]; omega
                  simp [h7, this]
              · rw [if_neg h6]
                by_cases h8 : 57 < (s[i].toNat : Int)
                · rw [if_pos h8]
                  have h7 : ¬ (s[i].toNat : Int) = 45 := by omega
                  have : restB s[i] = false := by simp [restB, h5]; omega
                  simp [h7, this]
                · rw [if_neg h8]
                  have : restB s[i] = true := by simp [restB]; omega
                  simp [this])
          (by simp only [F49_b12]; rw [if_neg (by omega)])]
        rw [findI_all]
        cases h : s.all restB <;> simp [F49_k12]
      · rw [if_pos h4]
        rw [Bool.eq_false_iff.2 h4]
        rfl

end Go.Idl

namespace Go.Idl

open Go

theorem F103_eq (s : Str) (hl : s.length ≤ 1000000) : F103 s = some (nameB s) := by
  unfold F103
  rw [gd_pos (by omega)]
  rw [loopO_find s (fun i b => if letterB b = true then none else if i = 0 then some (.inr false) else if restB b = true then none else some (.inr false)) (.inl ()) (by omega)
    (fun i hi => by
      simp only [F103_b5]
      rw [if_pos (by omega), gd_pos (by omega), Int.toNat_natCast, getD_some hi, F113_eq, F113_eq, F113_eq]
      simp only [Option.bind_some]
      by_cases h1 : letterB s[i] = true
      · rw [if_pos h1]
        have h1' := h1
        simp only [letterB, decide_eq_true_eq] at h1'
        by_cases h2 : 97 ≤ (s[i].toNat : Int) ∧ (s[i].toNat : Int) ≤ 122
        · rw [if_neg (by simp [h2])]
        · rw [if_pos (by simpa using h2), if_neg (by simp; omega)]
      · rw [if_neg h1]
        have h1' := h1
        simp only [letterB, decide_eq_true_eq] at h1'
        rw [if_pos (by simp; omega), if_pos (by simp; omega)]
        by_cases h3 : i = 0
        · rw [if_pos (by omega), if_pos h3]
        · rw [if_neg (by omega), if_neg h3]
          by_cases h4 : 48 ≤ (s[i].toNat : Int) ∧ (s[i].toNat : Int) ≤ 57
          · rw [if_neg (by simp [h4])]
            have : restB s[i] = true := by simp [restB]; omega
            rw [if_pos this]
          · rw [if_pos (by simpa using h4)]
            by_cases h5 : (s[i].toNat : Int) = 45
            · have : restB s[i] = true := by simp [restB]; omega
              rw [if_neg (by simpa using h5), if_pos this]
            · have : ¬ restB s[i] = true := by simp [restB, h1]; omega
              rw [if_pos h5, if_neg this])
    (by simp only [F103_b5]; rw [if_neg (by omega)])]
  have htl : ∀ (l : Str) (i : Nat), findI (fun i b => if letterB b = true then none else if i = 0 then some (.inr false) else if restB b = true then none else some (.inr false)) (.inl ()) (i + 1) l = if l.all restB = true then (.inl () : Unit ⊕ Bool) else .inr false := by
    intro l
    induction l with
    | nil => intro i; simp [findI]
    | cons x l ih =>
      intro i
      rw [findI_cons]
      by_cases h1 : letterB x = true
      · have h2 : restB x = true := by simp [restB, h1]
        simp only [h1, if_true, ih, List.all_cons, h2, Bool.true_and]
      · rw [if_neg h1, if_neg (by omega)]
        by_cases h2 : restB x = true
        · simp only [h2, if_true, ih, List.all_cons, Bool.true_and]
        · rw [if_neg h2]
          simp [List.all_cons, Bool.eq_false_iff.2 h2]
  cases s with
  | nil => simp [findI, F103_k5, nameB]
  | cons x l =>
    rw [findI_cons]
    by_cases h1 : letterB x = true
    · have h2 : restB x = true := by simp [restB, h1]
      rw [if_pos h1]
      simp only [htl l 0]
      by_cases h3 : l.all restB = true
      · simp only [h3, if_true, Option.bind_some, Sum.elim_inl, F103_k5, nameB, List.getD_cons_zero, h1, List.all_cons, h2, Bool.and_true]
        by_cases h4 : 1 ≤ ((x :: l).length : Int)
        · rw [if_pos h4]
          simp only [Option.some.injEq, decide_eq_decide]
          omega
        · simp at h4; omega
      · simp [h3, nameB, h1, h2]
    · rw [if_neg h1, if_pos rfl]
      simp only [Option.bind_some, Sum.elim_inr, nameB, List.getD_cons_zero]
      rw [Bool.eq_false_iff.2 h1]
      simp

theorem F45_eq (s : Str) (hl : s.length ≤ 1000000) : F45 s = some (nameB s) := by
  unfold F45
  rw [F41_eq s hl]
  simp only [Option.bind_some]
  have hl2 : (smallS s).length ≤ 1000000 := by simpa using hl
  have h102 : F102 ⟨smallS s, [120]⟩ = some (nameB s) := by
    simp only [F102, F103_eq _ hl2, Option.bind_some, name_small]
    cases h : nameB s with
    | false => rfl
    | true =>
      rw [if_pos rfl, F41_eq _ hl2]
      simp only [Option.bind_some, small_small, if_true, List.length_cons, List.length_nil]
      rfl
  have h129 : F129 [⟨smallS s, [120]⟩] = some (if nameB s = true then -1 else 0) := by
    unfold F129
    rw [loopO_find [(⟨smallS s, [120]⟩ : S112)] (fun i _ => if nameB s = true then none else some (.inr (i : Int))) (.inl ()) (by simp)
      (fun i hi => by
        simp only [F129_b4]
        have h0 : i = 0 := by simpa using hi
        subst h0
        rw [if_pos (by simp), gd_pos (by simp)]
        simp only [F115, Int.toNat_natCast, getD_some hi, List.getElem_cons_zero, h102, Option.bind_some]
        cases nameB s <;> simp)
      (by simp only [F129_b4]; rw [if_neg (by simp)])]
    cases nameB s <;> simp [findI, F129_k4]
  simp only [F84, F104, F114, h129, Option.bind_some, List.length_cons, List.length_nil]
  cases nameB s <;> simp

def valB (s : Str) : Bool := decide (1 ≤ s.length ∧ s.length ≤ 2048)

theorem F47_eq (s : Str) : F47 s = some (valB s) := by
  unfold F47 valB
  by_cases h : 1 ≤ (s.length : Int)
  · rw [if_pos h]
    simp only [Option.some.injEq, decide_eq_decide]
    omega
  · rw [if_neg h]
    symm
    simp; omega

theorem findI_place {α : Type} (p : α → Bool) : ∀ (l : List α) (i : Nat), (l.all p = true ∧ findI (fun i x => if p x = true then none else some (.inr (i : Int))) (.inl ()) i l = (.inl () : Unit ⊕ Int)) ∨ (l.all p = false ∧ ∃ j : Nat, findI (fun i x => if p x = true then none else some (.inr (i : Int))) (.inl ()) i l = (.inr (j : Int) : Unit ⊕ Int))
  | [], _ => .inl ⟨rfl, rfl⟩
  | x :: l, i => by
    rw [findI_cons]
    by_cases h : p x = true
    · rw [if_pos h]
      rcases findI_place p l (i + 1) with ⟨h1, h2⟩ | ⟨h1, j, h2⟩
      · exact .inl ⟨by simp only [List.all_cons, h, h1, Bool.true_and], h2⟩
      · exact .inr ⟨by simp only [List.all_cons, h, h1, Bool.true_and], j, h2⟩
    · rw [if_neg h]
      exact .inr ⟨by simp only [List.all_cons, Bool.eq_false_iff.2 h, Bool.false_and], i, rfl⟩

theorem F46_eq (l : List Str) (hl : l.length ≤ 1000000) : F46 l = some (l.all valB) := by
  have h100 : ∃ j : Int, F100 l = some j ∧ decide (0 ≤ j) = !l.all valB := by
    unfold F100
    rw [loopO_find l (fun i x => if valB x = true then none else some (.inr (i : Int))) (.inl ()) (by omega)
      (fun i hi => by
        simp only [F100_b4]
        rw [if_pos (by omega), gd_pos (by omega), Int.toNat_natCast, getD_some hi]
        simp only [F86, F47_eq, Option.bind_some]
        cases valB l[i] <;> simp)
      (by simp only [F100_b4]; rw [if_neg (by omega)])]
    rcases findI_place valB l 0 with ⟨h1, h2⟩ | ⟨h1, j, h2⟩
    · rw [h2, h1]; exact ⟨-1, rfl, rfl⟩
    · rw [h2, h1]; exact ⟨j, rfl, by simp⟩
  obtain ⟨j, h1, h2⟩ := h100
  simp only [F46, F85, h1, Option.bind_some, h2, Bool.not_not]

theorem F51_eq (l : List Str) (hl : l.length ≤ 1000000) : F51 l = some (l.all valB) := by
  unfold F51
  rw [loopO_find l (fun _ x => if valB x = true then none else some (.inr false)) (.inl ()) (by omega)
    (fun i hi => by
      simp only [F51_b4]
      rw [if_pos (by omega), gd_pos (by omega), Int.toNat_natCast, getD_some hi]
      by_cases h1 : (l[i].length : Int) < 1
      · have : ¬ valB l[i] = true := by simp [valB]; omega
        rw [if_pos h1, if_neg this]
      · rw [if_neg h1]
        by_cases h2 : 2048 < (l[i].length : Int)
        · have : ¬ valB l[i] = true := by simp [valB]; omega
          rw [if_pos h2, if_neg this]
        · have : valB l[i] = true := by simp [valB]; omega
          rw [if_neg h2, if_pos this])
    (by simp only [F51_b4]; rw [if_neg (by omega)])]
  rw [findI_all]
  cases l.all valB <;> simp [F51_k4]

end Go.Idl

namespace Go.Idl

open Go

def lt8 (a b : Str) : Prop := Op.bytesLess a b = true

instance (a b : Str) : Decidable (lt8 a b) := inferInstanceAs (Decidable (Op.bytesLess a b = true))

theorem lt8_iff (a b : Str) : lt8 a b ↔ a < b := by rw [lt8, Go.Proofs.bytesLess_eq, decide_eq_true_eq]

theorem lt8_irrefl (a : Str) : ¬ lt8 a a := by rw [lt8_iff]; exact List.lt_irrefl a

theorem lt8_trans {a b c : Str} (h : lt8 a b) (k : lt8 b c) : lt8 a c := by rw [lt8_iff] at *; exact List.lt_trans h k

theorem lt8_tri {a b : Str} (h : ¬ lt8 a b) (hne : ¬ a = b) : lt8 b a := by
  rw [lt8_iff] at *
  have h1 : b ≤ a := List.not_lt.1 h
  rcases List.le_iff_lt_or_eq.1 h1 with h2 | h2
  · exact h2
  · exact absurd h2.symm hne

abbrev Rise (l : List Str) : Prop := l.Pairwise lt8

theorem rise_uniq : ∀ {l m : List Str}, Rise l → Rise m → (∀ x, x ∈ l ↔ x ∈ m) → l = m
  | [], [], _, _, _ => rfl
  | [], y :: m, _, _, h => by have := (h y).2 (by simp); simp at this
  | x :: l, [], _, _, h => by have := (h x).1 (by simp); simp at this
  | x :: l, y :: m, hl, hm, h => by
    rw [Rise, List.pairwise_cons] at hl hm
    have hxy : x = y := by
      have h1 := (h x).1 (by simp)
      have h2 := (h y).2 (by simp)
      rcases List.mem_cons.1 h1 with h1 | h1
      · exact h1
      · rcases List.mem_cons.1 h2 with h2 | h2
        · exact h2.symm
        · exact absurd (lt8_trans (hm.1 x h1) (hl.1 y h2)) (lt8_irrefl y)
    subst hxy
    rw [rise_uniq hl.2 hm.2 fun z => ?_]
    constructor
    · intro hz
      have := (h z).1 (by simp [hz])
      rcases List.mem_cons.1 this with e | e
      · exact absurd (e ▸ hl.1 z hz) (lt8_irrefl _)
      · exact e
    · intro hz
      have := (h z).2 (by simp [hz])
      rcases List.mem_cons.1 this with e | e
      · exact absurd (e ▸ hm.1 z hz) (lt8_irrefl _)
      · exact e

def insS : List Str → Str → List Str
  | [], s => [s]
  | x :: l, s => if Op.bytesLess x s = true then x :: insS l s else if x = s then x :: l else s :: x :: l

theorem insS_mem (l : List Str) (s x : Str) : x ∈ insS l s ↔ x ∈ l ∨ x = s := by
  induction l with
  | nil => simp [insS]
  | cons y l ih =>
    simp only [insS]
    split
    · simp [ih, or_assoc]
    · split
      · rename_i e
        simp only [List.mem_cons]
        constructor
        · exact .inl
        · rintro (h | h)
          · exact h
          · exact .inl (h.trans e.symm)
      · simp only [List.mem_cons]
        constructor
        · rintro (h | h | h)
          · exact .inr h
          · exact .inl (.inl h)
          · exact .inl (.inr h)
        · rintro ((h | h) | h)
          · exact .inr (.inl h)
          · exact .inr (.inr h)
          · exact .inl h

theorem insS_rise (l : List Str) (s : Str) (h : Rise l) : Rise (insS l s) := by
  induction l with
  | nil => simp [insS, Rise]
  | cons y l ih =>
    rw [Rise, List.pairwise_cons] at h
    simp only [insS]
    split
    · rename_i hlt
      rw [Rise, List.pairwise_cons]
      refine ⟨fun z hz => ?_, ih h.2⟩
      rcases (insS_mem l s z).1 hz with hz | hz
      · exact h.1 z hz
      · exact hz ▸ hlt
    · rename_i hlt
      split
      · rw [Rise, List.pairwise_cons]; exact h
      · rename_i hne
        have hys : lt8 s y := lt8_tri hlt hne
        rw [Rise, List.pairwise_cons, List.pairwise_cons]
        refine ⟨fun z hz => ?_, h⟩
        rcases List.mem_cons.1 hz with hz | hz
        · exact hz ▸ hys
        · exact lt8_trans hys (h.1 z hz)

theorem compT_mem' : ∀ (t : List Str) (p x : Str), x ∈ t → x = p ∨ x ∈ compT p t
  | [], _, _, h => by simp at h
  | y :: t, p, x, h => by
    simp only [compT]
    rcases List.mem_cons.1 h with h | h
    · by_cases e : y = p
      · exact .inl (h.trans e)
      · rw [if_neg e]; exact .inr (by simp [h])
    · rcases compT_mem' t y x h with h | h
      · by_cases e : y = p
        · exact .inl (h.trans e)
        · rw [if_neg e]; exact .inr (by simp [h])
      · split
        · exact .inr h
        · exact .inr (by simp [h])

theorem compT_rise : ∀ (t : List Str) (p : Str), (p :: t).Pairwise (fun a b => a ≤ b) → Rise (compT p t) ∧ ∀ x ∈ compT p t, lt8 p x
  | [], p, _ => by simp [compT, Rise]
  | y :: t, p, h => by
    rw [List.pairwise_cons] at h
    obtain ⟨h1, h2⟩ := compT_rise t y h.2
    have hpy := h.1 y (by simp)
    simp only [compT]
    by_cases e : y = p
    · rw [if_pos e]
      exact ⟨h1, fun x hx => e ▸ h2 x hx⟩
    · rw [if_neg e]
      have hlt : lt8 p y := by
        rw [lt8_iff]
        rcases List.le_iff_lt_or_eq.1 hpy with h | h
        · exact h
        · exact absurd h.symm e
      rw [Rise, List.pairwise_cons]
      refine ⟨⟨h2, h1⟩, fun x hx => ?_⟩
      rcases List.mem_cons.1 hx with hx | hx
      · exact hx ▸ hlt
      · exact lt8_trans hlt (h2 x hx)

theorem compT_mem : ∀ (t : List (List UInt8)) (p x : List UInt8), x ∈ compT p t → x ∈ t
  | [], _, _, h => by simp [compT] at h
  | y :: t, p, x, h => by
    simp only [compT] at h
    split at h
    · exact List.mem_cons_of_mem _ (compT_mem t y x h)
    · rcases List.mem_cons.1 h with h | h
      · rw [h]; exact List.mem_cons_self
      · exact List.mem_cons_of_mem _ (compT_mem t y x h)

theorem compact_mem {l : List (List UInt8)} {x : List UInt8} (h : x ∈ compactS l) : x ∈ l := by
  cases l with
  | nil => simp [compactS] at h
  | cons y t =>
    rcases List.mem_cons.1 h with h | h
    · rw [h]; exact List.mem_cons_self
    · exact List.mem_cons_of_mem _ (compT_mem t y x h)

theorem compact_sort (l : List Str) : Rise (compactS (sortS l)) ∧ ∀ x, x ∈ compactS (sortS l) ↔ x ∈ l := by
  have hs : (sortS l).Pairwise (fun a b => a ≤ b) := by
    have := List.pairwise_mergeSort (le := fun (x y : Str) => decide (x ≤ y)) (fun a b c h1 h2 => by simp only [decide_eq_true_eq] at *; exact List.le_trans h1 h2) (fun a b => by simp only [Bool.or_eq_true, decide_eq_true_eq]; exact List.le_total a b) l
    exact this.imp fun h => by simpa using h
  have hm : ∀ x, x ∈ sortS l ↔ x ∈ l := fun x => by simp [sortS]
  generalize sortS l = m at hs hm
  cases m with
  | nil =>
    refine ⟨by simp [compactS, Rise], fun x => ?_⟩
    rw [← hm x]; simp [compactS]
  | cons p t =>
    obtain ⟨h1, h2⟩ := compT_rise t p hs
    refine ⟨by rw [compactS, Rise, List.pairwise_cons]; exact ⟨h2, h1⟩, fun x => ?_⟩
    rw [← hm x]
    constructor
    · exact fun h => compact_mem h
    · intro h
      rw [compactS, List.mem_cons]
      rcases List.mem_cons.1 h with h | h
      · exact .inl h
      · exact compT_mem' t p x h

/-! ### In order, each once -/

def U (l : List Str) : List Str := compactS (sortS l)

theorem U_rise (l : List Str) : Rise (U l) := (compact_sort l).1

theorem U_mem (l : List Str) (x : Str) : x ∈ U l ↔ x ∈ l := (compact_sort l).2 x

theorem U_of_rise {l : List Str} (h : Rise l) : U l = l := rise_uniq (U_rise l) h fun x => U_mem l x

theorem U_congr {l m : List Str} (h : ∀ x, x ∈ l ↔ x ∈ m) : U l = U m := rise_uniq (U_rise l) (U_rise m) fun x => by rw [U_mem, U_mem, h]

theorem U_snoc (l : List Str) (s : Str) : insS (U l) s = U (l ++ [s]) := rise_uniq (insS_rise _ _ (U_rise l)) (U_rise _) fun x => by rw [insS_mem, U_mem, U_mem]; simp

theorem U_fold (m : List Str) : ∀ (l : List Str), m.foldl insS (U l) = U (l ++ m) := by
  induction m with
  | nil => intro l; simp
  | cons s m ih => intro l; rw [List.foldl_cons, U_snoc, ih]; simp

theorem U_nil : U [] = [] := U_of_rise (by simp [Rise])

theorem rise_nodup {l : List Str} (h : Rise l) : l.Nodup := h.imp fun {a b} hab e => by subst e; exact lt8_irrefl _ hab

theorem U_perm {l : List Str} (h : l.Nodup) : (U l).Perm l := (List.perm_ext_iff_of_nodup (rise_nodup (U_rise l)) h).2 fun x => U_mem l x

theorem nodup_len : ∀ {l m : List Str}, l.Nodup → (∀ x, x ∈ l → x ∈ m) → l.length ≤ m.length
  | [], _, _, _ => Nat.zero_le _
  | x :: l, m, hd, hs => by
    rw [List.nodup_cons] at hd
    have hx := hs x (by simp)
    have h1 := List.length_erase_of_mem hx
    have h2 : 0 < m.length := List.length_pos_of_mem hx
    have h3 := nodup_len (m := m.erase x) hd.2 fun y hy => (List.mem_erase_of_ne (by rintro rfl; exact hd.1 hy)).2 (hs y (by simp [hy]))
    simp only [List.length_cons]
    omega

theorem U_len_le (l : List Str) : (U l).length ≤ l.length := nodup_len (rise_nodup (U_rise l)) fun x hx => (U_mem l x).1 hx

theorem not_nodup : ∀ {l : List Str}, ¬ l.Nodup → ∃ m : List Str, m.length < l.length ∧ ∀ x, x ∈ l → x ∈ m
  | [], h => absurd List.nodup_nil h
  | x :: l, h => by
    by_cases hx : x ∈ l
    · exact ⟨l, by simp, fun y hy => by rcases List.mem_cons.1 hy with rfl | hy <;> assumption⟩
    · obtain ⟨m, h1, h2⟩ := not_nodup (l := l) fun hn => h (List.nodup_cons.2 ⟨hx, hn⟩)
      exact ⟨x :: m, by simp; omega, fun y hy => by
        rcases List.mem_cons.1 hy with rfl | hy
        · simp
        · exact List.mem_cons_of_mem _ (h2 y hy)⟩

theorem U_len_nodup (l : List Str) : (U l).length < l.length ↔ ¬ l.Nodup := by
  constructor
  · intro h hn
    have := (U_perm hn).length_eq
    omega
  · intro h
    obtain ⟨m, h1, h2⟩ := not_nodup h
    have := nodup_len (rise_nodup (U_rise l)) fun x hx => h2 x ((U_mem l x).1 hx)
    omega

theorem rise_adj (l : List Str) : Rise l ↔ ∀ i, 1 ≤ i → (h : i < l.length) → lt8 (l[i - 1]'(by omega)) l[i] := by
  constructor
  · intro h i h1 h2
    exact List.pairwise_iff_getElem.1 h (i - 1) i (by omega) h2 (by omega)
  · intro h
    rw [Rise, List.pairwise_iff_getElem]
    intro i j hi hj hij
    obtain ⟨d, rfl⟩ : ∃ d, j = i + 1 + d := ⟨j - i - 1, by omega⟩
    induction d with
    | zero => have := h (i + 1) (by omega) (by omega); simpa using this
    | succ d ih =>
      have h1 := ih (by omega) (by omega)
      have h2 := h (i + 1 + (d + 1)) (by omega) hj
      exact lt8_trans h1 (by simpa using h2)

theorem loopO_allI {ρ : Type} {step : Int → Option (Int ⊕ ρ)} (k n : Nat) (p : Nat → Prop) [∀ i, Decidable (p i)] (bad good : ρ) (hn : n ≤ 1000000000)
    (hs : ∀ i : Nat, k ≤ i → i < n → step (i : Int) = some (if p i then .inl (IntKind.i64.wrap ((i : Int) + 1)) else .inr bad))
    (hf : ∀ i : Nat, n ≤ i → step (i : Int) = some (.inr good)) : ∃ r, loopO step (k : Int) = some r ∧ ((∀ i, k ≤ i → i < n → p i) ∧ r = good ∨ (¬ ∀ i, k ≤ i → i < n → p i) ∧ r = bad) := by
  refine loopO_inv (fun s : Int => ∃ i : Nat, k ≤ i ∧ s = (i : Int) ∧ ∀ j, k ≤ j → j < i → j < n → p j) (fun s : Int => n - s.toNat) ?_ ⟨k, Nat.le_refl _, rfl, fun j h1 h2 => by omega⟩
  rintro s ⟨i, hi, rfl, hI⟩
  by_cases h : i < n
  · rw [hs i hi h]
    by_cases hp : p i
    · rw [if_pos hp, wrap_nat (by omega)]
      refine .inl ⟨_, rfl, ⟨i + 1, by omega, rfl, fun j h1 h2 h3 => ?_⟩, by simp; omega⟩
      rcases Nat.lt_or_ge j i with h4 | h4
      · exact hI j h1 h4 h3
      · have : j = i := by omega
        subst this; exact hp
    · rw [if_neg hp]
      exact .inr ⟨_, rfl, .inr ⟨fun h' => hp (h' i hi h), rfl⟩⟩
  · rw [hf i (by omega)]
    exact .inr ⟨_, rfl, .inl ⟨fun j h1 h2 => hI j h1 (by omega) h2, rfl⟩⟩

instance (l : List Str) : Decidable (Rise l) := inferInstanceAs (Decidable (l.Pairwise lt8))

end Go.Idl

namespace Go.Idl

open Go

theorem F48_eq (l : List Str) (hl : l.length ≤ 1000000) : F48 l = some (decide (Rise l)) := by
  unfold F48
  obtain ⟨r, h1, h2⟩ := loopO_allI (step := fun (s : Int) => F48_b4 l s) 1 l.length (fun i => lt8 (l.getD (i - 1) []) (l.getD i [])) (.inr false) (.inl ()) (by omega)
    (fun i hi1 hi => by
      simp only [F48_b4]
      have hw : IntKind.i64.wrap ((i : Int) - 1) = ((i - 1 : Nat) : Int) := by rw [wrap_i64 (by omega) (by omega)]; omega
      rw [if_pos (by omega), hw, gd_pos (by omega), gd_pos (by omega), Int.toNat_natCast, Int.toNat_natCast]
      by_cases h : lt8 (l.getD (i - 1) []) (l.getD i [])
      · rw [if_pos h]
        simp only [lt8] at h
        rw [if_neg (fun hh => hh h)]
      · rw [if_neg h]
        simp only [lt8] at h
        rw [if_pos h])
    (fun i hi => by simp only [F48_b4]; rw [if_neg (by omega)])
  rw [show ((1 : Nat) : Int) = 1 from rfl] at h1
  rw [h1]
  have hr : Rise l ↔ ∀ i, 1 ≤ i → i < l.length → lt8 (l.getD (i - 1) []) (l.getD i []) := by
    rw [rise_adj]
    constructor
    · intro h i a b
      have := h i a b
      rwa [getD_some b, getD_some (by omega)]
    · intro h i a b
      have := h i a b
      rwa [getD_some b, getD_some (by omega)] at this
  rcases h2 with ⟨h, rfl⟩ | ⟨h, rfl⟩
  · rw [← hr] at h
    simp [F48_k4, h]
  · rw [← hr] at h
    simp [h]

def okA (a : S50) : Bool := nameB a.fName && decide (smallS a.fName = a.fName) && decide (1 ≤ a.fValues.length ∧ a.fValues.length ≤ 16) && a.fValues.all valB && decide (Rise a.fValues)

def rightB (e : List S50) : Bool := decide (e.length ≤ 24) && e.all okA && decide (Rise (e.map (·.fName)))

structure SzE (e : List S50) : Prop where
  len : e.length ≤ 1000000
  name : ∀ a, a ∈ e → a.fName.length ≤ 1000000
  vals : ∀ a, a ∈ e → a.fValues.length ≤ 1000000

theorem runI_all {α β : Type} (p : α → Bool) (g : α → β) (bad : Int) (fin : List β → (List β) ⊕ Int) : ∀ (l : List α) (i : Nat) (a : List β),
    runI (fun _ a x => if p x = true then .inl (a ++ [g x]) else .inr (.inr bad)) fin i a l = if l.all p = true then fin (a ++ l.map g) else .inr bad
  | [], _, a => by simp [runI]
  | x :: l, i, a => by
    rw [runI_cons]
    by_cases h : p x = true
    · rw [if_pos h]
      simp only [runI_all p g bad fin l (i + 1), List.all_cons, h, Bool.true_and, List.append_assoc, List.map_cons]
      rfl
    · rw [if_neg h]
      simp only [List.all_cons, Bool.eq_false_iff.2 h, Bool.false_and, Bool.false_eq_true, if_false]

theorem F17_eq (e : List S50) (hs : SzE e) : F17 e = some (if rightB e = true then 0 else 2) := by
  have h1 := hs.len
  unfold F17
  rw [loopO_run e (fun _ a x => if okA x = true then .inl (a ++ [x.fName]) else .inr (.inr 2)) .inl (fun i a => a.length = i) (by omega) rfl
    (fun i hi a hI => by
      have hm := List.getElem_mem hi
      have hn := hs.name _ hm
      have hv := hs.vals _ hm
      simp only [F17_b5]
      rw [if_pos (by omega), gd_pos (by omega), gd_pos (by simp only [List.length_cons, List.length_nil]; omega), Int.toNat_natCast, getD_some hi, F45_eq _ hn]
      simp only [Option.bind_some]
      by_cases g1 : nameB e[i].fName = true
      · rw [if_neg (by simp [g1]), F41_eq _ hn]
        simp only [Option.bind_some]
        by_cases g2 : smallS e[i].fName = e[i].fName
        · rw [if_neg (by simp only [g2, not_true, not_false_eq_true])]
          by_cases g3 : (e[i].fValues.length : Int) < 1
          · rw [if_pos g3]
            have : ¬ okA e[i] = true := by simp [okA]; omega
            rw [if_neg this]
          · rw [if_neg g3]
            by_cases g4 : 16 < (e[i].fValues.length : Int)
            · rw [if_pos g4]
              have : ¬ okA e[i] = true := by simp [okA]; omega
              rw [if_neg this]
            · rw [if_neg g4, F46_eq _ hv]
              simp only [Option.bind_some]
              by_cases g5 : e[i].fValues.all valB = true
              · rw [if_neg (by simp only [g5, not_true, not_false_eq_true]), F48_eq _ hv]
                simp only [Option.bind_some]
                by_cases g6 : Rise e[i].fValues
                · rw [if_neg (by simp only [g6, decide_true, not_true, not_false_eq_true])]
                  have g34 : 1 ≤ e[i].fValues.length ∧ e[i].fValues.length ≤ 16 := by omega
                  have : okA e[i] = true := by simp only [okA, g1, g2, g5, g6, g34, decide_true, Bool.true_and, and_self]
                  rw [if_pos this]
                · rw [if_pos (by simp only [g6, decide_false, Bool.false_eq_true, not_false_eq_true])]
                  have : ¬ okA e[i] = true := by simp only [okA, g6, decide_false, Bool.and_false, Bool.false_eq_true, not_false_eq_true]
                  rw [if_neg this]
              · rw [if_pos g5]
                have : ¬ okA e[i] = true := by simp only [okA, Bool.eq_false_iff.2 g5, Bool.and_false, Bool.false_and, Bool.false_eq_true, not_false_eq_true]
                rw [if_neg this]
        · rw [if_pos g2]
          have : ¬ okA e[i] = true := by simp only [okA, g2, decide_false, Bool.and_false, Bool.false_and, Bool.false_eq_true, not_false_eq_true]
          rw [if_neg this]
      · rw [if_pos g1]
        have : ¬ okA e[i] = true := by simp only [okA, Bool.eq_false_iff.2 g1, Bool.false_and, Bool.false_eq_true, not_false_eq_true]
        rw [if_neg this])
    (fun i hi a a' hI h => by
      split at h
      · simp only [Sum.inl.injEq] at h; subst h; simp [hI]
      · cases h)
    (fun a hI => by simp only [F17_b5]; rw [if_neg (by omega)])]
  rw [runI_all]
  simp only [List.nil_append]
  cases g : e.all okA with
  | false => simp [rightB, g]
  | true =>
    simp only [if_true, Option.bind_some, Sum.elim_inl, F17_k5]
    by_cases g2 : 24 < (e.length : Int)
    · have : rightB e = false := by simp [rightB]; omega
      rw [if_pos g2, this]; rfl
    · rw [if_neg g2, F48_eq _ (by simpa using hs.len)]
      simp only [Option.bind_some]
      have g3 : decide (e.length ≤ 24) = true := by simp; omega
      by_cases g4 : Rise (e.map (·.fName))
      · simp [rightB, g, g3, g4]
      · simp [rightB, g, g3, g4]

end Go.Idl

namespace Go.Idl

open Go

theorem F18_eq (e : List S50) (hs : SzE e) : F18 e = some (rightB e) := by
  have h1 := hs.len
  unfold F18
  by_cases hc : 24 < (e.length : Int)
  · rw [if_pos hc]
    have : rightB e = false := by simp [rightB]; omega
    rw [this]
  · rw [if_neg hc]
    have h24 : decide (e.length ≤ 24) = true := by simp; omega
    obtain ⟨r, q1, q2⟩ := loopO_allI (step := fun (s : Int) => F18_b8 e s) 0 e.length (fun i => okA (e.getD i S50.zero) = true ∧ (1 ≤ i → lt8 (e.getD (i - 1) S50.zero).fName (e.getD i S50.zero).fName)) (.inr false) (.inl ()) (by omega)
      (fun i _ hi => by
        have hm := List.getElem_mem hi
        have hn := hs.name _ hm
        have hv := hs.vals _ hm
        have hgi : e.getD i S50.zero = e[i] := getD_some hi _
        -- the values, neighbour by neighbour
        have hval : ∀ (w : nameB e[i].fName = true ∧ smallS e[i].fName = e[i].fName ∧ (1 ≤ e[i].fValues.length ∧ e[i].fValues.length ≤ 16) ∧ e[i].fValues.all valB = true), F18_k17 e (i : Int) = some (if okA e[i] = true then .inl (IntKind.i64.wrap ((i : Int) + 1)) else .inr (.inr false)) := by
          rintro ⟨w1, w2, w3, w4⟩
          have hok : okA e[i] = decide (Rise e[i].fValues) := by simp only [okA, w1, w2, w3, w4, decide_true, Bool.true_and, and_self]
          rw [hok]
          unfold F18_k17
          obtain ⟨r, p1, p2⟩ := loopO_allI (step := fun (s : Int) => F18_b19 e (i : Int) s) 1 e[i].fValues.length (fun j => lt8 (e[i].fValues.getD (j - 1) []) (e[i].fValues.getD j [])) (.inr false) (.inl ()) (by omega)
            (fun j hj1 hj => by
              simp only [F18_b19]
              have hw : IntKind.i64.wrap ((j : Int) - 1) = ((j - 1 : Nat) : Int) := by rw [wrap_i64 (by omega) (by omega)]; omega
              rw [Int.toNat_natCast, hgi, if_pos (by omega), hw, gd_pos (by omega), gd_pos (by omega), Int.toNat_natCast, Int.toNat_natCast]
              by_cases h : lt8 (e[i].fValues.getD (j - 1) []) (e[i].fValues.getD j [])
              · rw [if_pos h]
                simp only [lt8] at h
                rw [if_neg (fun hh => hh h)]
              · rw [if_neg h]
                simp only [lt8] at h
                rw [if_pos h])
            (fun j hj => by simp only [F18_b19]; rw [Int.toNat_natCast, hgi, if_neg (by omega)])
          rw [show ((1 : Nat) : Int) = 1 from rfl] at p1
          rw [p1]
          have hr : Rise e[i].fValues ↔ ∀ j, 1 ≤ j → j < e[i].fValues.length → lt8 (e[i].fValues.getD (j - 1) []) (e[i].fValues.getD j []) := by
            rw [rise_adj]
            constructor
            · intro h j a b
              have := h j a b
              rwa [getD_some b, getD_some (by omega)]
            · intro h j a b
              have := h j a b
              rwa [getD_some b, getD_some (by omega)] at this
          rcases p2 with ⟨h, rfl⟩ | ⟨h, rfl⟩
          · rw [← hr] at h
            simp [F18_k19, h]
          · rw [← hr] at h
            simp [h]
        simp only [F18_b8]
        rw [if_pos (by omega), gd_pos (by omega), Int.toNat_natCast]
        simp only [hgi, F49_eq, Option.bind_some]
        have bad : ∀ {α : Type} {x y : α}, ¬ okA e[i] = true → (if okA e[i] = true ∧ (1 ≤ i → lt8 (e.getD (i - 1) S50.zero).fName e[i].fName) then x else y) = y := fun h => if_neg fun hh => h hh.1
        by_cases g1 : nameB e[i].fName = true
        · rw [if_neg (by simp [g1]), F50_eq _ hn]
          simp only [Option.bind_some]
          by_cases g2 : smallS e[i].fName = e[i].fName
          · rw [if_neg (by simp only [g2, not_true, not_false_eq_true])]
            by_cases g3 : (e[i].fValues.length : Int) < 1
            · rw [if_pos g3, bad (by simp [okA]; omega)]
            · rw [if_neg g3]
              by_cases g4 : 16 < (e[i].fValues.length : Int)
              · rw [if_pos g4, bad (by simp [okA]; omega)]
              · rw [if_neg g4, F51_eq _ hv]
                simp only [Option.bind_some]
                by_cases g5 : e[i].fValues.all valB = true
                · rw [if_neg (by simp only [g5, not_true, not_false_eq_true])]
                  have g34 : 1 ≤ e[i].fValues.length ∧ e[i].fValues.length ≤ 16 := by omega
                  by_cases g6 : 0 < (i : Int)
                  · have hw : IntKind.i64.wrap ((i : Int) - 1) = ((i - 1 : Nat) : Int) := by rw [wrap_i64 (by omega) (by omega)]; omega
                    rw [if_pos g6, hw, gd_pos (by omega), Int.toNat_natCast]
                    by_cases g7 : lt8 (e.getD (i - 1) S50.zero).fName e[i].fName
                    · have g7' := g7
                      simp only [lt8] at g7'
                      rw [if_neg (fun hh => hh g7'), hval ⟨g1, g2, g34, g5⟩]
                      by_cases g8 : okA e[i] = true
                      · rw [if_pos g8, if_pos ⟨g8, fun _ => g7⟩]
                      · rw [if_neg g8, bad g8]
                    · have g7' := g7
                      simp only [lt8] at g7'
                      rw [if_pos g7', if_neg (fun hh => g7 (hh.2 (by omega)))]
                  · rw [if_neg g6, hval ⟨g1, g2, g34, g5⟩]
                    by_cases g8 : okA e[i] = true
                    · rw [if_pos g8, if_pos ⟨g8, fun h => by omega⟩]
                    · rw [if_neg g8, bad g8]
                · rw [if_pos g5, bad (by simp only [okA, Bool.eq_false_iff.2 g5, Bool.and_false, Bool.false_and, Bool.false_eq_true, not_false_eq_true])]
          · rw [if_pos g2, bad (by simp only [okA, g2, decide_false, Bool.and_false, Bool.false_and, Bool.false_eq_true, not_false_eq_true])]
        · rw [if_pos g1, bad (by simp only [okA, Bool.eq_false_iff.2 g1, Bool.false_and, Bool.false_eq_true, not_false_eq_true])])
      (fun i hi => by simp only [F18_b8]; rw [if_neg (by omega)])
    rw [show ((0 : Nat) : Int) = 0 from rfl] at q1
    rw [q1]
    have hr : rightB e = true ↔ ∀ i, 0 ≤ i → i < e.length → okA (e.getD i S50.zero) = true ∧ (1 ≤ i → lt8 (e.getD (i - 1) S50.zero).fName (e.getD i S50.zero).fName) := by
      simp only [rightB, h24, Bool.true_and, Bool.and_eq_true, decide_eq_true_eq, List.all_eq_true]
      rw [rise_adj]
      constructor
      · rintro ⟨a, b⟩ i _ hi
        rw [getD_some hi]
        refine ⟨a _ (List.getElem_mem hi), fun h1 => ?_⟩
        rw [getD_some (by omega)]
        have := b i h1 (by simpa using hi)
        simpa using this
      · intro h
        constructor
        · intro x hx
          obtain ⟨i, hi, rfl⟩ := List.getElem_of_mem hx
          have := (h i (by omega) hi).1
          rwa [getD_some hi] at this
        · intro i h1 hi
          have hi' : i < e.length := by simpa using hi
          have := (h i (by omega) hi').2 h1
          rw [getD_some hi', getD_some (by omega)] at this
          simpa using this
    rcases q2 with ⟨h, rfl⟩ | ⟨h, rfl⟩
    · rw [← hr] at h
      simp [F18_k8, h]
    · rw [← hr] at h
      simp [h]

end Go.Idl

namespace Go.Idl

open Go

section

variable {α : Type} (key : α → Str) (k : Str) (new : α)

def insG : List α → List α
  | [] => [new]
  | x :: l => if lt8 (key x) k then x :: insG l else if key x = k then new :: l else new :: x :: l

def stepG (s : List α × Bool) (x : α) : List α × Bool :=
  let s1 := if s.2 = false ∧ ¬ lt8 (key x) k then (s.1 ++ [new], true) else s
  if key x = k then s1 else (s1.1 ++ [x], s1.2)

theorem fold_done : ∀ (l : List α) (o : List α), l.foldl (stepG key k new) (o, true) = (o ++ l.filter (fun x => !decide (key x = k)), true)
  | [], o => by simp
  | x :: l, o => by
    have h1 : stepG key k new (o, true) x = if key x = k then (o, true) else (o ++ [x], true) := by simp [stepG]
    rw [List.foldl_cons, h1]
    by_cases h : key x = k
    · rw [if_pos h, fold_done l o]; simp [h]
    · rw [if_neg h, fold_done l]; simp [h]

theorem fold_ins2 : ∀ (l : List α) (o : List α), (l.map key).Pairwise lt8 → (l.foldl (stepG key k new) (o, false)).1 ++ (if (l.foldl (stepG key k new) (o, false)).2 = true then [] else [new]) = o ++ insG key k new l
  | [], o, _ => by simp [insG]
  | x :: l, o, hp => by
    rw [List.map_cons, List.pairwise_cons] at hp
    rw [List.foldl_cons]
    by_cases h : lt8 (key x) k
    · have hne : ¬ key x = k := fun e => lt8_irrefl k (by rw [e] at h; exact h)
      have h1 : stepG key k new (o, false) x = (o ++ [x], false) := by simp [stepG, h, hne]
      rw [h1, fold_ins2 l _ hp.2]
      simp [insG, h]
    · have hft : ∀ y, y ∈ l → ¬ key y = k ∨ (key x ≠ k ∧ False) := fun y hy => .inl fun e => by
        have h2 := hp.1 (key y) (List.mem_map_of_mem hy)
        rw [e] at h2
        exact h h2
      have hfl : l.filter (fun x => !decide (key x = k)) = l := List.filter_eq_self.2 fun y hy => by
        rcases hft y hy with h' | h'
        · simp [h']
        · exact h'.2.elim
      by_cases he : key x = k
      · have h1 : stepG key k new (o, false) x = (o ++ [new], true) := by simp [stepG, he, lt8_irrefl]
        rw [h1, fold_done, hfl]
        simp [insG, he, lt8_irrefl]
      · have h1 : stepG key k new (o, false) x = (o ++ [new] ++ [x], true) := by simp [stepG, h, he]
        rw [h1, fold_done, hfl]
        simp [insG, h, he]

theorem stepG_len (s : List α × Bool) (x : α) : (stepG key k new s x).1.length ≤ s.1.length + 2 := by
  unfold stepG
  simp only
  split <;> split <;> simp

end

theorem runI_inl {α σ ρ : Type} (g : σ → α → σ) (fin : σ → ρ) : ∀ (l : List α) (i : Nat) (a : σ), runI (fun _ a x => .inl (g a x)) fin i a l = fin (l.foldl g a)
  | [], _, _ => rfl
  | x :: l, i, a => by rw [runI_cons, List.foldl_cons]; exact runI_inl g fin l (i + 1) (g a x)

theorem insG_id (l : List Str) (s : Str) : insG id s s l = insS l s := by
  induction l with
  | nil => rfl
  | cons x l ih =>
    simp only [insG, insS, id, ih, lt8]
    by_cases h : Op.bytesLess x s = true
    · rw [if_pos h, if_pos h]
    · rw [if_neg h, if_neg h]
      by_cases he : x = s
      · rw [if_pos he, if_pos he, he]
      · rw [if_neg he, if_neg he]

theorem F54_eq (l : List Str) (s : Str) (hl : l.length ≤ 1000000) (hr : Rise l) : F54 l s = some (insS l s) := by
  unfold F54
  rw [loopO_run2 l (fun _ a x => .inl (stepG id s s a x)) id (fun i a => a.1.length ≤ 2 * i) (by omega) (by simp)
    (fun i hi a b hI => by
      simp only at hI
      simp only [F54_b6]
      rw [if_pos (by omega)]
      have k24 : ∀ (o : List Str) (d : Bool), o.length ≤ 2 * i + 1 → F54_k24 l s (i : Int) o d = some (.inl (if l[i] = s then (o, d, IntKind.i64.wrap ((i : Int) + 1)) else (o ++ [l[i]], d, IntKind.i64.wrap ((i : Int) + 1)))) := by
        intro o d ho
        simp only [F54_k24]
        rw [gd_pos (by omega), Int.toNat_natCast, getD_some hi]
        by_cases h : l[i] = s
        · rw [if_neg (by simp [h]), if_pos h]
        · rw [if_pos h, gd_pos (by simp only [List.length_cons, List.length_nil]; omega), if_neg h]
      cases b with
      | true =>
        rw [if_neg (by simp), k24 a true (by omega)]
        by_cases h : l[i] = s <;> simp [stepG, h]
      | false =>
        rw [if_pos (by simp), gd_pos (by omega), Int.toNat_natCast, getD_some hi]
        by_cases hlt : lt8 l[i] s
        · have hlt' := hlt
          simp only [lt8] at hlt'
          rw [if_neg (fun hh => hh hlt'), k24 a false (by omega)]
          by_cases h : l[i] = s <;> simp [stepG, h, hlt]
          rw [h] at hlt
          exact absurd hlt (lt8_irrefl s)
        · have hlt' := hlt
          simp only [lt8] at hlt'
          rw [if_pos hlt', gd_pos (by simp only [List.length_cons, List.length_nil]; omega), k24 _ true (by simp; omega)]
          by_cases h : l[i] = s
          · simp [stepG, h, lt8_irrefl]
          · simp [stepG, h, hlt])
    (fun i hi a a' hI h => by
      simp only [Sum.inl.injEq] at h
      subst h
      have := stepG_len id s s a l[i]
      omega)
    (fun a b hI => by simp only [F54_b6]; rw [if_neg (by omega)]; rfl)]
  rw [runI_inl]
  have h1 := fold_ins2 id s s l [] (by simpa using hr)
  rw [insG_id] at h1
  have hlen : ∀ (l : List Str) (a : List Str × Bool), (l.foldl (stepG id s s) a).1.length ≤ a.1.length + 2 * l.length := by
    intro l
    induction l with
    | nil => intro a; simp
    | cons x l ih => intro a; have := ih (stepG id s s a x); have := stepG_len id s s a x; simp only [List.foldl_cons, List.length_cons]; omega
  have h2 := hlen l ([], false)
  simp only [Option.bind_some, id, F54_k6]
  generalize l.foldl (stepG id s s) ([], false) = q at h1 h2
  obtain ⟨o, d⟩ := q
  simp only [List.length_nil] at h1 h2 ⊢
  cases d with
  | true => rw [if_neg (by simp)]; simpa using h1
  | false => rw [if_pos (by simp), gd_pos (by simp; omega)]; simpa using h1

def setE (e : List S50) (n : Str) (v : List Str) : List S50 := if v = [] then e.filter (fun x => !decide (x.fName = n)) else insG (·.fName) n ⟨n, v⟩ e

end Go.Idl

namespace Go.Idl

open Go

def getE : List S50 → Str → List Str
  | [], _ => []
  | a :: e, n => if a.fName = n then a.fValues else getE e n

theorem F23_eq (e : List S50) (n : Str) (hl : e.length ≤ 1000000) (hn : n.length ≤ 1000000) : F23 e n = some (getE e (smallS n)) := by
  unfold F23
  rw [loopO_find e (fun _ x => if x.fName = smallS n then some (.inr x.fValues) else none) (.inl ()) (by omega)
    (fun i hi => by
      simp only [F23_b4]
      rw [if_pos (by omega), gd_pos (by omega), Int.toNat_natCast, getD_some hi, F50_eq n hn]
      simp only [Option.bind_some]
      by_cases h : e[i].fName = smallS n
      · rw [if_pos h, if_pos h]
      · rw [if_neg h, if_neg h])
    (by simp only [F23_b4]; rw [if_neg (by omega)])]
  have : ∀ (l : List S50) (i : Nat), (Sum.elim (fun (_ : Unit) => F23_k4) (fun (q : List Str) => some q) (findI (fun _ x => if x.fName = smallS n then some (.inr x.fValues) else none) (.inl ()) i l)) = some (getE l (smallS n)) := by
    intro l
    induction l with
    | nil => intro i; rfl
    | cons x l ih =>
      intro i
      rw [findI_cons]
      by_cases h : x.fName = smallS n
      · simp [getE, h]
      · simp only [getE, h, if_false]
        exact ih (i + 1)
  exact this e 0

theorem F22_eq (e : List S50) (n : Str) (hs : SzE e) (hn : n.length ≤ 1000000) : F22 e n = some (getE e (smallS n)) := by
  have hl := hs.len
  unfold F22
  rw [loopO_find e (fun _ x => if x.fName = smallS n then some (.inr x.fValues) else none) (.inl ()) (by omega)
    (fun i hi => by
      have hv := hs.vals _ (List.getElem_mem hi)
      simp only [F22_b4]
      rw [if_pos (by omega), gd_pos (by omega), Int.toNat_natCast, getD_some hi, F41_eq n hn]
      simp only [Option.bind_some]
      by_cases h : e[i].fName = smallS n
      · rw [if_pos h, if_pos h, F56, gd_pos (by omega)]
        rfl
      · rw [if_neg h, if_neg h])
    (by simp only [F22_b4]; rw [if_neg (by omega)])]
  have : ∀ (l : List S50) (i : Nat), (Sum.elim (fun (_ : Unit) => F22_k4) (fun (q : List Str) => some q) (findI (fun _ x => if x.fName = smallS n then some (.inr x.fValues) else none) (.inl ()) i l)) = some (getE l (smallS n)) := by
    intro l
    induction l with
    | nil => intro i; rfl
    | cons x l ih =>
      intro i
      rw [findI_cons]
      by_cases h : x.fName = smallS n
      · simp [getE, h]
      · simp only [getE, h, if_false]
        exact ih (i + 1)
  exact this e 0

theorem eq_getD {α : Type} {a b : List α} (d : α) (hl : a.length = b.length) : a = b ↔ ∀ i, 0 ≤ i → i < a.length → a.getD i d = b.getD i d := by
  constructor
  · rintro rfl i _ _; rfl
  · intro h
    refine List.ext_getElem hl fun i h1 h2 => ?_
    have := h i (by omega) h1
    rwa [getD_some h1, getD_some h2] at this

theorem F21_eq (a b : List Str) (ha : a.length ≤ 1000000) : F21 a b = some (decide (a = b)) := by
  unfold F21
  by_cases hc : (a.length : Int) = b.length
  · rw [if_neg (by simpa using hc)]
    obtain ⟨r, q1, q2⟩ := loopO_allI (step := fun (s : Int) => F21_b8 a b s) 0 a.length (fun i => a.getD i [] = b.getD i []) (.inr false) (.inl ()) (by omega)
      (fun i _ hi => by
        simp only [F21_b8]
        rw [if_pos (by omega), gd_pos (by omega), gd_pos (by omega), Int.toNat_natCast]
        by_cases h : a.getD i [] = b.getD i []
        · rw [if_neg (fun hh => hh h), if_pos h]
        · rw [if_pos h, if_neg h])
      (fun i hi => by simp only [F21_b8]; rw [if_neg (by omega)])
    rw [show ((0 : Nat) : Int) = 0 from rfl] at q1
    rw [q1]
    have he := eq_getD (a := a) (b := b) [] (by omega)
    rcases q2 with ⟨h, rfl⟩ | ⟨h, rfl⟩
    · rw [← he] at h; simp [F21_k8, h]
    · rw [← he] at h; simp [h]
  · rw [if_pos hc]
    have : ¬ a = b := by rintro rfl; exact hc rfl
    simp [this]

theorem F60_eq (a b : List Str) (ha : a.length ≤ 1000000) : F60 a b = some (decide (a = b)) := by
  unfold F60
  by_cases hc : (a.length : Int) = b.length
  · rw [if_neg (by simpa using hc)]
    obtain ⟨r, q1, q2⟩ := loopO_allI (step := fun (s : Int) => F60_b8 a b s) 0 a.length (fun i => a.getD i [] = b.getD i []) (.inr false) (.inl ()) (by omega)
      (fun i _ hi => by
        simp only [F60_b8]
        rw [if_pos (by omega), gd_pos (by omega), gd_pos (by omega), Int.toNat_natCast]
        by_cases h : a.getD i [] = b.getD i []
        · rw [if_neg (fun hh => hh h), if_pos h]
        · rw [if_pos h, if_neg h])
      (fun i hi => by simp only [F60_b8]; rw [if_neg (by omega)])
    rw [show ((0 : Nat) : Int) = 0 from rfl] at q1
    rw [q1]
    have he := eq_getD (a := a) (b := b) [] (by omega)
    rcases q2 with ⟨h, rfl⟩ | ⟨h, rfl⟩
    · rw [← he] at h; simp [F60_k8, h]
    · rw [← he] at h; simp [h]
  · rw [if_pos hc]
    have : ¬ a = b := by rintro rfl; exact hc rfl
    simp [this]

theorem S50_eq {x y : S50} : x = y ↔ x.fName = y.fName ∧ x.fValues = y.fValues := by cases x; cases y; simp

theorem F16_eq (a b : List S50) (hs : SzE a) : F16 a b = some (decide (a = b)) := by
  have ha := hs.len
  unfold F16
  by_cases hc : (a.length : Int) = b.length
  · rw [if_neg (by simpa using hc)]
    obtain ⟨r, q1, q2⟩ := loopO_allI (step := fun (s : Int) => F16_b8 a b s) 0 a.length (fun i => a.getD i S50.zero = b.getD i S50.zero) (.inr false) (.inl ()) (by omega)
      (fun i _ hi => by
        have hv := hs.vals _ (List.getElem_mem hi)
        simp only [F16_b8]
        rw [if_pos (by omega), gd_pos (by omega), gd_pos (by omega), Int.toNat_natCast]
        by_cases h1 : (a.getD i S50.zero).fName = (b.getD i S50.zero).fName
        · rw [if_neg (fun hh => hh h1), F21_eq _ _ (by rw [getD_some hi]; exact hv)]
          simp only [Option.bind_some]
          by_cases h2 : (a.getD i S50.zero).fValues = (b.getD i S50.zero).fValues
          · rw [if_neg (by simp only [h2, decide_true, not_true, not_false_eq_true]), if_pos (S50_eq.2 ⟨h1, h2⟩)]
          · rw [if_pos (by simp only [h2, decide_false, Bool.false_eq_true, not_false_eq_true]), if_neg (fun hh => h2 (S50_eq.1 hh).2)]
        · rw [if_pos h1, if_neg (fun hh => h1 (S50_eq.1 hh).1)])
      (fun i hi => by simp only [F16_b8]; rw [if_neg (by omega)])
    rw [show ((0 : Nat) : Int) = 0 from rfl] at q1
    rw [q1]
    have he := eq_getD (a := a) (b := b) S50.zero (by omega)
    rcases q2 with ⟨h, rfl⟩ | ⟨h, rfl⟩
    · rw [← he] at h; simp [F16_k8, h]
    · rw [← he] at h; simp [h]
  · rw [if_pos hc]
    have : ¬ a = b := by rintro rfl; exact hc rfl
    simp [this]

/-! ### Entries in order -/

structure SrtE (e : List S50) : Prop where
  names : Rise (e.map (·.fName))
  vals : ∀ a, a ∈ e → a.fValues ≠ [] ∧ Rise a.fValues

theorem getE_mem {e : List S50} (h : Rise (e.map (·.fName))) {a : S50} (ha : a ∈ e) : getE e a.fName = a.fValues := by
  induction e with
  | nil => simp at ha
  | cons x e ih =>
    rw [List.map_cons, Rise, List.pairwise_cons] at h
    rcases List.mem_cons.1 ha with rfl | ha
    · simp [getE]
    · have h1 := h.1 a.fName (List.mem_map_of_mem ha)
      have : ¬ x.fName = a.fName := fun e => lt8_irrefl _ (e ▸ h1)
      simp only [getE, this, if_false]
      exact ih h.2 ha

theorem getE_none {e : List S50} {n : Str} (h : ∀ a, a ∈ e → a.fName ≠ n) : getE e n = [] := by
  induction e with
  | nil => rfl
  | cons x e ih =>
    simp only [getE, h x (by simp), if_false]
    exact ih fun a ha => h a (by simp [ha])

theorem mem_names {e : List S50} (hs : SrtE e) (n : Str) : n ∈ e.map (·.fName) ↔ getE e n ≠ [] := by
  constructor
  · intro h
    obtain ⟨a, ha, rfl⟩ := List.mem_map.1 h
    rw [getE_mem hs.names ha]
    exact (hs.vals a ha).1
  · intro h
    rcases Classical.em (n ∈ e.map (·.fName)) with h' | h'
    · exact h'
    · exfalso
      exact h (getE_none fun a ha e => h' (e ▸ List.mem_map_of_mem ha))

theorem e_form {e : List S50} (h : Rise (e.map (·.fName))) : e = (e.map (·.fName)).map fun n => ⟨n, getE e n⟩ := by
  rw [List.map_map]
  symm
  calc e.map ((fun n => (⟨n, getE e n⟩ : S50)) ∘ fun x => x.fName) = e.map id := List.map_congr_left fun a ha => by
        simp only [Function.comp, getE_mem h ha, id]
    _ = e := List.map_id e

theorem srt_uniq {e f : List S50} (he : SrtE e) (hf : SrtE f) (h : ∀ n, getE e n = getE f n) : e = f := by
  have hn : e.map (·.fName) = f.map (·.fName) := rise_uniq he.names hf.names fun n => by rw [mem_names he, mem_names hf, h]
  rw [e_form he.names, e_form hf.names, hn]
  exact List.map_congr_left fun n _ => by rw [h]

theorem insG_mem {e : List S50} {n : Str} {v : List Str} {a : S50} (h : a ∈ insG (·.fName) n ⟨n, v⟩ e) : a = ⟨n, v⟩ ∨ a ∈ e := by
  induction e with
  | nil => simpa [insG] using h
  | cons x e ih =>
    simp only [insG] at h
    split at h
    · rcases List.mem_cons.1 h with h | h
      · exact .inr (by simp [h])
      · rcases ih h with h | h
        · exact .inl h
        · exact .inr (by simp [h])
    · split at h
      · rcases List.mem_cons.1 h with h | h
        · exact .inl h
        · exact .inr (by simp [h])
      · rcases List.mem_cons.1 h with h | h
        · exact .inl h
        · exact .inr h

theorem insG_rise {e : List S50} {n : Str} {v : List Str} (h : Rise (e.map (·.fName))) : Rise ((insG (·.fName) n ⟨n, v⟩ e).map (·.fName)) := by
  induction e with
  | nil => simp [insG, Rise]
  | cons x e ih =>
    rw [List.map_cons, Rise, List.pairwise_cons] at h
    simp only [insG]
    split
    · rename_i hlt
      rw [List.map_cons, Rise, List.pairwise_cons]
      refine ⟨fun m hm => ?_, ih h.2⟩
      obtain ⟨a, ha, rfl⟩ := List.mem_map.1 hm
      rcases insG_mem ha with rfl | ha
      · exact hlt
      · exact h.1 _ (List.mem_map_of_mem ha)
    · rename_i hlt
      split
      · rename_i he
        rw [List.map_cons, Rise, List.pairwise_cons]
        exact ⟨he ▸ h.1, h.2⟩
      · rename_i hne
        have hnx : lt8 n x.fName := lt8_tri hlt hne
        rw [List.map_cons, List.map_cons, Rise, List.pairwise_cons, List.pairwise_cons]
        refine ⟨fun m hm => ?_, h⟩
        rcases List.mem_cons.1 hm with rfl | hm
        · exact hnx
        · exact lt8_trans hnx (h.1 m hm)

theorem insG_get {e : List S50} {n : Str} {v : List Str} (h : Rise (e.map (·.fName))) (m : Str) : getE (insG (·.fName) n ⟨n, v⟩ e) m = if m = n then v else getE e m := by
  induction e with
  | nil =>
    simp only [insG, getE]
    by_cases hm : m = n
    · simp [hm]
    · rw [if_neg (fun e => hm e.symm), if_neg hm]
  | cons x e ih =>
    rw [List.map_cons, Rise, List.pairwise_cons] at h
    simp only [insG]
    split
    · rename_i hlt
      simp only [getE, ih h.2]
      by_cases hx : x.fName = m
      · subst hx
        have : ¬ x.fName = n := fun e => lt8_irrefl n (e ▸ hlt)
        rw [if_pos rfl, if_neg this, if_pos rfl]
      · rw [if_neg hx, if_neg hx]
    · split
      · rename_i he
        simp only [getE]
        by_cases hm : m = n
        · simp [hm]
        · rw [if_neg (fun e => hm e.symm), if_neg hm, if_neg (fun e => hm (e.symm.trans he))]
      · simp only [getE]
        by_cases hm : m = n
        · simp [hm]
        · rw [if_neg (fun e => hm e.symm), if_neg hm]

theorem setE_srt {e : List S50} {n : Str} {v : List Str} (he : SrtE e) (hv : Rise v) : SrtE (setE e n v) := by
  unfold setE
  split
  · refine ⟨?_, fun a ha => he.vals a (List.mem_filter.1 ha).1⟩
    exact (he.names.sublist (List.filter_sublist.map _))
  · rename_i hne
    refine ⟨insG_rise he.names, fun a ha => ?_⟩
    rcases insG_mem ha with rfl | ha
    · exact ⟨hne, hv⟩
    · exact he.vals a ha

theorem setE_get {e : List S50} {n : Str} {v : List Str} (he : SrtE e) (m : Str) : getE (setE e n v) m = if m = n then v else getE e m := by
  unfold setE
  split
  · rename_i hv
    subst hv
    have key : ∀ (e : List S50), getE (e.filter fun x => !decide (x.fName = n)) m = if m = n then [] else getE e m := by
      intro e
      induction e with
      | nil => simp [getE]
      | cons x e ih =>
        by_cases hx : x.fName = n
        · rw [List.filter_cons_of_neg (by simp [hx]), ih]
          by_cases hm : m = n
          · simp [hm]
          · rw [if_neg hm, if_neg hm]
            simp only [getE]
            rw [if_neg (fun e => hm (e.symm.trans hx))]
        · rw [List.filter_cons_of_pos (by simp [hx])]
          simp only [getE]
          by_cases hxm : x.fName = m
          · rw [if_pos hxm, if_pos hxm, if_neg (fun e => hx (hxm.trans e))]
          · rw [if_neg hxm, if_neg hxm, ih]
    exact key e
  · exact insG_get he.names m

end Go.Idl

namespace Go.Idl

open Go

abbrev Tab := List (Str × List Str)

def keysT (t : Tab) : List Str := t.map (·.1)

def gT (t : Tab) (n : Str) : List Str := (mget t n).getD []

def vT (t : Tab) (n : Str) : List Str := U (gT t n)

def entT (t : Tab) : List S50 := ((U (keysT t)).map fun n => (⟨n, vT t n⟩ : S50)).filter fun a => !decide (a.fValues = [])

def fitT (t : Tab) : Bool := (U (keysT t)).all (fun n => decide ((vT t n).length ≤ 16)) && decide ((entT t).length ≤ 24)

theorem mget_keys {t : Tab} {n : Str} : n ∈ keysT t ↔ (mget t n).isSome = true := by
  induction t with
  | nil => simp [keysT, mget]
  | cons p t ih =>
    simp only [keysT, List.map_cons, List.mem_cons, mget] at ih ⊢
    by_cases h : p.1 = n
    · simp [h]
    · rw [if_neg h, ← ih]
      constructor
      · rintro (e | e)
        · exact absurd e.symm h
        · exact e
      · exact .inr

theorem gT_none {t : Tab} {n : Str} (h : ¬ n ∈ keysT t) : gT t n = [] := by
  rw [mget_keys] at h
  unfold gT
  cases hm : mget t n with
  | none => rfl
  | some v => rw [hm] at h; simp at h

theorem get_filter (g : Str → List Str) (n : Str) : ∀ (L : List Str), getE ((L.map fun n => (⟨n, g n⟩ : S50)).filter fun a => !decide (a.fValues = [])) n = if n ∈ L then g n else []
  | [] => by simp [getE]
  | x :: L => by
    rw [List.map_cons]
    by_cases hg : g x = []
    · rw [List.filter_cons_of_neg (by simp [hg]), get_filter g n L]
      by_cases hx : n = x
      · subst hx
        simp [hg]
      · simp [hx]
    · rw [List.filter_cons_of_pos (by simp [hg])]
      simp only [getE]
      by_cases hx : x = n
      · subst hx
        simp
      · rw [if_neg hx, get_filter g n L]
        have : ¬ n = x := fun e => hx e.symm
        simp [this]

theorem entT_get (t : Tab) (n : Str) : getE (entT t) n = vT t n := by
  unfold entT
  rw [get_filter]
  by_cases h : n ∈ U (keysT t)
  · rw [if_pos h]
  · rw [if_neg h]
    rw [U_mem] at h
    rw [vT, gT_none h, U_nil]

theorem entT_srt (t : Tab) : SrtE (entT t) := by
  constructor
  · have h1 : ((entT t).map (·.fName)).Sublist (((U (keysT t)).map fun n => (⟨n, vT t n⟩ : S50)).map (·.fName)) := List.filter_sublist.map _
    have h2 : ((U (keysT t)).map fun n => (⟨n, vT t n⟩ : S50)).map (·.fName) = U (keysT t) := by rw [List.map_map]; exact List.map_id _
    rw [h2] at h1
    exact (U_rise _).sublist h1
  · intro a ha
    obtain ⟨h1, h2⟩ := List.mem_filter.1 ha
    obtain ⟨n, _, rfl⟩ := List.mem_map.1 h1
    exact ⟨by simpa using h2, U_rise _⟩

structure SzT (t : Tab) : Prop where
  len : t.length ≤ 1000000
  key : ∀ n, n ∈ keysT t → n.length ≤ 1000000
  vals : ∀ n, (gT t n).length ≤ 1000000

theorem F58v_eq (l : List Str) (h : l.length ≤ 1000000) : F58v l = some (U l) := gd_pos (by omega)

theorem F42_eq (t : Tab) (hs : SzT t) : F42 t = some (if fitT t = true then (entT t, 0) else ([], 3)) := by
  have h1 := hs.len
  have hul : (U (keysT t)).length ≤ 1000000 := Nat.le_trans (U_len_le _) (by simpa [keysT] using h1)
  unfold F42
  have h58 : F58k t = some (U (keysT t)) := gd_pos ⟨by omega, fun p hp => by have := hs.key p.1 (List.mem_map_of_mem hp); omega⟩
  rw [h58]
  simp only [Option.bind_some]
  rw [loopO_run (U (keysT t)) (fun _ a n => if (vT t n).length ≤ 16 then .inl (if vT t n = [] then a else a ++ [⟨n, vT t n⟩]) else .inr (.inr ([], 3))) .inl (fun i a => a.length ≤ i) (by omega) (by simp)
    (fun i hi a hI => by
      simp only [F42_b7]
      rw [if_pos (by omega), gd_pos (by omega), Int.toNat_natCast, getD_some hi, F58v_eq _ (by exact hs.vals (U (keysT t))[i])]
      simp only [Option.bind_some]
      rw [show U ((mget t (U (keysT t))[i]).getD []) = vT t (U (keysT t))[i] from rfl]
      by_cases g1 : 16 < ((vT t (U (keysT t))[i]).length : Int)
      · rw [if_pos g1, if_neg (by omega)]
      · rw [if_neg g1, if_pos (show (vT t (U (keysT t))[i]).length ≤ 16 by omega)]
        by_cases g2 : 0 < ((vT t (U (keysT t))[i]).length : Int)
        · have g3 : ¬ vT t (U (keysT t))[i] = [] := by intro e; rw [e] at g2; simp at g2
          rw [if_pos g2, gd_pos (by simp only [List.length_cons, List.length_nil]; omega), if_neg g3]
        · have g3 : vT t (U (keysT t))[i] = [] := List.eq_nil_of_length_eq_zero (by omega)
          rw [if_neg g2, if_pos g3])
    (fun i hi a a' hI h => by
      split at h
      · simp only [Sum.inl.injEq] at h
        subst h
        split
        · omega
        · simp; omega
      · cases h)
    (fun a hI => by simp only [F42_b7]; rw [if_neg (by omega)])]
  have key : ∀ (L : List Str) (i : Nat) (a : List S50), runI (fun _ (a : List S50) n => if (vT t n).length ≤ 16 then .inl (if vT t n = [] then a else a ++ [⟨n, vT t n⟩]) else .inr (.inr (([] : List S50), (3 : Int)))) (.inl : List S50 → List S50 ⊕ (List S50 × Int)) i a L = if L.all (fun n => decide ((vT t n).length ≤ 16)) = true then .inl (a ++ (L.map fun n => (⟨n, vT t n⟩ : S50)).filter fun a => !decide (a.fValues = [])) else .inr ([], 3) := by
    intro L
    induction L with
    | nil => intro i a; simp [runI]
    | cons n L ih =>
      intro i a
      rw [runI_cons]
      by_cases g1 : (vT t n).length ≤ 16
      · rw [if_pos g1]
        simp only [ih, List.all_cons, g1, decide_true, Bool.true_and, List.map_cons]
        by_cases g2 : vT t n = []
        · rw [if_pos g2, List.filter_cons_of_neg (by simp [g2])]
        · rw [if_neg g2, List.filter_cons_of_pos (by simp [g2])]
          simp
      · rw [if_neg g1]
        simp [g1]
  rw [key]
  unfold fitT
  cases g : (U (keysT t)).all fun n => decide ((vT t n).length ≤ 16) with
  | false => simp
  | true =>
    simp only [if_true, Option.bind_some, Sum.elim_inl, F42_k7, List.nil_append, Bool.true_and, decide_eq_true_eq]
    have : ((U (keysT t)).map fun n => (⟨n, vT t n⟩ : S50)).filter (fun a => !decide (a.fValues = [])) = entT t := rfl
    rw [this]
    by_cases g2 : 24 < ((entT t).length : Int)
    · rw [if_pos g2, if_neg (by omega)]
    · rw [if_neg g2, if_pos (by omega)]

theorem fitT_iff (t : Tab) : fitT t = true ↔ (∀ n, (vT t n).length ≤ 16) ∧ (entT t).length ≤ 24 := by
  simp only [fitT, Bool.and_eq_true, List.all_eq_true, decide_eq_true_eq]
  constructor
  · rintro ⟨h1, h2⟩
    refine ⟨fun n => ?_, h2⟩
    by_cases h : n ∈ keysT t
    · exact h1 n ((U_mem _ _).2 h)
    · rw [vT, gT_none h, U_nil]; simp
  · rintro ⟨h1, h2⟩
    exact ⟨fun n _ => h1 n, h2⟩

/-! ### Tables -/

theorem gT_set (t : Tab) (k : Str) (v : List Str) (n : Str) : gT (mset t k v) n = if n = k then v else gT t n := by
  induction t with
  | nil =>
    simp only [mset, gT, mget]
    by_cases h : k = n
    · simp [h]
    · rw [if_neg h, if_neg (fun e => h e.symm)]
  | cons p t ih =>
    simp only [mset]
    by_cases h : p.1 = k
    · rw [if_pos h]
      simp only [gT, mget]
      by_cases hn : k = n
      · simp [hn]
      · rw [if_neg hn, if_neg (fun e => hn e.symm), h, if_neg hn]
    · rw [if_neg h]
      simp only [gT, mget] at ih ⊢
      by_cases hn : p.1 = n
      · rw [if_pos hn, if_pos hn, if_neg (fun e => h (hn.trans e))]
      · rw [if_neg hn, if_neg hn]
        exact ih

theorem keys_set (t : Tab) (k : Str) (v : List Str) (n : Str) : n ∈ keysT (mset t k v) ↔ n = k ∨ n ∈ keysT t := by
  induction t with
  | nil => simp [mset, keysT]
  | cons p t ih =>
    simp only [mset, keysT] at ih ⊢
    by_cases h : p.1 = k
    · rw [if_pos h]
      simp [h]
    · rw [if_neg h]
      simp only [List.map_cons, List.mem_cons, ih]
      constructor
      · rintro (h | h | h)
        · exact .inr (.inl h)
        · exact .inl h
        · exact .inr (.inr h)
      · rintro (h | h | h)
        · exact .inr (.inl h)
        · exact .inl h
        · exact .inr (.inr h)

theorem set_len (t : Tab) (k : Str) (v : List Str) : (mset t k v).length ≤ t.length + 1 := by
  induction t with
  | nil => simp [mset]
  | cons p t ih =>
    simp only [mset]
    split
    · simp
    · simp; omega

theorem gT_del {t : Tab} (hd : (keysT t).Nodup) (k n : Str) : gT (mdel t k) n = if n = k then [] else gT t n := by
  induction t with
  | nil => simp [mdel, gT, mget]
  | cons p t ih =>
    simp only [keysT, List.map_cons, List.nodup_cons] at hd
    simp only [mdel]
    by_cases h : p.1 = k
    · rw [if_pos h]
      by_cases hn : n = k
      · subst hn
        rw [if_pos rfl]
        exact gT_none (h ▸ hd.1)
      · rw [if_neg hn]
        simp only [gT, mget]
        rw [if_neg (fun e => hn (e.symm.trans h))]
    · rw [if_neg h]
      have := ih hd.2
      simp only [gT, mget] at this ⊢
      by_cases hn : p.1 = n
      · rw [if_pos hn, if_pos hn, if_neg (fun e => h (hn.trans e))]
      · rw [if_neg hn, if_neg hn]
        exact this

theorem keys_nodup {t : Tab} (h : (keysT t).Nodup) (k : Str) (v : List Str) : (keysT (mset t k v)).Nodup := by
  induction t with
  | nil => simp [mset, keysT]
  | cons p t ih =>
    simp only [keysT, List.map_cons, List.nodup_cons] at h
    simp only [mset]
    by_cases hp : p.1 = k
    · rw [if_pos hp]
      simp only [keysT, List.map_cons, List.nodup_cons]
      exact ⟨hp ▸ h.1, h.2⟩
    · rw [if_neg hp]
      simp only [keysT, List.map_cons, List.nodup_cons]
      refine ⟨fun hm => ?_, ih h.2⟩
      rcases (keys_set t k v p.1).1 hm with e | e
      · exact hp e
      · exact h.1 e

end Go.Idl

namespace Go.Idl

open Go

def okR (a : S50) : Bool := nameB a.fName && a.fValues.all valB

structure SzO (l : List S50) : Prop where
  len : l.length ≤ 1000000
  name : ∀ a, a ∈ l → a.fName.length ≤ 1000000
  tot : (l.map (·.fValues)).flatten.length ≤ 1000000

theorem SzO.sz {l : List S50} (h : SzO l) : SzE l := ⟨h.len, h.name, fun a ha => by
  have h1 := h.tot
  clear h
  induction l with
  | nil => simp at ha
  | cons x l ih =>
    rw [List.map_cons, List.flatten_cons, List.length_append] at h1
    rcases List.mem_cons.1 ha with rfl | ha
    · omega
    · exact ih ha (by omega)⟩

theorem F52_eq (l : List S50) (hs : SzE l) : F52 l = some (l.all okR) := by
  have hl := hs.len
  have h105 : ∃ j : Int, F105 l = some j ∧ decide (0 ≤ j) = !l.all okR := by
    unfold F105
    rw [loopO_find l (fun i x => if okR x = true then none else some (.inr (i : Int))) (.inl ()) (by omega)
      (fun i hi => by
        have hm := List.getElem_mem hi
        simp only [F105_b4]
        rw [if_pos (by omega), gd_pos (by omega), Int.toNat_natCast, getD_some hi]
        simp only [F89, F53, F45_eq _ (hs.name _ hm), Option.bind_some]
        by_cases h1 : nameB l[i].fName = true
        · rw [if_pos h1, F46_eq _ (hs.vals _ hm)]
          simp only [Option.bind_some]
          have : okR l[i] = l[i].fValues.all valB := by simp only [okR, h1, Bool.true_and]
          rw [this]
          cases l[i].fValues.all valB <;> simp
        · rw [if_neg h1]
          have : okR l[i] = false := by simp only [okR, Bool.eq_false_iff.2 h1, Bool.false_and]
          rw [this]
          simp)
      (by simp only [F105_b4]; rw [if_neg (by omega)])]
    rcases findI_place okR l 0 with ⟨h1, h2⟩ | ⟨h1, j, h2⟩
    · rw [h2, h1]; exact ⟨-1, rfl, rfl⟩
    · rw [h2, h1]; exact ⟨j, rfl, by simp⟩
  obtain ⟨j, h1, h2⟩ := h105
  simp only [F52, F88, h1, Option.bind_some, h2, Bool.not_not]

theorem tabS_snoc (l : List S50) (a : S50) : tabS (l ++ [a]) = mset (tabS l) (smallS a.fName) (gT (tabS l) (smallS a.fName) ++ a.fValues) := by
  unfold tabS
  rw [List.foldl_append]
  rfl

theorem list_snoc_ind {α : Type} {p : List α → Prop} (h0 : p []) (h1 : ∀ l x, p l → p (l ++ [x])) (l : List α) : p l := by
  rw [← List.reverse_reverse l]
  induction l.reverse with
  | nil => exact h0
  | cons x m ih => rw [List.reverse_cons]; exact h1 _ _ ih

theorem tabS_get (n : Str) (l : List S50) : gT (tabS l) n = (l.filter fun a => decide (smallS a.fName = n)).flatMap (·.fValues) := by
  induction l using list_snoc_ind with
  | h0 => rfl
  | h1 l a ih =>
    rw [tabS_snoc, gT_set, List.filter_append, List.flatMap_append]
    by_cases h : n = smallS a.fName
    · rw [if_pos h, ← h, ih]
      rw [List.filter_cons_of_pos (by simp [h])]
      simp
    · rw [if_neg h, ih, List.filter_cons_of_neg (by simpa using fun e => h e.symm)]
      simp

theorem tabS_keys (n : Str) (l : List S50) : n ∈ keysT (tabS l) ↔ ∃ a, a ∈ l ∧ smallS a.fName = n := by
  induction l using list_snoc_ind with
  | h0 => simp [tabS, keysT]
  | h1 l a ih =>
    rw [tabS_snoc, keys_set, ih]
    constructor
    · rintro (h | ⟨b, h1, h2⟩)
      · exact ⟨a, by simp, h.symm⟩
      · exact ⟨b, by simp [h1], h2⟩
    · rintro ⟨b, h1, h2⟩
      rcases List.mem_append.1 h1 with h1 | h1
      · exact .inr ⟨b, h1, h2⟩
      · simp at h1; subst h1; exact .inl h2.symm

theorem tabS_nodup (l : List S50) : (keysT (tabS l)).Nodup := by
  induction l using list_snoc_ind with
  | h0 => simp [tabS, keysT]
  | h1 l a ih => rw [tabS_snoc]; exact keys_nodup ih _ _

theorem tabS_len (l : List S50) : (tabS l).length ≤ l.length := by
  induction l using list_snoc_ind with
  | h0 => simp [tabS]
  | h1 l a ih => rw [tabS_snoc]; have := set_len (tabS l) (smallS a.fName) (gT (tabS l) (smallS a.fName) ++ a.fValues); simp; omega

theorem gT_le (n : Str) (l : List S50) : (gT (tabS l) n).length ≤ (l.map (·.fValues)).flatten.length := by
  rw [tabS_get]
  induction l with
  | nil => simp
  | cons x l ih =>
    rw [List.map_cons, List.flatten_cons, List.length_append]
    by_cases hx : smallS x.fName = n
    · rw [List.filter_cons_of_pos (by simp [hx])]
      simp only [List.flatMap_cons, List.length_append]
      omega
    · rw [List.filter_cons_of_neg (by simp [hx])]
      omega

theorem tabS_sz {l : List S50} (h : SzO l) : SzT (tabS l) := by
  refine ⟨Nat.le_trans (tabS_len l) h.len, fun n hn => ?_, fun n => Nat.le_trans (gT_le n l) h.tot⟩
  obtain ⟨a, h1, rfl⟩ := (tabS_keys n l).1 hn
  simpa using h.name a h1

theorem F40_eq {l : List S50} (h : SzO l) : F40 l = some (tabS l) := gd_pos ⟨by have := h.len; omega, fun a ha => by have := h.name a ha; omega, by have := h.tot; omega⟩

def orderS (l : List S50) : List S50 × Int := if l.all okR = true then (if fitT (tabS l) = true then (entT (tabS l), 0) else ([], 3)) else ([], 2)

theorem F19_eq (l : List S50) (h : SzO l) : F19 l = some (orderS l) := by
  unfold F19 orderS
  rw [F52_eq l h.sz]
  simp only [Option.bind_some]
  cases g : l.all okR with
  | false => simp
  | true =>
    rw [if_neg (by simp), F40_eq h]
    simp only [Option.bind_some, F42_eq _ (tabS_sz h), if_true]

theorem getE_len {e : List S50} {B : Nat} (h : ∀ a, a ∈ e → a.fValues.length ≤ B) (n : Str) : (getE e n).length ≤ B := by
  induction e with
  | nil => simp [getE]
  | cons x e ih =>
    simp only [getE]
    split
    · exact h x (by simp)
    · exact ih fun a ha => h a (by simp [ha])

theorem insS_len' (l : List Str) (s : Str) : (insS l s).length ≤ l.length + 1 := by
  induction l with
  | nil => simp [insS]
  | cons x l ih =>
    simp only [insS]
    split
    · simp; omega
    · split <;> simp

theorem fold_loop {step : List Str × Int → Option ((List Str × Int) ⊕ List Str)} (v m : List Str) (hv : Rise v) (hl : v.length + m.length ≤ 1000000)
    (hs : ∀ (i : Nat) (h : i < m.length) (a : List Str), step (a, (i : Int)) = (F54 a m[i]).bind fun x => some (.inl (x, IntKind.i64.wrap ((i : Int) + 1)))) (hf : ∀ a, step (a, (m.length : Int)) = some (.inr a)) : loopO step (v, 0) = some (m.foldl insS v) := by
  rw [loopO_run m (fun _ a x => .inl (insS a x)) id (fun i a => Rise a ∧ a.length ≤ v.length + i) (by omega) ⟨hv, by omega⟩
    (fun i hi a hI => by
      rw [hs i hi a, F54_eq _ _ (by omega) hI.1]
      rfl)
    (fun i hi a a' hI h => by
      simp only [Sum.inl.injEq] at h
      subst h
      have := insS_len' a m[i]
      exact ⟨insS_rise _ _ hI.1, by omega⟩)
    (fun a _ => hf a)]
  rw [runI_inl]
  rfl

end Go.Idl

namespace Go.Idl

open Go

/-! ### Which changes may be -/

def mayB (m : S48) : Bool := decide (1 ≤ m.fKind ∧ m.fKind ≤ 3) && nameB m.fName && decide (m.fValues.length ≤ 16) && m.fValues.all valB && (!decide (m.fKind = 1) || decide (0 < m.fValues.length))

structure SzM (l : List S48) : Prop where
  len : l.length ≤ 1000000
  name : ∀ a, a ∈ l → a.fName.length ≤ 1000000
  vals : ∀ a, a ∈ l → a.fValues.length ≤ 1000000

theorem F36_eq (m : S48) (hn : m.fName.length ≤ 1000000) (hv : m.fValues.length ≤ 1000000) : F36 m = some (mayB m) := by
  unfold F36 mayB
  by_cases h1 : 1 ≤ m.fKind
  · rw [if_pos h1]
    by_cases h2 : m.fKind ≤ 3
    · rw [if_pos h2, F45_eq _ hn]
      have h12 : decide (1 ≤ m.fKind ∧ m.fKind ≤ 3) = true := by simp [h1, h2]
      simp only [Option.bind_some, h12, Bool.true_and]
      by_cases h3 : nameB m.fName = true
      · rw [if_pos h3, h3]
        by_cases h4 : (m.fValues.length : Int) ≤ 16
        · rw [if_pos h4, F46_eq _ hv]
          have h4' : decide (m.fValues.length ≤ 16) = true := by simp; omega
          simp only [Option.bind_some, h4', Bool.true_and]
          by_cases h5 : m.fValues.all valB = true
          · rw [if_pos h5, h5]
            by_cases h6 : m.fKind = 1
            · rw [if_neg (by simp [h6])]
              simp [h6]
            · rw [if_pos h6]
              simp [h6]
          · rw [if_neg h5]
            simp [Bool.eq_false_iff.2 h5]
        · rw [if_neg h4]
          have h4' : decide (m.fValues.length ≤ 16) = false := by simp; omega
          simp [h4']
      · rw [if_neg h3]
        simp [Bool.eq_false_iff.2 h3]
    · rw [if_neg h2]
      simp [h2]
  · rw [if_neg h1]
    simp [h1]

theorem F35_eq (l : List S48) (hs : SzM l) : F35 l = some (l.all mayB) := by
  have hl := hs.len
  have h98 : ∃ j : Int, F98 l = some j ∧ decide (0 ≤ j) = !l.all mayB := by
    unfold F98
    rw [loopO_find l (fun i x => if mayB x = true then none else some (.inr (i : Int))) (.inl ()) (by omega)
      (fun i hi => by
        have hm := List.getElem_mem hi
        simp only [F98_b4]
        rw [if_pos (by omega), gd_pos (by omega), Int.toNat_natCast, getD_some hi]
        simp only [F75, F36_eq _ (hs.name _ hm) (hs.vals _ hm), Option.bind_some]
        cases mayB l[i] <;> simp)
      (by simp only [F98_b4]; rw [if_neg (by omega)])]
    rcases findI_place mayB l 0 with ⟨h1, h2⟩ | ⟨h1, j, h2⟩
    · rw [h2, h1]; exact ⟨-1, rfl, rfl⟩
    · rw [h2, h1]; exact ⟨j, rfl, by simp⟩
  obtain ⟨j, h1, h2⟩ := h98
  simp only [F35, F74, h1, Option.bind_some, h2, Bool.not_not]

/-! ### One change -/

def chS (k : Int) (has v : List Str) : List Str ⊕ Int :=
  if k = 1 then (if ¬ (has ++ v).Nodup then .inr 170 else .inl (has ++ v))
  else if k = 2 then (if (v = [] ∧ has = []) ∨ ¬ v.Nodup ∨ ¬ ∀ s, s ∈ v → s ∈ has then .inr 171 else .inl (if v = [] then [] else has.filter fun s => !decide (s ∈ v)))
  else .inl v

theorem F76_eq (l : List Str) (h : l.length ≤ 1000000) : F76 l = some (decide (¬ l.Nodup)) := by
  unfold F76
  rw [F58v_eq l h]
  simp only [Option.bind_some, Option.some.injEq, decide_eq_decide]
  rw [← U_len_nodup]
  omega

theorem F46s2_eq (v has : List Str) (hv : v.length ≤ 1000000) (hh : has.length ≤ 1000000) : F46s2 v has = some (decide (∀ s, s ∈ v → s ∈ has)) := by
  have hall : decide (∀ s, s ∈ v → s ∈ has) = v.all (fun s => decide (s ∈ has)) := by
    rw [Bool.eq_iff_iff]
    simp [List.all_eq_true]
  have h100 : ∃ j : Int, F100s2 v has = some j ∧ decide (0 ≤ j) = !v.all (fun s => decide (s ∈ has)) := by
    unfold F100s2
    have key : ∃ r, loopO (fun (s : Int × List Str) => F100s2_b4 v s.1 s.2) (0, has) = some r ∧ ((v.all (fun s => decide (s ∈ has)) = true ∧ r = .inl has) ∨ (v.all (fun s => decide (s ∈ has)) = false ∧ ∃ j : Nat, r = .inr (j : Int))) := by
      refine loopO_for3 (step := fun (s : Int × List Str) => F100s2_b4 v s.1 s.2) v.length (fun i a => a = has ∧ (v.take i).all (fun s => decide (s ∈ has)) = true) ⟨rfl, by simp⟩ ?_ ?_
      · rintro i a hi ⟨rfl, hI⟩
        simp only [F100s2_b4]
        rw [if_pos (by omega), gd_pos (by omega), Int.toNat_natCast, getD_some hi]
        simp only [F86s2, F77, Q78_eq _ _ hh, Option.bind_some]
        by_cases h : v[i] ∈ a
        · rw [if_neg (by simp [h]), wrap_nat (by omega)]
          refine .inl ⟨a, rfl, rfl, ?_⟩
          rw [List.take_succ_eq_append_getElem hi, List.all_append, hI]
          simp [h]
        · rw [if_pos (by simp [h])]
          refine .inr ⟨_, rfl, .inr ⟨?_, i, rfl⟩⟩
          rw [Bool.eq_false_iff]
          intro h'
          have := List.all_eq_true.1 h' v[i] (List.getElem_mem _)
          simp [h] at this
      · rintro a ⟨rfl, hI⟩
        simp only [F100s2_b4]
        rw [if_neg (by omega)]
        rw [List.take_length] at hI
        exact ⟨_, rfl, .inl ⟨hI, rfl⟩⟩
    obtain ⟨r, h1, h2⟩ := key
    rw [h1]
    rcases h2 with ⟨h2, rfl⟩ | ⟨h2, j, rfl⟩
    · rw [h2]; exact ⟨-1, rfl, rfl⟩
    · rw [h2]; exact ⟨j, rfl, by simp⟩
  obtain ⟨j, h1, h2⟩ := h100
  simp only [F46s2, F85s2, h1, Option.bind_some, h2, Bool.not_not, hall]

def chT (t : Tab) (k : Int) (n : Str) (v : List Str) : Int × Tab :=
  match chS k (gT t n) v with
  | .inr w => (w, t)
  | .inl x => (0, if k = 2 ∧ v = [] then mdel t n else mset t n x)

theorem F37_eq (t : Tab) (n : Str) (v : List Str) (ht : (gT t n).length ≤ 500000) (hv : v.length ≤ 500000) : F37 t n v = some (chT t 1 n v) := by
  unfold F37 chT chS
  have h56 : F56 ((mget t n).getD []) = some (gT t n) := gd_pos (by show ((gT t n).length : Int) ≤ 1000000; omega)
  rw [h56]
  simp only [Option.bind_some]
  rw [gd_pos (by omega), F76_eq _ (by rw [List.length_append]; omega)]
  simp only [Option.bind_some, if_true]
  by_cases h : (gT t n ++ v).Nodup
  · rw [if_neg (by simp [h])]
    simp only [h, not_true, if_false]
    rw [gd_pos (by omega)]
    rfl
  · rw [if_pos (by simp [h])]
    simp only [h, not_false_eq_true, if_true]

theorem F39_eq (t : Tab) (n : Str) (v : List Str) (hv : v.length ≤ 500000) : F39 t n v = some (chT t 3 n v) := by
  unfold F39 chT chS
  rw [F56, gd_pos (by omega)]
  rfl

theorem F38_eq (t : Tab) (n : Str) (v : List Str) (ht : (gT t n).length ≤ 500000) (hv : v.length ≤ 500000) : F38 t n v = some (chT t 2 n v) := by
  have hg : (mget t n).getD [] = gT t n := rfl
  have h56 : F56 (gT t n) = some (gT t n) := gd_pos (by omega)
  have hk4 : ∀ b : Bool, (b = false → v ≠ [] → ∃ s, s ∈ v ∧ s ∈ gT t n) → F38_k4 t n v b = some (if b = true then (171, t) else (0, if v = [] then mdel t n else mset t n ((gT t n).filter fun s => !decide (s ∈ v)))) := by
    intro b hb
    unfold F38_k4
    cases b with
    | true => simp
    | false =>
      rw [if_neg (by simp)]
      by_cases h : (v.length : Int) = 0
      · have : v = [] := List.eq_nil_of_length_eq_zero (by omega)
        rw [if_pos h]
        simp [this]
      · have hne : v ≠ [] := by rintro rfl; simp at h
        obtain ⟨s, _, hs⟩ := hb rfl hne
        rw [if_neg h, hg, h56]
        simp only [Option.bind_some]
        have h79 : F79 (gT t n) v = some ((gT t n).filter fun s => !decide (s ∈ v)) := gd_pos ⟨by intro e; rw [e] at hs; simp at hs, by omega, by omega⟩
        rw [h79]
        simp [hne]
  have hall := F46s2_eq v (gT t n) (by omega) (by omega)
  have h76 := F76_eq v (by omega)
  unfold F38
  rw [hg]
  have hgoal : chT t 2 n v = if (v = [] ∧ gT t n = []) ∨ ¬ v.Nodup ∨ ¬ (∀ s, s ∈ v → s ∈ gT t n) then (171, t) else (0, if v = [] then mdel t n else mset t n ((gT t n).filter fun s => !decide (s ∈ v))) := by
    unfold chT chS
    rw [if_neg (by decide), if_pos rfl]
    by_cases hc : (v = [] ∧ gT t n = []) ∨ ¬ v.Nodup ∨ ¬ (∀ s, s ∈ v → s ∈ gT t n)
    · rw [if_pos hc, if_pos hc]
    · rw [if_neg hc, if_neg hc]
      by_cases hv : v = []
      · simp [hv]
      · simp [hv]
  rw [hgoal]
  have rest : ((F76 v).bind fun (x : Bool) => if x = true then F38_k4 t n v x else (F46s2 v (gT t n)).bind fun (y : Bool) => F38_k4 t n v (!y)) = some (if ¬ v.Nodup ∨ ¬ (∀ s, s ∈ v → s ∈ gT t n) then (171, t) else (0, if v = [] then mdel t n else mset t n ((gT t n).filter fun s => !decide (s ∈ v)))) := by
    rw [h76]
    simp only [Option.bind_some]
    by_cases g1 : v.Nodup
    · rw [if_neg (by simp [g1]), hall]
      simp only [Option.bind_some]
      by_cases g2 : ∀ s, s ∈ v → s ∈ gT t n
      · rw [hk4 _ (fun _ hne => by
          obtain ⟨s, hs⟩ := List.exists_mem_of_ne_nil v hne
          exact ⟨s, hs, g2 s hs⟩)]
        rw [show (!decide (∀ s, s ∈ v → s ∈ gT t n)) = false by simpa using g2, if_neg (by decide : ¬ false = true), if_neg (show ¬ (¬ v.Nodup ∨ ¬ ∀ s, s ∈ v → s ∈ gT t n) from fun h => h.elim (fun h => h g1) fun h => h g2)]
      · rw [hk4 _ (fun h => by simp at h; exact absurd h g2)]
        rw [show (!decide (∀ s, s ∈ v → s ∈ gT t n)) = true by simpa using g2, if_pos rfl, if_pos (show ¬ v.Nodup ∨ ¬ ∀ s, s ∈ v → s ∈ gT t n from .inr g2)]
    · have hd : decide (¬ v.Nodup) = true := by simp [g1]
      rw [hd, if_pos rfl, hk4 true (fun h => by cases h), if_pos rfl, if_pos (show ¬ v.Nodup ∨ ¬ ∀ s, s ∈ v → s ∈ gT t n from .inl g1)]
  by_cases h0 : (v.length : Int) = 0
  · have hv0 : v = [] := List.eq_nil_of_length_eq_zero (by omega)
    rw [if_pos h0]
    by_cases h1 : ((gT t n).length : Int) = 0
    · have hg0 : gT t n = [] := List.eq_nil_of_length_eq_zero (by omega)
      rw [if_pos h1, hk4 _ (fun h => by simp [h1] at h)]
      rw [if_pos (by simpa using h1), if_pos (.inl ⟨hv0, hg0⟩)]
    · have hg0 : ¬ gT t n = [] := fun e => h1 (by simp [e])
      rw [if_neg h1, rest]
      simp only [hg0, and_false, false_or]
  · have hv0 : ¬ v = [] := fun e => h0 (by simp [e])
    rw [if_neg h0, rest]
    simp only [hv0, false_and, false_or]

end Go.Idl
