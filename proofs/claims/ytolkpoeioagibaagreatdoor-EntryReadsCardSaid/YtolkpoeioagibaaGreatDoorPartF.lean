/- The entry of any text, or that it is of none. Part 6. Conditions: none. -/
import Derived.Test.YtolkpoeioagibaaGreatDoorPartE
import Derived.Sort.Walk0
import Derived.Shelf.LaysC
import Derived.Shelf.Strconv.Itoa3
import Derived.Shelf.Strconv.ErrVarAll
import Derived.Shelf.Strings.Cut
import Derived.Ground.NamesProg
import Derived.Shelf.Strconv.AtoiAll
import Derived.Test.YtolkpoeioagibaaGreatDoorProg
set_option linter.unusedSimpArgs false
set_option linter.unusedVariables false

namespace Go.Idl

open Go Go.Proofs.Tryz

/-! cardcase/cardcaseref06.Name -/

noncomputable def F49_k12  : Option Bool :=
 some true

noncomputable def F49_b12 (a0 : List UInt8) (v13 : Int) : Option (Int ⊕ (Unit ⊕ Bool)) :=
 if v13 < (a0.length : Int) then (gd (0 ≤ v13 ∧ v13 < a0.length) ((F87 (((a0.getD v13.toNat 0).toNat : Int))).bind fun (x21 : Bool) => if ¬ (x21 = true) then (if (((a0.getD v13.toNat 0).toNat : Int)) < 48 then (if ¬ (((a0.getD v13.toNat 0).toNat : Int)) = 45 then (some (.inr (.inr false))) else (some (.inl (IntKind.i64.wrap (v13 + 1))))) else (if 57 < (((a0.getD v13.toNat 0).toNat : Int)) then (if ¬ (((a0.getD v13.toNat 0).toNat : Int)) = 45 then (some (.inr (.inr false))) else (some (.inl (IntKind.i64.wrap (v13 + 1))))) else (some (.inl (IntKind.i64.wrap (v13 + 1)))))) else (some (.inl (IntKind.i64.wrap (v13 + 1)))))) else (some (.inr (.inl ())))

noncomputable def F49 (a0 : List UInt8) : Option Bool :=
 if (a0.length : Int) < 1 then (some false) else (if 64 < (a0.length : Int) then (some false) else (gd (0 < a0.length) ((F87 (((a0.getD 0 0).toNat : Int))).bind fun (x7 : Bool) => if ¬ (x7 = true) then (some false) else ((loopO (fun (s : Int) => F49_b12 a0 s) 0).bind fun y => Sum.elim (fun (e : Unit) => F49_k12) (fun (q : Bool) => some q) y))))

set_option maxHeartbeats 8000000 in
set_option pp.deepTerms false in
set_option maxRecDepth 60000 in
theorem F49_ok {H : IHeap} {K : IEnd → IHeap → Prop} (a0 : List UInt8) {r : Bool} (h : F49 a0 = some r) (hK : K (.ret (.v (.bool r))) H) : ICalls prog 49 [.v (str a0)] H K := by
 refine ICalls_iwp (N := 47) func49 (by kernel_rfl) rfl (by kernel_rfl) (by kernel_rfl) fun cb hcb hw hbd hnb => ?_
 clear hbd hnb
 subst hcb
 unfold F49 at h
 refine IWp_seqF fun cb hc1 => ?_
 refine vcK ?_
 try simp -implicitDefEqProofs (maxSteps := 1000000) (disch := omega) [go_sem]
 subst hc1
 refine IWp_seqF fun cb hc2 => ?_
 refine IWp_seqF fun cb hc3 => ?_
 refine vcK ?_
 try simp -implicitDefEqProofs (maxSteps := 1000000) (disch := omega) [go_sem]
 refine splitG_f h (by first | with_reducible rfl | (simp -implicitDefEqProofs (maxSteps := 1000000) (disch := omega) [go_sem] <;> omega)) ?_ ?_
 ·intro c30 h
  try simp -implicitDefEqProofs (disch := omega) at c30
  try simp -implicitDefEqProofs (maxSteps := 1000000) (disch := omega) [go_sem]
  subst hc3
  refine IWp_cond_t (by first | with_reducible rfl | (simp -implicitDefEqProofs (maxSteps := 1000000) (disch := omega) [go_sem] <;> omega)) rfl ?_
  refine IWp_seqF fun cb hc4 => ?_
  refine vcK ?_
  try simp -implicitDefEqProofs (maxSteps := 1000000) (disch := omega) [go_sem]
  subst hc4
  refine vcK ?_
  simp -implicitDefEqProofs only [go_sem]
  have er := Option.some.inj h
  subst er
  try simp -implicitDefEqProofs (maxSteps := 1000000) (disch := omega) [go_sem]
  refine retG_pureA (Ext.refl hw) hK (e := by first | with_reducible rfl | (simp -implicitDefEqProofs (maxSteps := 1000000) (disch := omega) [go_sem] <;> omega))
 ·intro c30 h
  try simp -implicitDefEqProofs (disch := omega) at c30
  try simp -implicitDefEqProofs (maxSteps := 1000000) (disch := omega) [go_sem]
  refine splitG_f h (by first | with_reducible rfl | (simp -implicitDefEqProofs (maxSteps := 1000000) (disch := omega) [go_sem] <;> omega)) ?_ ?_
  ·intro c29 h
   try simp -implicitDefEqProofs (disch := omega) at c29
   try simp -implicitDefEqProofs (maxSteps := 1000000) (disch := omega) [go_sem]
   subst hc3
   refine IWp_cond_t (by first | with_reducible rfl | (simp -implicitDefEqProofs (maxSteps := 1000000) (disch := omega) [go_sem] <;> omega)) rfl ?_
   refine IWp_seqF fun cb hc5 => ?_
   refine vcK ?_
   try simp -implicitDefEqProofs (maxSteps := 1000000) (disch := omega) [go_sem]
   subst hc5
   refine vcK ?_
   simp -implicitDefEqProofs only [go_sem]
   have er := Option.some.inj h
   subst er
   try simp -implicitDefEqProofs (maxSteps := 1000000) (disch := omega) [go_sem]
   refine retG_pureA (Ext.refl hw) hK (e := by first | with_reducible rfl | (simp -implicitDefEqProofs (maxSteps := 1000000) (disch := omega) [go_sem] <;> omega))
  ·intro c29 h
   try simp -implicitDefEqProofs (disch := omega) at c29
   obtain ⟨g6, h⟩ := gd_some.1 h
   try simp -implicitDefEqProofs (disch := omega) at g6
   try simp -implicitDefEqProofs (maxSteps := 1000000) (disch := omega) [go_sem]
   obtain ⟨x7, hx7, h⟩ := bind_some' h
   refine ICalls.eqA (args' := [.v (.int .u8 (((a0.getD 0 0).toNat : Int)))]) (by first | with_reducible rfl | (simp -implicitDefEqProofs (maxSteps := 1000000) (disch := omega) [go_sem] <;> omega)) (F87_ok (((a0.getD 0 0).toNat : Int)) hx7 ?_)
   try simp -implicitDefEqProofs (maxSteps := 1000000) (disch := omega) [go_sem]
   subst hc3
   refine IWp_cond_i h (by first | with_reducible rfl | (simp -implicitDefEqProofs (maxSteps := 1000000) (disch := omega) [go_sem] <;> omega)) rfl ?_ ?_
   ·intro c8 h
    try simp -implicitDefEqProofs (disch := omega) at c8
    refine IWp_seqF fun cb hc9 => ?_
    refine vcK ?_
    try simp -implicitDefEqProofs (maxSteps := 1000000) (disch := omega) [go_sem]
    subst hc9
    refine vcK ?_
    simp -implicitDefEqProofs only [go_sem]
    have er := Option.some.inj h
    subst er
    try simp -implicitDefEqProofs (maxSteps := 1000000) (disch := omega) [go_sem]
    refine retG_pureA (Ext.refl hw) hK (e := by first | with_reducible rfl | (simp -implicitDefEqProofs (maxSteps := 1000000) (disch := omega) [go_sem] <;> omega))
   ·intro c8 h
    try simp -implicitDefEqProofs (disch := omega) at c8
    refine vcK ?_
    simp -implicitDefEqProofs only [go_sem]
    subst hc2
    refine IWp_seqF fun cb hc10 => ?_
    refine IWp_seqF fun cb hc11 => ?_
    refine vcK ?_
    try simp -implicitDefEqProofs (maxSteps := 1000000) (disch := omega) [go_sem]
    subst hc11
    obtain ⟨y12, hl12q, hk12⟩ := bind_some' h
    refine IWp_tailC (fun tm' H' => .inl () = y12 ∧ H = H') ?_ fun cb hc12 => ?_
    ·rintro tm12e H12e ⟨rfl, rfl⟩
     have h : F49_k12 = some r := hk12
     unfold F49_k12 at h
     simp -implicitDefEqProofs only [go_sem]
     subst hc10
     refine IWp_seqF fun cb hc14 => ?_
     refine vcK ?_
     try simp -implicitDefEqProofs (maxSteps := 1000000) (disch := omega) [go_sem]
     subst hc14
     refine vcK ?_
     simp -implicitDefEqProofs only [go_sem]
     have er := Option.some.inj h
     subst er
     try simp -implicitDefEqProofs (maxSteps := 1000000) (disch := omega) [go_sem]
     refine retG_pureA (Ext.refl hw) hK (e := by first | with_reducible rfl | (simp -implicitDefEqProofs (maxSteps := 1000000) (disch := omega) [go_sem] <;> omega))
    ·refine IWp_block ?_
     refine IWp_loopF (fun (s : Int) tm' H' => H = H' ∧ tm' 0 = .v (str a0) ∧ tm' 3 = .v (.int .i64 s)) hl12q ?_ ?_
     ·refine .same ⟨rfl, ?_, ?_⟩ <;> first | with_reducible rfl | with_reducible assumption | (simp -implicitDefEqProofs (maxSteps := 1000000) (disch := omega) [go_sem] <;> omega)
     ·rintro I12 hI12 v13 x12 tm12 H12 ⟨rfl, t0_12, t3_12⟩ h hret12
      replace h : F49_b12 a0 v13 = some x12 := h
      unfold F49_b12 at h
      refine IWp_seqF fun cb hc15 => ?_
      refine IWp_seqF fun cb hc16 => ?_
      refine vcK ?_
      try simp -implicitDefEqProofs (maxSteps := 1000000) (disch := omega) [go_sem, t0_12, t3_12]
      subst hc16
      refine IWp_cond_i h (by first | with_reducible rfl | (simp -implicitDefEqProofs (maxSteps := 1000000) (disch := omega) [go_sem, t0_12, t3_12] <;> omega)) rfl ?_ ?_
      ·intro c17 h
       try simp -implicitDefEqProofs (disch := omega) at c17
       refine vcK ?_
       simp -implicitDefEqProofs only [go_sem]
       subst hc15
       refine IWp_seqF fun cb hc18 => ?_
       refine IWp_block ?_
       refine IWp_seqF fun cb hc19 => ?_
       refine vcK ?_
       obtain ⟨g20, h⟩ := gd_some.1 h
       try simp -implicitDefEqProofs (disch := omega) at g20
       try simp -implicitDefEqProofs (maxSteps := 1000000) (disch := omega) [go_sem, t0_12, t3_12]
       obtain ⟨x21, hx21, h⟩ := bind_some' h
       refine ICalls.eqA (args' := [.v (.int .u8 (((a0.getD v13.toNat 0).toNat : Int)))]) (by first | with_reducible rfl | (simp -implicitDefEqProofs (maxSteps := 1000000) (disch := omega) [go_sem, t0_12, t3_12] <;> omega)) (F87_ok (((a0.getD v13.toNat 0).toNat : Int)) hx21 ?_)
       try simp -implicitDefEqProofs (maxSteps := 1000000) (disch := omega) [go_sem, t0_12, t3_12]
       refine splitG_f h (by first | with_reducible rfl | (simp -implicitDefEqProofs (maxSteps := 1000000) (disch := omega) [go_sem, t0_12, t3_12] <;> omega)) ?_ ?_
       ·intro c28 h
        try simp -implicitDefEqProofs (disch := omega) at c28
        try simp -implicitDefEqProofs (maxSteps := 1000000) (disch := omega) [go_sem, t0_12, t3_12]
        refine splitG_f h (by first | with_reducible rfl | (simp -implicitDefEqProofs (maxSteps := 1000000) (disch := omega) [go_sem, t0_12, t3_12] <;> omega)) ?_ ?_
        ·intro c27 h
         try simp -implicitDefEqProofs (disch := omega) at c27
         try simp -implicitDefEqProofs (maxSteps := 1000000) (disch := omega) [go_sem, t0_12, t3_12]
         subst hc19
         refine IWp_cond_i h (by first | with_reducible rfl | (simp -implicitDefEqProofs (maxSteps := 1000000) (disch := omega) [go_sem, t0_12, t3_12] <;> omega)) rfl ?_ ?_
         ·intro c22 h
          try simp -implicitDefEqProofs (disch := omega) at c22
          refine IWp_seqF fun cb hc23 => ?_
          refine vcK ?_
          try simp -implicitDefEqProofs (maxSteps := 1000000) (disch := omega) [go_sem, t0_12, t3_12]
          subst hc23
          refine vcK ?_
          simp -implicitDefEqProofs only [go_sem]
          have e12 := Option.some.inj h
          subst e12
          have e12 := hret12 _ rfl
          subst e12
          replace h : some false = some r := hk12
          have er := Option.some.inj h
          subst er
          try simp -implicitDefEqProofs (maxSteps := 1000000) (disch := omega) [go_sem, t0_12, t3_12]
          refine retG_pureA (Ext.refl hw) hK (e := by first | with_reducible rfl | (simp -implicitDefEqProofs (maxSteps := 1000000) (disch := omega) [go_sem, t0_12, t3_12] <;> omega))
         ·intro c22 h
          try simp -implicitDefEqProofs (disch := omega) at c22
          refine vcK ?_
          simp -implicitDefEqProofs only [go_sem]
          subst hc18
          refine vcK ?_
          try simp -implicitDefEqProofs (maxSteps := 1000000) (disch := omega) [go_sem, t0_12, t3_12]
          have e12 := Option.some.inj h
          subst e12
          refine loopN_mk hI12 (IntKind.i64.wrap (v13 + 1)) ?_
          refine .same ⟨rfl, ?_, ?_⟩ <;> first | with_reducible rfl | with_reducible assumption | (simp -implicitDefEqProofs (maxSteps := 1000000) (disch := omega) [go_sem, t0_12, t3_12] <;> omega)
        ·intro c27 h
         try simp -implicitDefEqProofs (disch := omega) at c27
         try simp -implicitDefEqProofs (maxSteps := 1000000) (disch := omega) [go_sem, t0_12, t3_12]
         refine splitG_f h (by first | with_reducible rfl | (simp -implicitDefEqProofs (maxSteps := 1000000) (disch := omega) [go_sem, t0_12, t3_12] <;> omega)) ?_ ?_
         ·intro c26 h
          try simp -implicitDefEqProofs (disch := omega) at c26
          try simp -implicitDefEqProofs (maxSteps := 1000000) (disch := omega) [go_sem, t0_12, t3_12]
          subst hc19
          refine IWp_cond_i h (by first | with_reducible rfl | (simp -implicitDefEqProofs (maxSteps := 1000000) (disch := omega) [go_sem, t0_12, t3_12] <;> omega)) rfl ?_ ?_
          ·intro c24 h
           try simp -implicitDefEqProofs (disch := omega) at c24
           refine IWp_seqF fun cb hc25 => ?_
           refine vcK ?_
           try simp -implicitDefEqProofs (maxSteps := 1000000) (disch := omega) [go_sem, t0_12, t3_12]
           subst hc25
           refine vcK ?_
           simp -implicitDefEqProofs only [go_sem]
           have e12 := Option.some.inj h
           subst e12
           have e12 := hret12 _ rfl
           subst e12
           replace h : some false = some r := hk12
           have er := Option.some.inj h
           subst er
           try simp -implicitDefEqProofs (maxSteps := 1000000) (disch := omega) [go_sem, t0_12, t3_12]
           refine retG_pureA (Ext.refl hw) hK (e := by first | with_reducible rfl | (simp -implicitDefEqProofs (maxSteps := 1000000) (disch := omega) [go_sem, t0_12, t3_12] <;> omega))
          ·intro c24 h
           try simp -implicitDefEqProofs (disch := omega) at c24
           refine vcK ?_
           simp -implicitDefEqProofs only [go_sem]
           subst hc18
           refine vcK ?_
           try simp -implicitDefEqProofs (maxSteps := 1000000) (disch := omega) [go_sem, t0_12, t3_12]
           have e12 := Option.some.inj h
           subst e12
           refine loopN_mk hI12 (IntKind.i64.wrap (v13 + 1)) ?_
           refine .same ⟨rfl, ?_, ?_⟩ <;> first | with_reducible rfl | with_reducible assumption | (simp -implicitDefEqProofs (maxSteps := 1000000) (disch := omega) [go_sem, t0_12, t3_12] <;> omega)
         ·intro c26 h
          try simp -implicitDefEqProofs (disch := omega) at c26
          try simp -implicitDefEqProofs (maxSteps := 1000000) (disch := omega) [go_sem, t0_12, t3_12]
          subst hc19
          refine IWp_cond_f (by first | with_reducible rfl | (simp -implicitDefEqProofs (maxSteps := 1000000) (disch := omega) [go_sem, t0_12, t3_12] <;> omega)) rfl ?_
          refine vcK ?_
          simp -implicitDefEqProofs only [go_sem]
          subst hc18
          refine vcK ?_
          try simp -implicitDefEqProofs (maxSteps := 1000000) (disch := omega) [go_sem, t0_12, t3_12]
          have e12 := Option.some.inj h
          subst e12
          refine loopN_mk hI12 (IntKind.i64.wrap (v13 + 1)) ?_
          refine .same ⟨rfl, ?_, ?_⟩ <;> first | with_reducible rfl | with_reducible assumption | (simp -implicitDefEqProofs (maxSteps := 1000000) (disch := omega) [go_sem, t0_12, t3_12] <;> omega)
       ·intro c28 h
        try simp -implicitDefEqProofs (disch := omega) at c28
        try simp -implicitDefEqProofs (maxSteps := 1000000) (disch := omega) [go_sem, t0_12, t3_12]
        subst hc19
        refine IWp_cond_f (by first | with_reducible rfl | (simp -implicitDefEqProofs (maxSteps := 1000000) (disch := omega) [go_sem, t0_12, t3_12] <;> omega)) rfl ?_
        refine vcK ?_
        simp -implicitDefEqProofs only [go_sem]
        subst hc18
        refine vcK ?_
        try simp -implicitDefEqProofs (maxSteps := 1000000) (disch := omega) [go_sem, t0_12, t3_12]
        have e12 := Option.some.inj h
        subst e12
        refine loopN_mk hI12 (IntKind.i64.wrap (v13 + 1)) ?_
        refine .same ⟨rfl, ?_, ?_⟩ <;> first | with_reducible rfl | with_reducible assumption | (simp -implicitDefEqProofs (maxSteps := 1000000) (disch := omega) [go_sem, t0_12, t3_12] <;> omega)
      ·intro c17 h
       try simp -implicitDefEqProofs (disch := omega) at c17
       refine vcK ?_
       simp -implicitDefEqProofs only [go_sem]
       have e12 := Option.some.inj h
       subst e12
       have hy12 := hret12 _ rfl
       refine hc12 _ _ ?_
       refine .same ⟨hy12, rfl⟩

/-! cardcase/cardcaseref06.Small -/

noncomputable def F50_k5 (v8 : List UInt8) : Option (List UInt8) :=
 some v8

noncomputable def F50_b5 (a0 : List UInt8) (v6 : List UInt8) (v7 : Int) : Option (((List UInt8) × Int) ⊕ (List UInt8)) :=
 if v7 < (a0.length : Int) then (gd (0 ≤ v7 ∧ v7 < a0.length) (if 65 ≤ (((a0.getD v7.toNat 0).toNat : Int)) then (if (((a0.getD v7.toNat 0).toNat : Int)) ≤ 90 then (gd (0 ≤ (IntKind.u8.wrap ((((a0.getD v7.toNat 0).toNat : Int)) + 32)) ∧ (IntKind.u8.wrap ((((a0.getD v7.toNat 0).toNat : Int)) + 32)) ≤ 255) (gd ((v6.length : Int) + ([UInt8.ofNat (IntKind.u8.wrap ((((a0.getD v7.toNat 0).toNat : Int)) + 32)).toNat]).length ≤ 9223372036854775807) (some (.inl ((v6 ++ ([UInt8.ofNat (IntKind.u8.wrap ((((a0.getD v7.toNat 0).toNat : Int)) + 32)).toNat]), IntKind.i64.wrap (v7 + 1))))))) else (gd (0 ≤ (((a0.getD v7.toNat 0).toNat : Int)) ∧ (((a0.getD v7.toNat 0).toNat : Int)) ≤ 255) (gd ((v6.length : Int) + ([UInt8.ofNat (((a0.getD v7.toNat 0).toNat : Int)).toNat]).length ≤ 9223372036854775807) (some (.inl ((v6 ++ ([UInt8.ofNat (((a0.getD v7.toNat 0).toNat : Int)).toNat]), IntKind.i64.wrap (v7 + 1)))))))) else (gd (0 ≤ (((a0.getD v7.toNat 0).toNat : Int)) ∧ (((a0.getD v7.toNat 0).toNat : Int)) ≤ 255) (gd ((v6.length : Int) + ([UInt8.ofNat (((a0.getD v7.toNat 0).toNat : Int)).toNat]).length ≤ 9223372036854775807) (some (.inl ((v6 ++ ([UInt8.ofNat (((a0.getD v7.toNat 0).toNat : Int)).toNat]), IntKind.i64.wrap (v7 + 1))))))))) else (some (.inr v6))

noncomputable def F50 (a0 : List UInt8) : Option (List UInt8) :=
 (loopO (fun (s : (List UInt8) × Int) => F50_b5 a0 s.1 s.2) ([], 0)).bind fun (e : (List UInt8)) => F50_k5 e

set_option maxHeartbeats 8000000 in
set_option pp.deepTerms false in
set_option maxRecDepth 60000 in
theorem F50_ok {H : IHeap} {K : IEnd → IHeap → Prop} (a0 : List UInt8) {r : (List UInt8)} (h : F50 a0 = some r) (hK : K (.ret (.v (str r))) H) : ICalls prog 50 [.v (str a0)] H K := by
 refine ICalls_iwp (N := 29) func50 (by kernel_rfl) rfl (by kernel_rfl) (by kernel_rfl) fun cb hcb hw hbd hnb => ?_
 clear hbd hnb
 subst hcb
 unfold F50 at h
 refine IWp_seqF fun cb hc1 => ?_
 refine vcK ?_
 try simp -implicitDefEqProofs (maxSteps := 1000000) (disch := omega) [go_sem]
 subst hc1
 refine IWp_seqF fun cb hc2 => ?_
 refine vcK ?_
 try simp -implicitDefEqProofs (maxSteps := 1000000) (disch := omega) [go_sem]
 subst hc2
 refine IWp_seqF fun cb hc3 => ?_
 refine IWp_seqF fun cb hc4 => ?_
 refine vcK ?_
 try simp -implicitDefEqProofs (maxSteps := 1000000) (disch := omega) [go_sem]
 subst hc4
 obtain ⟨y5, hl5q, hk5⟩ := bind_some' h
 refine IWp_tailC (fun tm' H' => ∃ v8 : List UInt8, v8 = y5 ∧ H = H' ∧ tm' 3 = .v (str v8)) ?_ fun cb hc5 => ?_
 ·rintro tm5e H5e ⟨v8, rfl, rfl, t3_5e⟩
  have h : F50_k5 v8 = some r := hk5
  unfold F50_k5 at h
  simp -implicitDefEqProofs only [go_sem]
  subst hc3
  refine IWp_seqF fun cb hc9 => ?_
  refine vcK ?_
  try simp -implicitDefEqProofs (maxSteps := 1000000) (disch := omega) [go_sem, t3_5e]
  subst hc9
  refine vcK ?_
  simp -implicitDefEqProofs only [go_sem]
  have er := Option.some.inj h
  subst er
  try simp -implicitDefEqProofs (maxSteps := 1000000) (disch := omega) [go_sem, t3_5e]
  refine retG_pureA (Ext.refl hw) hK (e := by first | with_reducible rfl | (simp -implicitDefEqProofs (maxSteps := 1000000) (disch := omega) [go_sem, t3_5e] <;> omega))
 ·refine IWp_block ?_
  refine IWp_loopF (fun (s : (List UInt8) × Int) tm' H' => H = H' ∧ tm' 0 = .v (str a0) ∧ tm' 3 = .v (str s.1) ∧ tm' 4 = .v (.int .i64 s.2)) hl5q ?_ ?_
  ·refine .same ⟨rfl, ?_, ?_, ?_⟩ <;> first | with_reducible rfl | with_reducible assumption | (simp -implicitDefEqProofs (maxSteps := 1000000) (disch := omega) [go_sem] <;> omega)
  ·rintro I5 hI5 ⟨v6, v7⟩ x5 tm5 H5 ⟨rfl, t0_5, t3_5, t4_5⟩ h hret5
   replace h : F50_b5 a0 v6 v7 = some x5 := h
   unfold F50_b5 at h
   refine IWp_seqF fun cb hc10 => ?_
   refine IWp_seqF fun cb hc11 => ?_
   refine vcK ?_
   try simp -implicitDefEqProofs (maxSteps := 1000000) (disch := omega) [go_sem, t0_5, t3_5, t4_5]
   subst hc11
   refine IWp_cond_i h (by first | with_reducible rfl | (simp -implicitDefEqProofs (maxSteps := 1000000) (disch := omega) [go_sem, t0_5, t3_5, t4_5] <;> omega)) rfl ?_ ?_
   ·intro c12 h
    try simp -implicitDefEqProofs (disch := omega) at c12
    refine vcK ?_
    simp -implicitDefEqProofs only [go_sem]
    subst hc10
    refine IWp_seqF fun cb hc13 => ?_
    refine IWp_block ?_
    refine IWp_seqF fun cb hc14 => ?_
    refine vcK ?_
    obtain ⟨g15, h⟩ := gd_some.1 h
    try simp -implicitDefEqProofs (disch := omega) at g15
    try simp -implicitDefEqProofs (maxSteps := 1000000) (disch := omega) [go_sem, t0_5, t3_5, t4_5]
    subst hc14
    refine IWp_seqF fun cb hc16 => ?_
    refine IWp_seqF fun cb hc17 => ?_
    refine vcK ?_
    try simp -implicitDefEqProofs (maxSteps := 1000000) (disch := omega) [go_sem, t0_5, t3_5, t4_5]
    refine splitG_f h (by first | with_reducible rfl | (simp -implicitDefEqProofs (maxSteps := 1000000) (disch := omega) [go_sem, t0_5, t3_5, t4_5] <;> omega)) ?_ ?_
    ·intro c25 h
     try simp -implicitDefEqProofs (disch := omega) at c25
     try simp -implicitDefEqProofs (maxSteps := 1000000) (disch := omega) [go_sem, t0_5, t3_5, t4_5]
     subst hc17
     refine IWp_cond_i h (by first | with_reducible rfl | (simp -implicitDefEqProofs (maxSteps := 1000000) (disch := omega) [go_sem, t0_5, t3_5, t4_5] <;> omega)) rfl ?_ ?_
     ·intro c18 h
      try simp -implicitDefEqProofs (disch := omega) at c18
      refine vcK ?_
      try simp -implicitDefEqProofs (maxSteps := 1000000) (disch := omega) [go_sem, t0_5, t3_5, t4_5]
      subst hc16
      refine vcK ?_
      obtain ⟨g19, h⟩ := gd_some.1 h
      try simp -implicitDefEqProofs (disch := omega) at g19
      obtain ⟨g20, h⟩ := gd_some.1 h
      try simp -implicitDefEqProofs (disch := omega) at g20
      try simp -implicitDefEqProofs (maxSteps := 1000000) (disch := omega) [go_sem, t0_5, t3_5, t4_5]
      subst hc13
      refine vcK ?_
      try simp -implicitDefEqProofs (maxSteps := 1000000) (disch := omega) [go_sem, t0_5, t3_5, t4_5]
      have e5 := Option.some.inj h
      subst e5
      refine loopN_mk hI5 ((v6 ++ ([UInt8.ofNat (IntKind.u8.wrap ((((a0.getD v7.toNat 0).toNat : Int)) + 32)).toNat]), IntKind.i64.wrap (v7 + 1))) ?_
      refine .same ⟨rfl, ?_, ?_, ?_⟩ <;> first | with_reducible rfl | with_reducible assumption | (simp -implicitDefEqProofs (maxSteps := 1000000) (disch := omega) [go_sem, t0_5, t3_5, t4_5] <;> omega)
     ·intro c18 h
      try simp -implicitDefEqProofs (disch := omega) at c18
      refine vcK ?_
      simp -implicitDefEqProofs only [go_sem]
      subst hc16
      refine vcK ?_
      obtain ⟨g21, h⟩ := gd_some.1 h
      try simp -implicitDefEqProofs (disch := omega) at g21
      obtain ⟨g22, h⟩ := gd_some.1 h
      try simp -implicitDefEqProofs (disch := omega) at g22
      try simp -implicitDefEqProofs (maxSteps := 1000000) (disch := omega) [go_sem, t0_5, t3_5, t4_5]
      subst hc13
      refine vcK ?_
      try simp -implicitDefEqProofs (maxSteps := 1000000) (disch := omega) [go_sem, t0_5, t3_5, t4_5]
      have e5 := Option.some.inj h
      subst e5
      refine loopN_mk hI5 ((v6 ++ ([UInt8.ofNat (((a0.getD v7.toNat 0).toNat : Int)).toNat]), IntKind.i64.wrap (v7 + 1))) ?_
      refine .same ⟨rfl, ?_, ?_, ?_⟩ <;> first | with_reducible rfl | with_reducible assumption | (simp -implicitDefEqProofs (maxSteps := 1000000) (disch := omega) [go_sem, t0_5, t3_5, t4_5] <;> omega)
    ·intro c25 h
     try simp -implicitDefEqProofs (disch := omega) at c25
     try simp -implicitDefEqProofs (maxSteps := 1000000) (disch := omega) [go_sem, t0_5, t3_5, t4_5]
     subst hc17
     refine IWp_cond_f (by first | with_reducible rfl | (simp -implicitDefEqProofs (maxSteps := 1000000) (disch := omega) [go_sem, t0_5, t3_5, t4_5] <;> omega)) rfl ?_
     refine vcK ?_
     simp -implicitDefEqProofs only [go_sem]
     subst hc16
     refine vcK ?_
     obtain ⟨g23, h⟩ := gd_some.1 h
     try simp -implicitDefEqProofs (disch := omega) at g23
     obtain ⟨g24, h⟩ := gd_some.1 h
     try simp -implicitDefEqProofs (disch := omega) at g24
     try simp -implicitDefEqProofs (maxSteps := 1000000) (disch := omega) [go_sem, t0_5, t3_5, t4_5]
     subst hc13
     refine vcK ?_
     try simp -implicitDefEqProofs (maxSteps := 1000000) (disch := omega) [go_sem, t0_5, t3_5, t4_5]
     have e5 := Option.some.inj h
     subst e5
     refine loopN_mk hI5 ((v6 ++ ([UInt8.ofNat (((a0.getD v7.toNat 0).toNat : Int)).toNat]), IntKind.i64.wrap (v7 + 1))) ?_
     refine .same ⟨rfl, ?_, ?_, ?_⟩ <;> first | with_reducible rfl | with_reducible assumption | (simp -implicitDefEqProofs (maxSteps := 1000000) (disch := omega) [go_sem, t0_5, t3_5, t4_5] <;> omega)
   ·intro c12 h
    try simp -implicitDefEqProofs (disch := omega) at c12
    refine vcK ?_
    simp -implicitDefEqProofs only [go_sem]
    have e5 := Option.some.inj h
    subst e5
    have hy5 := hret5 _ rfl
    refine hc5 _ _ ?_
    refine .same ⟨v6, hy5, rfl, by first | with_reducible rfl | with_reducible assumption | (simp -implicitDefEqProofs (maxSteps := 1000000) (disch := omega) [go_sem, t0_5, t3_5, t4_5] <;> omega)⟩

/-! cardcase/cardcaseref07.values -/

noncomputable def F51_k4  : Option Bool :=
 some true

noncomputable def F51_b4 (a0 : List (List UInt8)) (v5 : Int) : Option (Int ⊕ (Unit ⊕ Bool)) :=
 if v5 < (a0.length : Int) then (gd (0 ≤ v5 ∧ v5 < a0.length) (if (((a0.getD v5.toNat []).length : Int)) < 1 then (some (.inr (.inr false))) else (if 2048 < (((a0.getD v5.toNat []).length : Int)) then (some (.inr (.inr false))) else (some (.inl (IntKind.i64.wrap (v5 + 1))))))) else (some (.inr (.inl ())))

noncomputable def F51 (a0 : List (List UInt8)) : Option Bool :=
 (loopO (fun (s : Int) => F51_b4 a0 s) 0).bind fun y => Sum.elim (fun (e : Unit) => F51_k4) (fun (q : Bool) => some q) y

set_option maxHeartbeats 8000000 in
set_option pp.deepTerms false in
set_option maxRecDepth 60000 in
theorem F51_ok {H : IHeap} {K : IEnd → IHeap → Prop} (a0 : List (List UInt8)) {r : Bool} (h : F51 a0 = some r) (hK : K (.ret (.v (.bool r))) H) : ICalls prog 51 [.sl 1 (a0.map fun x => [.v (str x)])] H K := by
 refine ICalls_iwp (N := 24) func51 (by kernel_rfl) rfl (by kernel_rfl) (by kernel_rfl) fun cb hcb hw hbd hnb => ?_
 clear hbd hnb
 subst hcb
 unfold F51 at h
 refine IWp_seqF fun cb hc1 => ?_
 refine vcK ?_
 try simp -implicitDefEqProofs (maxSteps := 1000000) (disch := omega) [go_sem]
 subst hc1
 refine IWp_seqF fun cb hc2 => ?_
 refine IWp_seqF fun cb hc3 => ?_
 refine vcK ?_
 try simp -implicitDefEqProofs (maxSteps := 1000000) (disch := omega) [go_sem]
 subst hc3
 obtain ⟨y4, hl4q, hk4⟩ := bind_some' h
 refine IWp_tailC (fun tm' H' => .inl () = y4 ∧ H = H') ?_ fun cb hc4 => ?_
 ·rintro tm4e H4e ⟨rfl, rfl⟩
  have h : F51_k4 = some r := hk4
  unfold F51_k4 at h
  simp -implicitDefEqProofs only [go_sem]
  subst hc2
  refine IWp_seqF fun cb hc6 => ?_
  refine vcK ?_
  try simp -implicitDefEqProofs (maxSteps := 1000000) (disch := omega) [go_sem]
  subst hc6
  refine vcK ?_
  simp -implicitDefEqProofs only [go_sem]
  have er := Option.some.inj h
  subst er
  try simp -implicitDefEqProofs (maxSteps := 1000000) (disch := omega) [go_sem]
  refine retG_pureA (Ext.refl hw) hK (e := by first | with_reducible rfl | (simp -implicitDefEqProofs (maxSteps := 1000000) (disch := omega) [go_sem] <;> omega))
 ·refine IWp_block ?_
  refine IWp_loopF (fun (s : Int) tm' H' => H = H' ∧ tm' 0 = .sl 1 (a0.map fun x => [.v (str x)]) ∧ tm' 3 = .v (.int .i64 s)) hl4q ?_ ?_
  ·refine .same ⟨rfl, ?_, ?_⟩ <;> first | with_reducible rfl | with_reducible assumption | (simp -implicitDefEqProofs (maxSteps := 1000000) (disch := omega) [go_sem] <;> omega)
  ·rintro I4 hI4 v5 x4 tm4 H4 ⟨rfl, t0_4, t3_4⟩ h hret4
   replace h : F51_b4 a0 v5 = some x4 := h
   unfold F51_b4 at h
   refine IWp_seqF fun cb hc7 => ?_
   refine IWp_seqF fun cb hc8 => ?_
   refine vcK ?_
   try simp -implicitDefEqProofs (maxSteps := 1000000) (disch := omega) [go_sem, t0_4, t3_4]
   subst hc8
   refine IWp_cond_i h (by first | with_reducible rfl | (simp -implicitDefEqProofs (maxSteps := 1000000) (disch := omega) [go_sem, t0_4, t3_4] <;> omega)) rfl ?_ ?_
   ·intro c9 h
    try simp -implicitDefEqProofs (disch := omega) at c9
    refine vcK ?_
    simp -implicitDefEqProofs only [go_sem]
    subst hc7
    refine IWp_seqF fun cb hc10 => ?_
    refine IWp_block ?_
    refine IWp_seqF fun cb hc11 => ?_
    refine vcK ?_
    obtain ⟨g12, h⟩ := gd_some.1 h
    try simp -implicitDefEqProofs (disch := omega) at g12
    try simp -implicitDefEqProofs (maxSteps := 1000000) (disch := omega) [go_sem, t0_4, t3_4]
    refine splitG_f h (by first | with_reducible rfl | (simp -implicitDefEqProofs (maxSteps := 1000000) (disch := omega) [go_sem, t0_4, t3_4] <;> omega)) ?_ ?_
    ·intro c16 h
     try simp -implicitDefEqProofs (disch := omega) at c16
     try simp -implicitDefEqProofs (maxSteps := 1000000) (disch := omega) [go_sem, t0_4, t3_4]
     subst hc11
     refine IWp_cond_t (by first | with_reducible rfl | (simp -implicitDefEqProofs (maxSteps := 1000000) (disch := omega) [go_sem, t0_4, t3_4] <;> omega)) rfl ?_
     refine IWp_seqF fun cb hc13 => ?_
     refine vcK ?_
     try simp -implicitDefEqProofs (maxSteps := 1000000) (disch := omega) [go_sem, t0_4, t3_4]
     subst hc13
     refine vcK ?_
     simp -implicitDefEqProofs only [go_sem]
     have e4 := Option.some.inj h
     subst e4
     have e4 := hret4 _ rfl
     subst e4
     replace h : some false = some r := hk4
     have er := Option.some.inj h
     subst er
     try simp -implicitDefEqProofs (maxSteps := 1000000) (disch := omega) [go_sem, t0_4, t3_4]
     refine retG_pureA (Ext.refl hw) hK (e := by first | with_reducible rfl | (simp -implicitDefEqProofs (maxSteps := 1000000) (disch := omega) [go_sem, t0_4, t3_4] <;> omega))
    ·intro c16 h
     try simp -implicitDefEqProofs (disch := omega) at c16
     try simp -implicitDefEqProofs (maxSteps := 1000000) (disch := omega) [go_sem, t0_4, t3_4]
     subst hc11
     refine IWp_cond_i h (by first | with_reducible rfl | (simp -implicitDefEqProofs (maxSteps := 1000000) (disch := omega) [go_sem, t0_4, t3_4] <;> omega)) rfl ?_ ?_
     ·intro c14 h
      try simp -implicitDefEqProofs (disch := omega) at c14
      refine IWp_seqF fun cb hc15 => ?_
      refine vcK ?_
      try simp -implicitDefEqProofs (maxSteps := 1000000) (disch := omega) [go_sem, t0_4, t3_4]
      subst hc15
      refine vcK ?_
      simp -implicitDefEqProofs only [go_sem]
      have e4 := Option.some.inj h
      subst e4
      have e4 := hret4 _ rfl
      subst e4
      replace h : some false = some r := hk4
      have er := Option.some.inj h
      subst er
      try simp -implicitDefEqProofs (maxSteps := 1000000) (disch := omega) [go_sem, t0_4, t3_4]
      refine retG_pureA (Ext.refl hw) hK (e := by first | with_reducible rfl | (simp -implicitDefEqProofs (maxSteps := 1000000) (disch := omega) [go_sem, t0_4, t3_4] <;> omega))
     ·intro c14 h
      try simp -implicitDefEqProofs (disch := omega) at c14
      refine vcK ?_
      simp -implicitDefEqProofs only [go_sem]
      subst hc10
      refine vcK ?_
      try simp -implicitDefEqProofs (maxSteps := 1000000) (disch := omega) [go_sem, t0_4, t3_4]
      have e4 := Option.some.inj h
      subst e4
      refine loopN_mk hI4 (IntKind.i64.wrap (v5 + 1)) ?_
      refine .same ⟨rfl, ?_, ?_⟩ <;> first | with_reducible rfl | with_reducible assumption | (simp -implicitDefEqProofs (maxSteps := 1000000) (disch := omega) [go_sem, t0_4, t3_4] <;> omega)
   ·intro c9 h
    try simp -implicitDefEqProofs (disch := omega) at c9
    refine vcK ?_
    simp -implicitDefEqProofs only [go_sem]
    have e4 := Option.some.inj h
    subst e4
    have hy4 := hret4 _ rfl
    refine hc4 _ _ ?_
    refine .same ⟨hy4, rfl⟩

/-! cardcase/cardcaseref07.Right -/

noncomputable def F18_k8  : Option Bool :=
 some true

noncomputable def F18_k19 (v9 : Int) : Option (Int ⊕ (Unit ⊕ Bool)) :=
 some (.inl (IntKind.i64.wrap (v9 + 1)))

noncomputable def F18_b19 (a0 : List S50) (v9 : Int) (v20 : Int) : Option (Int ⊕ (Unit ⊕ Bool)) :=
 if v20 < ((((a0.getD v9.toNat S50.zero).fValues).length : Int)) then (gd (0 ≤ (IntKind.i64.wrap (v20 - 1)) ∧ (IntKind.i64.wrap (v20 - 1)) < ((a0.getD v9.toNat S50.zero).fValues).length) (gd (0 ≤ v20 ∧ v20 < ((a0.getD v9.toNat S50.zero).fValues).length) (if ¬ Op.bytesLess (((a0.getD v9.toNat S50.zero).fValues).getD (IntKind.i64.wrap (v20 - 1)).toNat []) (((a0.getD v9.toNat S50.zero).fValues).getD v20.toNat []) = true then (some (.inr (.inr false))) else (some (.inl (IntKind.i64.wrap (v20 + 1))))))) else (some (.inr (.inl ())))

noncomputable def F18_k17 (a0 : List S50) (v9 : Int) : Option (Int ⊕ (Unit ⊕ Bool)) :=
 (loopO (fun (s : Int) => F18_b19 a0 v9 s) 1).bind fun y => Sum.elim (fun (e : Unit) => F18_k19 v9) (fun (q : Bool) => some (.inr (.inr q))) y

noncomputable def F18_b8 (a0 : List S50) (v9 : Int) : Option (Int ⊕ (Unit ⊕ Bool)) :=
 if v9 < (a0.length : Int) then (gd (0 ≤ v9 ∧ v9 < a0.length) ((F49 ((a0.getD v9.toNat S50.zero).fName)).bind fun (x31 : Bool) => if ¬ (x31 = true) then (some (.inr (.inr false))) else ((F50 ((a0.getD v9.toNat S50.zero).fName)).bind fun (x33 : (List UInt8)) => if ¬ x33 = ((a0.getD v9.toNat S50.zero).fName) then (some (.inr (.inr false))) else (if ((((a0.getD v9.toNat S50.zero).fValues).length : Int)) < 1 then (some (.inr (.inr false))) else (if 16 < ((((a0.getD v9.toNat S50.zero).fValues).length : Int)) then (some (.inr (.inr false))) else ((F51 ((a0.getD v9.toNat S50.zero).fValues)).bind fun (x37 : Bool) => if ¬ (x37 = true) then (some (.inr (.inr false))) else (if 0 < v9 then (gd (0 ≤ (IntKind.i64.wrap (v9 - 1)) ∧ (IntKind.i64.wrap (v9 - 1)) < a0.length) (if ¬ Op.bytesLess ((a0.getD (IntKind.i64.wrap (v9 - 1)).toNat S50.zero).fName) ((a0.getD v9.toNat S50.zero).fName) = true then (some (.inr (.inr false))) else (F18_k17 a0 v9))) else (F18_k17 a0 v9)))))))) else (some (.inr (.inl ())))

noncomputable def F18 (a0 : List S50) : Option Bool :=
 if 24 < (a0.length : Int) then (some false) else ((loopO (fun (s : Int) => F18_b8 a0 s) 0).bind fun y => Sum.elim (fun (e : Unit) => F18_k8) (fun (q : Bool) => some q) y)

set_option maxHeartbeats 8000000 in
set_option pp.deepTerms false in
set_option maxRecDepth 60000 in
theorem F18_ok {H : IHeap} {K : IEnd → IHeap → Prop} (a0 : List S50) {r : Bool} (h : F18 a0 = some r) (hK : K (.ret (.v (.bool r))) H) : ICalls prog 18 [.sl 2 (a0.map fun x => [.v (str x.fName), .sl 1 (x.fValues.map fun x => [.v (str x)])])] H K := by
 refine ICalls_iwp (N := 83) func18 (by kernel_rfl) rfl (by kernel_rfl) (by kernel_rfl) fun cb hcb hw hbd hnb => ?_
 clear hbd hnb
 subst hcb
 unfold F18 at h
 refine IWp_seqF fun cb hc1 => ?_
 refine vcK ?_
 try simp -implicitDefEqProofs (maxSteps := 1000000) (disch := omega) [go_sem]
 subst hc1
 refine IWp_seqF fun cb hc2 => ?_
 refine IWp_seqF fun cb hc3 => ?_
 refine vcK ?_
 try simp -implicitDefEqProofs (maxSteps := 1000000) (disch := omega) [go_sem]
 subst hc3
 refine IWp_cond_i h (by first | with_reducible rfl | (simp -implicitDefEqProofs (maxSteps := 1000000) (disch := omega) [go_sem] <;> omega)) rfl ?_ ?_
 ·intro c4 h
  try simp -implicitDefEqProofs (disch := omega) at c4
  refine IWp_seqF fun cb hc5 => ?_
  refine vcK ?_
  try simp -implicitDefEqProofs (maxSteps := 1000000) (disch := omega) [go_sem]
  subst hc5
  refine vcK ?_
  simp -implicitDefEqProofs only [go_sem]
  have er := Option.some.inj h
  subst er
  try simp -implicitDefEqProofs (maxSteps := 1000000) (disch := omega) [go_sem]
  refine retG_pureA (Ext.refl hw) hK (e := by first | with_reducible rfl | (simp -implicitDefEqProofs (maxSteps := 1000000) (disch := omega) [go_sem] <;> omega))
 ·intro c4 h
  try simp -implicitDefEqProofs (disch := omega) at c4
  refine vcK ?_
  simp -implicitDefEqProofs only [go_sem]
  subst hc2
  refine IWp_seqF fun cb hc6 => ?_
  refine IWp_seqF fun cb hc7 => ?_
  refine vcK ?_
  try simp -implicitDefEqProofs (maxSteps := 1000000) (disch := omega) [go_sem]
  subst hc7
  obtain ⟨y8, hl8q, hk8⟩ := bind_some' h
  refine IWp_tailC (fun tm' H' => .inl () = y8 ∧ Ext H H' ∧ H.next ≤ H'.next) ?_ fun cb hc8 => ?_
  ·rintro tm8e H8e ⟨rfl, he8e, hl8e⟩
   have h : F18_k8 = some r := hk8
   unfold F18_k8 at h
   simp -implicitDefEqProofs only [go_sem]
   subst hc6
   refine IWp_seqF fun cb hc10 => ?_
   refine vcK ?_
   try simp -implicitDefEqProofs (maxSteps := 1000000) (disch := omega) [go_sem]
   subst hc10
   refine vcK ?_
   simp -implicitDefEqProofs only [go_sem]
   have er := Option.some.inj h
   subst er
   try simp -implicitDefEqProofs (maxSteps := 1000000) (disch := omega) [go_sem]
   refine retG_pureA he8e hK (e := by first | with_reducible rfl | (simp -implicitDefEqProofs (maxSteps := 1000000) (disch := omega) [go_sem] <;> omega))
  ·refine IWp_block ?_
   refine IWp_loopF (fun (s : Int) tm' H' => Ext H H' ∧ H.next ≤ H'.next ∧ tm' 0 = .sl 2 (a0.map fun x => [.v (str x.fName), .sl 1 (x.fValues.map fun x => [.v (str x)])]) ∧ tm' 3 = .v (.int .i64 s)) hl8q ?_ ?_
   ·refine .same ⟨by repeat (first | exact (Ext.refl hw) | refine Ext.new ?_ _ | refine Ext.set ?_ (by first | omega | (simp [go_sem]; done) | (simp [go_sem]; omega)) _ | refine Ext.del ?_ (by first | omega | (simp [go_sem]; done) | (simp [go_sem]; omega))), by first | with_reducible rfl | with_reducible assumption | omega | (simp -implicitDefEqProofs (maxSteps := 1000000) (disch := omega) [go_sem] <;> omega), by first | with_reducible rfl | with_reducible assumption | (simp -implicitDefEqProofs (maxSteps := 1000000) (disch := omega) [go_sem] <;> omega), by first | with_reducible rfl | with_reducible assumption | (simp -implicitDefEqProofs (maxSteps := 1000000) (disch := omega) [go_sem] <;> omega)⟩
   ·rintro I8 hI8 v9 x8 tm8 H8 ⟨he8, hl8, t0_8, t3_8⟩ h hret8
    replace h : F18_b8 a0 v9 = some x8 := h
    unfold F18_b8 at h
    refine IWp_seqF fun cb hc11 => ?_
    refine IWp_seqF fun cb hc12 => ?_
    refine vcK ?_
    try simp -implicitDefEqProofs (maxSteps := 1000000) (disch := omega) [go_sem, t0_8, t3_8]
    subst hc12
    refine IWp_cond_i h (by first | with_reducible rfl | (simp -implicitDefEqProofs (maxSteps := 1000000) (disch := omega) [go_sem, t0_8, t3_8] <;> omega)) rfl ?_ ?_
    ·intro c13 h
     try simp -implicitDefEqProofs (disch := omega) at c13
     refine vcK ?_
     simp -implicitDefEqProofs only [go_sem]
     subst hc11
     refine IWp_seqF fun cb hc14 => ?_
     refine IWp_block ?_
     refine IWp_seqF fun cb hc15 => ?_
     refine vcK ?_
     obtain ⟨g16, h⟩ := gd_some.1 h
     try simp -implicitDefEqProofs (disch := omega) at g16
     try simp -implicitDefEqProofs (maxSteps := 1000000) (disch := omega) [go_sem, t0_8, t3_8]
     subst hc15
     refine IWp_seqC (fun tm' H' => Ext H H' ∧ H8.next + 1 ≤ H'.next ∧ tm' 0 = .sl 2 (a0.map fun x => [.v (str x.fName), .sl 1 (x.fValues.map fun x => [.v (str x)])]) ∧ tm' 3 = .v (.int .i64 v9) ∧ tm' 4 = .p H8.next 0 ∧ H'.obj H8.next = some (.cells ([.v (str ((a0.getD v9.toNat S50.zero).fName)), .sl 1 (((a0.getD v9.toNat S50.zero).fValues).map fun x => [.v (str x)])])) ∧ F18_k17 a0 v9 = some x8) ?_ fun cb hc17 => ?_
     ·rintro tm17 H17 ⟨he17, hl17, t0_17, t3_17, t4_17, ob0_17, h⟩
      unfold F18_k17 at h
      refine IWp_seqF fun cb hc18 => ?_
      refine vcK ?_
      try simp -implicitDefEqProofs (maxSteps := 1000000) (disch := omega) [go_sem, t0_17, t3_17, t4_17, ob0_17]
      subst hc18
      obtain ⟨y19, hl19q, hk19⟩ := bind_some' h
      refine IWp_tailC (fun tm' H' => .inl () = y19 ∧ H17 = H' ∧ tm' 0 = .sl 2 (a0.map fun x => [.v (str x.fName), .sl 1 (x.fValues.map fun x => [.v (str x)])]) ∧ tm' 3 = .v (.int .i64 v9)) ?_ fun cb hc19 => ?_
      ·rintro tm19e H19e ⟨rfl, rfl, t0_19e, t3_19e⟩
       have h : F18_k19 v9 = some x8 := hk19
       unfold F18_k19 at h
       simp -implicitDefEqProofs only [go_sem]
       subst hc14
       refine vcK ?_
       try simp -implicitDefEqProofs (maxSteps := 1000000) (disch := omega) [go_sem, t0_19e, t3_19e, ob0_17]
       have e8 := Option.some.inj h
       subst e8
       refine loopN_mk hI8 (IntKind.i64.wrap (v9 + 1)) ?_
       refine .same ⟨by repeat (first | exact he17 | refine Ext.new ?_ _ | refine Ext.set ?_ (by first | omega | (simp [go_sem]; done) | (simp [go_sem]; omega)) _ | refine Ext.del ?_ (by first | omega | (simp [go_sem]; done) | (simp [go_sem]; omega))), by first | with_reducible rfl | with_reducible assumption | omega | (simp -implicitDefEqProofs (maxSteps := 1000000) (disch := omega) [go_sem, t0_19e, t3_19e, ob0_17] <;> omega), by first | with_reducible rfl | with_reducible assumption | (simp -implicitDefEqProofs (maxSteps := 1000000) (disch := omega) [go_sem, t0_19e, t3_19e, ob0_17] <;> omega), by first | with_reducible rfl | with_reducible assumption | (simp -implicitDefEqProofs (maxSteps := 1000000) (disch := omega) [go_sem, t0_19e, t3_19e, ob0_17] <;> omega)⟩
      ·refine IWp_block ?_
       refine IWp_loopF (fun (s : Int) tm' H' => H17 = H' ∧ tm' 0 = .sl 2 (a0.map fun x => [.v (str x.fName), .sl 1 (x.fValues.map fun x => [.v (str x)])]) ∧ tm' 3 = .v (.int .i64 v9) ∧ tm' 4 = .p H8.next 0 ∧ tm' 5 = .v (.int .i64 s)) hl19q ?_ ?_
       ·refine .same ⟨rfl, ?_, ?_, ?_, ?_⟩ <;> first | with_reducible rfl | with_reducible assumption | (simp -implicitDefEqProofs (maxSteps := 1000000) (disch := omega) [go_sem, t0_17, t3_17, t4_17, ob0_17] <;> omega)
       ·rintro I19 hI19 v20 x19 tm19 H19 ⟨rfl, t0_19, t3_19, t4_19, t5_19⟩ h hret19
        replace h : F18_b19 a0 v9 v20 = some x19 := h
        unfold F18_b19 at h
        refine IWp_seqF fun cb hc21 => ?_
        refine IWp_seqF fun cb hc22 => ?_
        refine vcK ?_
        try simp -implicitDefEqProofs (maxSteps := 1000000) (disch := omega) [go_sem, t0_19, t3_19, t4_19, t5_19, ob0_17]
        subst hc22
        refine IWp_cond_i h (by first | with_reducible rfl | (simp -implicitDefEqProofs (maxSteps := 1000000) (disch := omega) [go_sem, t0_19, t3_19, t4_19, t5_19, ob0_17] <;> omega)) rfl ?_ ?_
        ·intro c23 h
         try simp -implicitDefEqProofs (disch := omega) at c23
         refine vcK ?_
         simp -implicitDefEqProofs only [go_sem]
         subst hc21
         refine IWp_seqF fun cb hc24 => ?_
         refine IWp_block ?_
         refine IWp_seqF fun cb hc25 => ?_
         refine IWp_drawP [] [0, 1, 2, 3, 4, 5, 6, 7, 8, 9, 10, 11] (by kernel_rfl) (by kernel_rfl) (fun _ _ _ _ h => h) ?_
         obtain ⟨g26, h⟩ := gd_some.1 h
         try simp -implicitDefEqProofs (disch := omega) at g26
         obtain ⟨g27, h⟩ := gd_some.1 h
         try simp -implicitDefEqProofs (disch := omega) at g27
         try simp -implicitDefEqProofs (maxSteps := 1000000) (disch := omega) [go_sem, t0_19, t3_19, t4_19, t5_19, ob0_17]
         subst hc25
         refine IWp_cond_i h (by first | with_reducible rfl | (simp -implicitDefEqProofs (maxSteps := 1000000) (disch := omega) [go_sem, t0_19, t3_19, t4_19, t5_19, ob0_17] <;> omega)) rfl ?_ ?_
         ·intro c28 h
          try simp -implicitDefEqProofs (disch := omega) at c28
          refine IWp_seqF fun cb hc29 => ?_
          refine vcK ?_
          try simp -implicitDefEqProofs (maxSteps := 1000000) (disch := omega) [go_sem, t0_19, t3_19, t4_19, t5_19, ob0_17]
          subst hc29
          refine vcK ?_
          simp -implicitDefEqProofs only [go_sem]
          have e19 := Option.some.inj h
          subst e19
          have e19 := hret19 _ rfl
          subst e19
          replace h : some (.inr (.inr false)) = some x8 := hk19
          have e8 := Option.some.inj h
          subst e8
          have e8 := hret8 _ rfl
          subst e8
          replace h : some false = some r := hk8
          have er := Option.some.inj h
          subst er
          try simp -implicitDefEqProofs (maxSteps := 1000000) (disch := omega) [go_sem, t0_19, t3_19, t4_19, t5_19, ob0_17]
          refine retG_pureA he17 hK (e := by first | with_reducible rfl | (simp -implicitDefEqProofs (maxSteps := 1000000) (disch := omega) [go_sem, t0_19, t3_19, t4_19, t5_19, ob0_17] <;> omega))
         ·intro c28 h
          try simp -implicitDefEqProofs (disch := omega) at c28
          refine vcK ?_
          simp -implicitDefEqProofs only [go_sem]
          subst hc24
          refine vcK ?_
          try simp -implicitDefEqProofs (maxSteps := 1000000) (disch := omega) [go_sem, t0_19, t3_19, t4_19, t5_19, ob0_17]
          have e19 := Option.some.inj h
          subst e19
          refine loopN_mk hI19 (IntKind.i64.wrap (v20 + 1)) ?_
          refine .same ⟨rfl, ?_, ?_, ?_, ?_⟩ <;> first | with_reducible rfl | with_reducible assumption | (simp -implicitDefEqProofs (maxSteps := 1000000) (disch := omega) [go_sem, t0_19, t3_19, t4_19, t5_19, ob0_17] <;> omega)
        ·intro c23 h
         try simp -implicitDefEqProofs (disch := omega) at c23
         refine vcK ?_
         simp -implicitDefEqProofs only [go_sem]
         have e19 := Option.some.inj h
         subst e19
         have hy19 := hret19 _ rfl
         refine hc19 _ _ ?_
         refine .same ⟨hy19, rfl, ?_, ?_⟩ <;> first | with_reducible rfl | with_reducible assumption | (simp -implicitDefEqProofs (maxSteps := 1000000) (disch := omega) [go_sem, t0_19, t3_19, t4_19, t5_19, ob0_17] <;> omega)
     ·refine IWp_seqF fun cb hc30 => ?_
      refine IWp_drawP [2, 7, 27] [0, 1, 2, 3, 4, 5, 6, 7, 8, 9, 10, 11, 12, 13, 14, 15, 16, 17, 18, 19, 20, 21, 22, 23, 24, 25, 26, 27, 28, 29, 30, 31, 32, 33, 34, 35, 36, 37, 38, 39, 40, 41, 42, 43, 44] (by kernel_rfl) (by kernel_rfl) (fun _ _ _ _ h => h) ?_
      try simp -implicitDefEqProofs (maxSteps := 1000000) (disch := omega) [go_sem, t0_8, t3_8]
      obtain ⟨x31, hx31, h⟩ := bind_some' h
      refine PureC.mk _ (fun _ _ hK => ICalls.eqA (args' := [.v (str ((a0.getD v9.toNat S50.zero).fName))]) (by first | with_reducible rfl | (simp -implicitDefEqProofs (maxSteps := 1000000) (disch := omega) [go_sem, t0_8, t3_8] <;> omega)) (F49_ok ((a0.getD v9.toNat S50.zero).fName) hx31 hK)) ?_
      try simp -implicitDefEqProofs (maxSteps := 1000000) (disch := omega) [go_sem, t0_8, t3_8]
      refine splitG_f h (by first | with_reducible rfl | (simp -implicitDefEqProofs (maxSteps := 1000000) (disch := omega) [go_sem, t0_8, t3_8] <;> omega)) ?_ ?_
      ·intro c47 h
       try simp -implicitDefEqProofs (disch := omega) at c47
       try simp -implicitDefEqProofs (maxSteps := 1000000) (disch := omega) [go_sem, t0_8, t3_8]
       subst hc30
       refine IWp_cond_t (by first | with_reducible rfl | (simp -implicitDefEqProofs (maxSteps := 1000000) (disch := omega) [go_sem, t0_8, t3_8] <;> omega)) rfl ?_
       refine IWp_seqF fun cb hc32 => ?_
       refine vcK ?_
       try simp -implicitDefEqProofs (maxSteps := 1000000) (disch := omega) [go_sem, t0_8, t3_8]
       subst hc32
       refine vcK ?_
       simp -implicitDefEqProofs only [go_sem]
       have e8 := Option.some.inj h
       subst e8
       have e8 := hret8 _ rfl
       subst e8
       replace h : some false = some r := hk8
       have er := Option.some.inj h
       subst er
       try simp -implicitDefEqProofs (maxSteps := 1000000) (disch := omega) [go_sem, t0_8, t3_8]
       refine retG_pureA he8 hK (e := by first | with_reducible rfl | (simp -implicitDefEqProofs (maxSteps := 1000000) (disch := omega) [go_sem, t0_8, t3_8] <;> omega))
      ·intro c47 h
       try simp -implicitDefEqProofs (disch := omega) at c47
       try simp -implicitDefEqProofs (maxSteps := 1000000) (disch := omega) [go_sem, t0_8, t3_8]
       obtain ⟨x33, hx33, h⟩ := bind_some' h
       refine PureC.mk _ (fun _ _ hK => ICalls.eqA (args' := [.v (str ((a0.getD v9.toNat S50.zero).fName))]) (by first | with_reducible rfl | (simp -implicitDefEqProofs (maxSteps := 1000000) (disch := omega) [go_sem, t0_8, t3_8] <;> omega)) (F50_ok ((a0.getD v9.toNat S50.zero).fName) hx33 hK)) ?_
       try simp -implicitDefEqProofs (maxSteps := 1000000) (disch := omega) [go_sem, t0_8, t3_8]
       refine splitG_f h (by first | with_reducible rfl | (simp -implicitDefEqProofs (maxSteps := 1000000) (disch := omega) [go_sem, t0_8, t3_8] <;> omega)) ?_ ?_
       ·intro c46 h
        try simp -implicitDefEqProofs (disch := omega) at c46
        try simp -implicitDefEqProofs (maxSteps := 1000000) (disch := omega) [go_sem, t0_8, t3_8]
        subst hc30
        refine IWp_cond_t (by first | with_reducible rfl | (simp -implicitDefEqProofs (maxSteps := 1000000) (disch := omega) [go_sem, t0_8, t3_8] <;> omega)) rfl ?_
        refine IWp_seqF fun cb hc34 => ?_
        refine vcK ?_
        try simp -implicitDefEqProofs (maxSteps := 1000000) (disch := omega) [go_sem, t0_8, t3_8]
        subst hc34
        refine vcK ?_
        simp -implicitDefEqProofs only [go_sem]
        have e8 := Option.some.inj h
        subst e8
        have e8 := hret8 _ rfl
        subst e8
        replace h : some false = some r := hk8
        have er := Option.some.inj h
        subst er
        try simp -implicitDefEqProofs (maxSteps := 1000000) (disch := omega) [go_sem, t0_8, t3_8]
        refine retG_pureA he8 hK (e := by first | with_reducible rfl | (simp -implicitDefEqProofs (maxSteps := 1000000) (disch := omega) [go_sem, t0_8, t3_8] <;> omega))
       ·intro c46 h
        try simp -implicitDefEqProofs (disch := omega) at c46
        try simp -implicitDefEqProofs (maxSteps := 1000000) (disch := omega) [go_sem, t0_8, t3_8]
        refine splitG_f h (by first | with_reducible rfl | (simp -implicitDefEqProofs (maxSteps := 1000000) (disch := omega) [go_sem, t0_8, t3_8] <;> omega)) ?_ ?_
        ·intro c45 h
         try simp -implicitDefEqProofs (disch := omega) at c45
         try simp -implicitDefEqProofs (maxSteps := 1000000) (disch := omega) [go_sem, t0_8, t3_8]
         subst hc30
         refine IWp_cond_t (by first | with_reducible rfl | (simp -implicitDefEqProofs (maxSteps := 1000000) (disch := omega) [go_sem, t0_8, t3_8] <;> omega)) rfl ?_
         refine IWp_seqF fun cb hc35 => ?_
         refine vcK ?_
         try simp -implicitDefEqProofs (maxSteps := 1000000) (disch := omega) [go_sem, t0_8, t3_8]
         subst hc35
         refine vcK ?_
         simp -implicitDefEqProofs only [go_sem]
         have e8 := Option.some.inj h
         subst e8
         have e8 := hret8 _ rfl
         subst e8
         replace h : some false = some r := hk8
         have er := Option.some.inj h
         subst er
         try simp -implicitDefEqProofs (maxSteps := 1000000) (disch := omega) [go_sem, t0_8, t3_8]
         refine retG_pureA he8 hK (e := by first | with_reducible rfl | (simp -implicitDefEqProofs (maxSteps := 1000000) (disch := omega) [go_sem, t0_8, t3_8] <;> omega))
        ·intro c45 h
         try simp -implicitDefEqProofs (disch := omega) at c45
         try simp -implicitDefEqProofs (maxSteps := 1000000) (disch := omega) [go_sem, t0_8, t3_8]
         refine splitG_f h (by first | with_reducible rfl | (simp -implicitDefEqProofs (maxSteps := 1000000) (disch := omega) [go_sem, t0_8, t3_8] <;> omega)) ?_ ?_
         ·intro c44 h
          try simp -implicitDefEqProofs (disch := omega) at c44
          try simp -implicitDefEqProofs (maxSteps := 1000000) (disch := omega) [go_sem, t0_8, t3_8]
          subst hc30
          refine IWp_cond_t (by first | with_reducible rfl | (simp -implicitDefEqProofs (maxSteps := 1000000) (disch := omega) [go_sem, t0_8, t3_8] <;> omega)) rfl ?_
          refine IWp_seqF fun cb hc36 => ?_
          refine vcK ?_
          try simp -implicitDefEqProofs (maxSteps := 1000000) (disch := omega) [go_sem, t0_8, t3_8]
          subst hc36
          refine vcK ?_
          simp -implicitDefEqProofs only [go_sem]
          have e8 := Option.some.inj h
          subst e8
          have e8 := hret8 _ rfl
          subst e8
          replace h : some false = some r := hk8
          have er := Option.some.inj h
          subst er
          try simp -implicitDefEqProofs (maxSteps := 1000000) (disch := omega) [go_sem, t0_8, t3_8]
          refine retG_pureA he8 hK (e := by first | with_reducible rfl | (simp -implicitDefEqProofs (maxSteps := 1000000) (disch := omega) [go_sem, t0_8, t3_8] <;> omega))
         ·intro c44 h
          try simp -implicitDefEqProofs (disch := omega) at c44
          try simp -implicitDefEqProofs (maxSteps := 1000000) (disch := omega) [go_sem, t0_8, t3_8]
          obtain ⟨x37, hx37, h⟩ := bind_some' h
          refine PureC.mk _ (fun _ _ hK => ICalls.eqA (args' := [.sl 1 (((a0.getD v9.toNat S50.zero).fValues).map fun x => [.v (str x)])]) (by first | with_reducible rfl | (simp -implicitDefEqProofs (maxSteps := 1000000) (disch := omega) [go_sem, t0_8, t3_8] <;> omega)) (F51_ok ((a0.getD v9.toNat S50.zero).fValues) hx37 hK)) ?_
          try simp -implicitDefEqProofs (maxSteps := 1000000) (disch := omega) [go_sem, t0_8, t3_8]
          refine splitG_f h (by first | with_reducible rfl | (simp -implicitDefEqProofs (maxSteps := 1000000) (disch := omega) [go_sem, t0_8, t3_8] <;> omega)) ?_ ?_
          ·intro c43 h
           try simp -implicitDefEqProofs (disch := omega) at c43
           try simp -implicitDefEqProofs (maxSteps := 1000000) (disch := omega) [go_sem, t0_8, t3_8]
           subst hc30
           refine IWp_cond_t (by first | with_reducible rfl | (simp -implicitDefEqProofs (maxSteps := 1000000) (disch := omega) [go_sem, t0_8, t3_8] <;> omega)) rfl ?_
           refine IWp_seqF fun cb hc38 => ?_
           refine vcK ?_
           try simp -implicitDefEqProofs (maxSteps := 1000000) (disch := omega) [go_sem, t0_8, t3_8]
           subst hc38
           refine vcK ?_
           simp -implicitDefEqProofs only [go_sem]
           have e8 := Option.some.inj h
           subst e8
           have e8 := hret8 _ rfl
           subst e8
           replace h : some false = some r := hk8
           have er := Option.some.inj h
           subst er
           try simp -implicitDefEqProofs (maxSteps := 1000000) (disch := omega) [go_sem, t0_8, t3_8]
           refine retG_pureA he8 hK (e := by first | with_reducible rfl | (simp -implicitDefEqProofs (maxSteps := 1000000) (disch := omega) [go_sem, t0_8, t3_8] <;> omega))
          ·intro c43 h
           try simp -implicitDefEqProofs (disch := omega) at c43
           try simp -implicitDefEqProofs (maxSteps := 1000000) (disch := omega) [go_sem, t0_8, t3_8]
           refine splitG_f h (by first | with_reducible rfl | (simp -implicitDefEqProofs (maxSteps := 1000000) (disch := omega) [go_sem, t0_8, t3_8] <;> omega)) ?_ ?_
           ·intro c42 h
            try simp -implicitDefEqProofs (disch := omega) at c42
            obtain ⟨g39, h⟩ := gd_some.1 h
            try simp -implicitDefEqProofs (disch := omega) at g39
            try simp -implicitDefEqProofs (maxSteps := 1000000) (disch := omega) [go_sem, t0_8, t3_8]
            subst hc30
            refine IWp_cond_i h (by first | with_reducible rfl | (simp -implicitDefEqProofs (maxSteps := 1000000) (disch := omega) [go_sem, t0_8, t3_8] <;> omega)) rfl ?_ ?_
            ·intro c40 h
             try simp -implicitDefEqProofs (disch := omega) at c40
             refine IWp_seqF fun cb hc41 => ?_
             refine vcK ?_
             try simp -implicitDefEqProofs (maxSteps := 1000000) (disch := omega) [go_sem, t0_8, t3_8]
             subst hc41
             refine vcK ?_
             simp -implicitDefEqProofs only [go_sem]
             have e8 := Option.some.inj h
             subst e8
             have e8 := hret8 _ rfl
             subst e8
             replace h : some false = some r := hk8
             have er := Option.some.inj h
             subst er
             try simp -implicitDefEqProofs (maxSteps := 1000000) (disch := omega) [go_sem, t0_8, t3_8]
             refine retG_pureA he8 hK (e := by first | with_reducible rfl | (simp -implicitDefEqProofs (maxSteps := 1000000) (disch := omega) [go_sem, t0_8, t3_8] <;> omega))
            ·intro c40 h
             try simp -implicitDefEqProofs (disch := omega) at c40
             refine vcK ?_
             simp -implicitDefEqProofs only [go_sem]
             refine hc17 _ _ ?_
             refine .same ⟨by repeat (first | exact he8 | refine Ext.new ?_ _ | refine Ext.set ?_ (by first | omega | (simp [go_sem]; done) | (simp [go_sem]; omega)) _ | refine Ext.del ?_ (by first | omega | (simp [go_sem]; done) | (simp [go_sem]; omega))), by first | with_reducible rfl | with_reducible assumption | omega | (simp -implicitDefEqProofs (maxSteps := 1000000) (disch := omega) [go_sem, t0_8, t3_8] <;> omega), by first | with_reducible rfl | with_reducible assumption | (simp -implicitDefEqProofs (maxSteps := 1000000) (disch := omega) [go_sem, t0_8, t3_8] <;> omega), by first | with_reducible rfl | with_reducible assumption | (simp -implicitDefEqProofs (maxSteps := 1000000) (disch := omega) [go_sem, t0_8, t3_8] <;> omega), by first | with_reducible rfl | with_reducible assumption | (simp -implicitDefEqProofs (maxSteps := 1000000) (disch := omega) [go_sem, t0_8, t3_8] <;> omega), by first | with_reducible rfl | with_reducible assumption | (simp -implicitDefEqProofs (maxSteps := 1000000) (disch := omega) [go_sem, t0_8, t3_8] <;> omega), h⟩
           ·intro c42 h
            try simp -implicitDefEqProofs (disch := omega) at c42
            try simp -implicitDefEqProofs (maxSteps := 1000000) (disch := omega) [go_sem, t0_8, t3_8]
            subst hc30
            refine IWp_cond_f (by first | with_reducible rfl | (simp -implicitDefEqProofs (maxSteps := 1000000) (disch := omega) [go_sem, t0_8, t3_8] <;> omega)) rfl ?_
            refine vcK ?_
            simp -implicitDefEqProofs only [go_sem]
            refine hc17 _ _ ?_
            refine .same ⟨by repeat (first | exact he8 | refine Ext.new ?_ _ | refine Ext.set ?_ (by first | omega | (simp [go_sem]; done) | (simp [go_sem]; omega)) _ | refine Ext.del ?_ (by first | omega | (simp [go_sem]; done) | (simp [go_sem]; omega))), by first | with_reducible rfl | with_reducible assumption | omega | (simp -implicitDefEqProofs (maxSteps := 1000000) (disch := omega) [go_sem, t0_8, t3_8] <;> omega), by first | with_reducible rfl | with_reducible assumption | (simp -implicitDefEqProofs (maxSteps := 1000000) (disch := omega) [go_sem, t0_8, t3_8] <;> omega), by first | with_reducible rfl | with_reducible assumption | (simp -implicitDefEqProofs (maxSteps := 1000000) (disch := omega) [go_sem, t0_8, t3_8] <;> omega), by first | with_reducible rfl | with_reducible assumption | (simp -implicitDefEqProofs (maxSteps := 1000000) (disch := omega) [go_sem, t0_8, t3_8] <;> omega), by first | with_reducible rfl | with_reducible assumption | (simp -implicitDefEqProofs (maxSteps := 1000000) (disch := omega) [go_sem, t0_8, t3_8] <;> omega), h⟩
    ·intro c13 h
     try simp -implicitDefEqProofs (disch := omega) at c13
     refine vcK ?_
     simp -implicitDefEqProofs only [go_sem]
     have e8 := Option.some.inj h
     subst e8
     have hy8 := hret8 _ rfl
     refine hc8 _ _ ?_
     refine .same ⟨hy8, by repeat (first | exact he8 | refine Ext.new ?_ _ | refine Ext.set ?_ (by first | omega | (simp [go_sem]; done) | (simp [go_sem]; omega)) _ | refine Ext.del ?_ (by first | omega | (simp [go_sem]; done) | (simp [go_sem]; omega))), by first | with_reducible rfl | with_reducible assumption | omega | (simp -implicitDefEqProofs (maxSteps := 1000000) (disch := omega) [go_sem, t0_8, t3_8] <;> omega)⟩

/-! cardcase/cardcaseref07.May -/

/-! cardcase/cardcaseref07.Get -/

noncomputable def F23_k4  : Option ((List (List UInt8))) :=
 some []

noncomputable def F23_b4 (a0 : List S50) (a1 : List UInt8) (v5 : Int) : Option (Int ⊕ (Unit ⊕ ((List (List UInt8))))) :=
 if v5 < (a0.length : Int) then (gd (0 ≤ v5 ∧ v5 < a0.length) ((F50 a1).bind fun (x13 : (List UInt8)) => if ((a0.getD v5.toNat S50.zero).fName) = x13 then (some (.inr (.inr ((a0.getD v5.toNat S50.zero).fValues)))) else (some (.inl (IntKind.i64.wrap (v5 + 1)))))) else (some (.inr (.inl ())))

noncomputable def F23 (a0 : List S50) (a1 : List UInt8) : Option ((List (List UInt8))) :=
 (loopO (fun (s : Int) => F23_b4 a0 a1 s) 0).bind fun y => Sum.elim (fun (e : Unit) => F23_k4) (fun (q : (List (List UInt8))) => some q) y

/-! cardcase/cardcaseref07.among -/

/-! cardcase/cardcaseref07.twice -/

end Go.Idl

namespace Go.Idl

open Go Go.Proofs.Tryz

/-! cardcase/cardcaseref07.with -/

/-! cardcase/cardcaseref07.set -/

end Go.Idl

namespace Go.Idl

open Go Go.Proofs.Tryz

/-! cardcase/cardcaseref07.one -/

/-! cardcase/cardcaseref07.Do -/

/-! cardcase/cardcaseref07.Texts -/

noncomputable def F21_k8  : Option Bool :=
 some true

noncomputable def F21_b8 (a0 : List (List UInt8)) (a1 : List (List UInt8)) (v9 : Int) : Option (Int ⊕ (Unit ⊕ Bool)) :=
 if v9 < (a0.length : Int) then (gd (0 ≤ v9 ∧ v9 < a0.length) (gd (0 ≤ v9 ∧ v9 < a1.length) (if ¬ (a0.getD v9.toNat []) = (a1.getD v9.toNat []) then (some (.inr (.inr false))) else (some (.inl (IntKind.i64.wrap (v9 + 1))))))) else (some (.inr (.inl ())))

noncomputable def F21 (a0 : List (List UInt8)) (a1 : List (List UInt8)) : Option Bool :=
 if ¬ (a0.length : Int) = (a1.length : Int) then (some false) else ((loopO (fun (s : Int) => F21_b8 a0 a1 s) 0).bind fun y => Sum.elim (fun (e : Unit) => F21_k8) (fun (q : Bool) => some q) y)

set_option maxHeartbeats 8000000 in
set_option pp.deepTerms false in
set_option maxRecDepth 60000 in
theorem F21_ok {H : IHeap} {K : IEnd → IHeap → Prop} (a0 : List (List UInt8)) (a1 : List (List UInt8)) {r : Bool} (h : F21 a0 a1 = some r) (hK : K (.ret (.v (.bool r))) H) : ICalls prog 21 [.sl 1 (a0.map fun x => [.v (str x)]), .sl 1 (a1.map fun x => [.v (str x)])] H K := by
 refine ICalls_iwp (N := 26) func21 (by kernel_rfl) rfl (by kernel_rfl) (by kernel_rfl) fun cb hcb hw hbd hnb => ?_
 clear hbd hnb
 subst hcb
 unfold F21 at h
 refine IWp_seqF fun cb hc1 => ?_
 refine vcK ?_
 try simp -implicitDefEqProofs (maxSteps := 1000000) (disch := omega) [go_sem]
 subst hc1
 refine IWp_seqF fun cb hc2 => ?_
 refine IWp_seqF fun cb hc3 => ?_
 refine vcK ?_
 try simp -implicitDefEqProofs (maxSteps := 1000000) (disch := omega) [go_sem]
 subst hc3
 refine IWp_cond_i h (by first | with_reducible rfl | (simp -implicitDefEqProofs (maxSteps := 1000000) (disch := omega) [go_sem] <;> omega)) rfl ?_ ?_
 ·intro c4 h
  try simp -implicitDefEqProofs (disch := omega) at c4
  refine IWp_seqF fun cb hc5 => ?_
  refine vcK ?_
  try simp -implicitDefEqProofs (maxSteps := 1000000) (disch := omega) [go_sem]
  subst hc5
  refine vcK ?_
  simp -implicitDefEqProofs only [go_sem]
  have er := Option.some.inj h
  subst er
  try simp -implicitDefEqProofs (maxSteps := 1000000) (disch := omega) [go_sem]
  refine retG_pureA (Ext.refl hw) hK (e := by first | with_reducible rfl | (simp -implicitDefEqProofs (maxSteps := 1000000) (disch := omega) [go_sem] <;> omega))
 ·intro c4 h
  try simp -implicitDefEqProofs (disch := omega) at c4
  refine vcK ?_
  simp -implicitDefEqProofs only [go_sem]
  subst hc2
  refine IWp_seqF fun cb hc6 => ?_
  refine IWp_seqF fun cb hc7 => ?_
  refine vcK ?_
  try simp -implicitDefEqProofs (maxSteps := 1000000) (disch := omega) [go_sem]
  subst hc7
  obtain ⟨y8, hl8q, hk8⟩ := bind_some' h
  refine IWp_tailC (fun tm' H' => .inl () = y8 ∧ H = H') ?_ fun cb hc8 => ?_
  ·rintro tm8e H8e ⟨rfl, rfl⟩
   have h : F21_k8 = some r := hk8
   unfold F21_k8 at h
   simp -implicitDefEqProofs only [go_sem]
   subst hc6
   refine IWp_seqF fun cb hc10 => ?_
   refine vcK ?_
   try simp -implicitDefEqProofs (maxSteps := 1000000) (disch := omega) [go_sem]
   subst hc10
   refine vcK ?_
   simp -implicitDefEqProofs only [go_sem]
   have er := Option.some.inj h
   subst er
   try simp -implicitDefEqProofs (maxSteps := 1000000) (disch := omega) [go_sem]
   refine retG_pureA (Ext.refl hw) hK (e := by first | with_reducible rfl | (simp -implicitDefEqProofs (maxSteps := 1000000) (disch := omega) [go_sem] <;> omega))
  ·refine IWp_block ?_
   refine IWp_loopF (fun (s : Int) tm' H' => H = H' ∧ tm' 0 = .sl 1 (a0.map fun x => [.v (str x)]) ∧ tm' 1 = .sl 1 (a1.map fun x => [.v (str x)]) ∧ tm' 5 = .v (.int .i64 s)) hl8q ?_ ?_
   ·refine .same ⟨rfl, ?_, ?_, ?_⟩ <;> first | with_reducible rfl | with_reducible assumption | (simp -implicitDefEqProofs (maxSteps := 1000000) (disch := omega) [go_sem] <;> omega)
   ·rintro I8 hI8 v9 x8 tm8 H8 ⟨rfl, t0_8, t1_8, t5_8⟩ h hret8
    replace h : F21_b8 a0 a1 v9 = some x8 := h
    unfold F21_b8 at h
    refine IWp_seqF fun cb hc11 => ?_
    refine IWp_seqF fun cb hc12 => ?_
    refine vcK ?_
    try simp -implicitDefEqProofs (maxSteps := 1000000) (disch := omega) [go_sem, t0_8, t1_8, t5_8]
    subst hc12
    refine IWp_cond_i h (by first | with_reducible rfl | (simp -implicitDefEqProofs (maxSteps := 1000000) (disch := omega) [go_sem, t0_8, t1_8, t5_8] <;> omega)) rfl ?_ ?_
    ·intro c13 h
     try simp -implicitDefEqProofs (disch := omega) at c13
     refine vcK ?_
     simp -implicitDefEqProofs only [go_sem]
     subst hc11
     refine IWp_seqF fun cb hc14 => ?_
     refine IWp_block ?_
     refine IWp_seqF fun cb hc15 => ?_
     refine IWp_drawP [] [0, 1, 2, 3, 4, 5, 6, 7, 8] (by kernel_rfl) (by kernel_rfl) (fun _ _ _ _ h => h) ?_
     obtain ⟨g16, h⟩ := gd_some.1 h
     try simp -implicitDefEqProofs (disch := omega) at g16
     obtain ⟨g17, h⟩ := gd_some.1 h
     try simp -implicitDefEqProofs (disch := omega) at g17
     try simp -implicitDefEqProofs (maxSteps := 1000000) (disch := omega) [go_sem, t0_8, t1_8, t5_8]
     subst hc15
     refine IWp_cond_i h (by first | with_reducible rfl | (simp -implicitDefEqProofs (maxSteps := 1000000) (disch := omega) [go_sem, t0_8, t1_8, t5_8] <;> omega)) rfl ?_ ?_
     ·intro c18 h
      try simp -implicitDefEqProofs (disch := omega) at c18
      refine IWp_seqF fun cb hc19 => ?_
      refine vcK ?_
      try simp -implicitDefEqProofs (maxSteps := 1000000) (disch := omega) [go_sem, t0_8, t1_8, t5_8]
      subst hc19
      refine vcK ?_
      simp -implicitDefEqProofs only [go_sem]
      have e8 := Option.some.inj h
      subst e8
      have e8 := hret8 _ rfl
      subst e8
      replace h : some false = some r := hk8
      have er := Option.some.inj h
      subst er
      try simp -implicitDefEqProofs (maxSteps := 1000000) (disch := omega) [go_sem, t0_8, t1_8, t5_8]
      refine retG_pureA (Ext.refl hw) hK (e := by first | with_reducible rfl | (simp -implicitDefEqProofs (maxSteps := 1000000) (disch := omega) [go_sem, t0_8, t1_8, t5_8] <;> omega))
     ·intro c18 h
      try simp -implicitDefEqProofs (disch := omega) at c18
      refine vcK ?_
      simp -implicitDefEqProofs only [go_sem]
      subst hc14
      refine vcK ?_
      try simp -implicitDefEqProofs (maxSteps := 1000000) (disch := omega) [go_sem, t0_8, t1_8, t5_8]
      have e8 := Option.some.inj h
      subst e8
      refine loopN_mk hI8 (IntKind.i64.wrap (v9 + 1)) ?_
      refine .same ⟨rfl, ?_, ?_, ?_⟩ <;> first | with_reducible rfl | with_reducible assumption | (simp -implicitDefEqProofs (maxSteps := 1000000) (disch := omega) [go_sem, t0_8, t1_8, t5_8] <;> omega)
    ·intro c13 h
     try simp -implicitDefEqProofs (disch := omega) at c13
     refine vcK ?_
     simp -implicitDefEqProofs only [go_sem]
     have e8 := Option.some.inj h
     subst e8
     have hy8 := hret8 _ rfl
     refine hc8 _ _ ?_
     refine .same ⟨hy8, rfl⟩

end Go.Idl

namespace Go.Idl

open Go Go.Proofs.Tryz

/-! cardcase/cardcaseref07.Same -/

noncomputable def F16_k8  : Option Bool :=
 some true

noncomputable def F16_b8 (a0 : List S50) (a1 : List S50) (v9 : Int) : Option (Int ⊕ (Unit ⊕ Bool)) :=
 if v9 < (a0.length : Int) then (gd (0 ≤ v9 ∧ v9 < a0.length) (gd (0 ≤ v9 ∧ v9 < a1.length) (if ¬ ((a0.getD v9.toNat S50.zero).fName) = ((a1.getD v9.toNat S50.zero).fName) then (some (.inr (.inr false))) else ((F21 ((a0.getD v9.toNat S50.zero).fValues) ((a1.getD v9.toNat S50.zero).fValues)).bind fun (x19 : Bool) => if ¬ (x19 = true) then (some (.inr (.inr false))) else (some (.inl (IntKind.i64.wrap (v9 + 1)))))))) else (some (.inr (.inl ())))

noncomputable def F16 (a0 : List S50) (a1 : List S50) : Option Bool :=
 if ¬ (a0.length : Int) = (a1.length : Int) then (some false) else ((loopO (fun (s : Int) => F16_b8 a0 a1 s) 0).bind fun y => Sum.elim (fun (e : Unit) => F16_k8) (fun (q : Bool) => some q) y)

set_option maxHeartbeats 8000000 in
set_option pp.deepTerms false in
set_option maxRecDepth 60000 in
theorem F16_ok {H : IHeap} {K : IEnd → IHeap → Prop} (a0 : List S50) (a1 : List S50) {r : Bool} (h : F16 a0 a1 = some r) (hK : K (.ret (.v (.bool r))) H) : ICalls prog 16 [.sl 2 (a0.map fun x => [.v (str x.fName), .sl 1 (x.fValues.map fun x => [.v (str x)])]), .sl 2 (a1.map fun x => [.v (str x.fName), .sl 1 (x.fValues.map fun x => [.v (str x)])])] H K := by
 refine ICalls_iwp (N := 42) func16 (by kernel_rfl) rfl (by kernel_rfl) (by kernel_rfl) fun cb hcb hw hbd hnb => ?_
 clear hbd hnb
 subst hcb
 unfold F16 at h
 refine IWp_seqF fun cb hc1 => ?_
 refine vcK ?_
 try simp -implicitDefEqProofs (maxSteps := 1000000) (disch := omega) [go_sem]
 subst hc1
 refine IWp_seqF fun cb hc2 => ?_
 refine IWp_seqF fun cb hc3 => ?_
 refine vcK ?_
 try simp -implicitDefEqProofs (maxSteps := 1000000) (disch := omega) [go_sem]
 subst hc3
 refine IWp_cond_i h (by first | with_reducible rfl | (simp -implicitDefEqProofs (maxSteps := 1000000) (disch := omega) [go_sem] <;> omega)) rfl ?_ ?_
 ·intro c4 h
  try simp -implicitDefEqProofs (disch := omega) at c4
  refine IWp_seqF fun cb hc5 => ?_
  refine vcK ?_
  try simp -implicitDefEqProofs (maxSteps := 1000000) (disch := omega) [go_sem]
  subst hc5
  refine vcK ?_
  simp -implicitDefEqProofs only [go_sem]
  have er := Option.some.inj h
  subst er
  try simp -implicitDefEqProofs (maxSteps := 1000000) (disch := omega) [go_sem]
  refine retG_pureA (Ext.refl hw) hK (e := by first | with_reducible rfl | (simp -implicitDefEqProofs (maxSteps := 1000000) (disch := omega) [go_sem] <;> omega))
 ·intro c4 h
  try simp -implicitDefEqProofs (disch := omega) at c4
  refine vcK ?_
  simp -implicitDefEqProofs only [go_sem]
  subst hc2
  refine IWp_seqF fun cb hc6 => ?_
  refine IWp_seqF fun cb hc7 => ?_
  refine vcK ?_
  try simp -implicitDefEqProofs (maxSteps := 1000000) (disch := omega) [go_sem]
  subst hc7
  obtain ⟨y8, hl8q, hk8⟩ := bind_some' h
  refine IWp_tailC (fun tm' H' => .inl () = y8 ∧ H = H') ?_ fun cb hc8 => ?_
  ·rintro tm8e H8e ⟨rfl, rfl⟩
   have h : F16_k8 = some r := hk8
   unfold F16_k8 at h
   simp -implicitDefEqProofs only [go_sem]
   subst hc6
   refine IWp_seqF fun cb hc10 => ?_
   refine vcK ?_
   try simp -implicitDefEqProofs (maxSteps := 1000000) (disch := omega) [go_sem]
   subst hc10
   refine vcK ?_
   simp -implicitDefEqProofs only [go_sem]
   have er := Option.some.inj h
   subst er
   try simp -implicitDefEqProofs (maxSteps := 1000000) (disch := omega) [go_sem]
   refine retG_pureA (Ext.refl hw) hK (e := by first | with_reducible rfl | (simp -implicitDefEqProofs (maxSteps := 1000000) (disch := omega) [go_sem] <;> omega))
  ·refine IWp_block ?_
   refine IWp_loopF (fun (s : Int) tm' H' => H = H' ∧ tm' 0 = .sl 2 (a0.map fun x => [.v (str x.fName), .sl 1 (x.fValues.map fun x => [.v (str x)])]) ∧ tm' 1 = .sl 2 (a1.map fun x => [.v (str x.fName), .sl 1 (x.fValues.map fun x => [.v (str x)])]) ∧ tm' 5 = .v (.int .i64 s)) hl8q ?_ ?_
   ·refine .same ⟨rfl, ?_, ?_, ?_⟩ <;> first | with_reducible rfl | with_reducible assumption | (simp -implicitDefEqProofs (maxSteps := 1000000) (disch := omega) [go_sem] <;> omega)
   ·rintro I8 hI8 v9 x8 tm8 H8 ⟨rfl, t0_8, t1_8, t5_8⟩ h hret8
    replace h : F16_b8 a0 a1 v9 = some x8 := h
    unfold F16_b8 at h
    refine IWp_seqF fun cb hc11 => ?_
    refine IWp_seqF fun cb hc12 => ?_
    refine vcK ?_
    try simp -implicitDefEqProofs (maxSteps := 1000000) (disch := omega) [go_sem, t0_8, t1_8, t5_8]
    subst hc12
    refine IWp_cond_i h (by first | with_reducible rfl | (simp -implicitDefEqProofs (maxSteps := 1000000) (disch := omega) [go_sem, t0_8, t1_8, t5_8] <;> omega)) rfl ?_ ?_
    ·intro c13 h
     try simp -implicitDefEqProofs (disch := omega) at c13
     refine vcK ?_
     simp -implicitDefEqProofs only [go_sem]
     subst hc11
     refine IWp_seqF fun cb hc14 => ?_
     refine IWp_block ?_
     refine IWp_seqF fun cb hc15 => ?_
     refine IWp_drawP [22] [0, 1, 2, 3, 4, 5, 6, 7, 8, 9, 10, 11, 12, 13, 14, 15, 16, 17, 18, 19, 20, 21, 22, 23, 24] (by kernel_rfl) (by kernel_rfl) (fun _ _ _ _ h => h) ?_
     obtain ⟨g16, h⟩ := gd_some.1 h
     try simp -implicitDefEqProofs (disch := omega) at g16
     obtain ⟨g17, h⟩ := gd_some.1 h
     try simp -implicitDefEqProofs (disch := omega) at g17
     try simp -implicitDefEqProofs (maxSteps := 1000000) (disch := omega) [go_sem, t0_8, t1_8, t5_8]
     refine splitG_f h (by first | with_reducible rfl | (simp -implicitDefEqProofs (maxSteps := 1000000) (disch := omega) [go_sem, t0_8, t1_8, t5_8] <;> omega)) ?_ ?_
     ·intro c22 h
      try simp -implicitDefEqProofs (disch := omega) at c22
      try simp -implicitDefEqProofs (maxSteps := 1000000) (disch := omega) [go_sem, t0_8, t1_8, t5_8]
      subst hc15
      refine IWp_cond_t (by first | with_reducible rfl | (simp -implicitDefEqProofs (maxSteps := 1000000) (disch := omega) [go_sem, t0_8, t1_8, t5_8] <;> omega)) rfl ?_
      refine IWp_seqF fun cb hc18 => ?_
      refine vcK ?_
      try simp -implicitDefEqProofs (maxSteps := 1000000) (disch := omega) [go_sem, t0_8, t1_8, t5_8]
      subst hc18
      refine vcK ?_
      simp -implicitDefEqProofs only [go_sem]
      have e8 := Option.some.inj h
      subst e8
      have e8 := hret8 _ rfl
      subst e8
      replace h : some false = some r := hk8
      have er := Option.some.inj h
      subst er
      try simp -implicitDefEqProofs (maxSteps := 1000000) (disch := omega) [go_sem, t0_8, t1_8, t5_8]
      refine retG_pureA (Ext.refl hw) hK (e := by first | with_reducible rfl | (simp -implicitDefEqProofs (maxSteps := 1000000) (disch := omega) [go_sem, t0_8, t1_8, t5_8] <;> omega))
     ·intro c22 h
      try simp -implicitDefEqProofs (disch := omega) at c22
      try simp -implicitDefEqProofs (maxSteps := 1000000) (disch := omega) [go_sem, t0_8, t1_8, t5_8]
      obtain ⟨x19, hx19, h⟩ := bind_some' h
      refine PureC.mk _ (fun _ _ hK => ICalls.eqA (args' := [.sl 1 (((a0.getD v9.toNat S50.zero).fValues).map fun x => [.v (str x)]), .sl 1 (((a1.getD v9.toNat S50.zero).fValues).map fun x => [.v (str x)])]) (by first | with_reducible rfl | (simp -implicitDefEqProofs (maxSteps := 1000000) (disch := omega) [go_sem, t0_8, t1_8, t5_8] <;> omega)) (F21_ok ((a0.getD v9.toNat S50.zero).fValues) ((a1.getD v9.toNat S50.zero).fValues) hx19 hK)) ?_
      try simp -implicitDefEqProofs (maxSteps := 1000000) (disch := omega) [go_sem, t0_8, t1_8, t5_8]
      subst hc15
      refine IWp_cond_i h (by first | with_reducible rfl | (simp -implicitDefEqProofs (maxSteps := 1000000) (disch := omega) [go_sem, t0_8, t1_8, t5_8] <;> omega)) rfl ?_ ?_
      ·intro c20 h
       try simp -implicitDefEqProofs (disch := omega) at c20
       refine IWp_seqF fun cb hc21 => ?_
       refine vcK ?_
       try simp -implicitDefEqProofs (maxSteps := 1000000) (disch := omega) [go_sem, t0_8, t1_8, t5_8]
       subst hc21
       refine vcK ?_
       simp -implicitDefEqProofs only [go_sem]
       have e8 := Option.some.inj h
       subst e8
       have e8 := hret8 _ rfl
       subst e8
       replace h : some false = some r := hk8
       have er := Option.some.inj h
       subst er
       try simp -implicitDefEqProofs (maxSteps := 1000000) (disch := omega) [go_sem, t0_8, t1_8, t5_8]
       refine retG_pureA (Ext.refl hw) hK (e := by first | with_reducible rfl | (simp -implicitDefEqProofs (maxSteps := 1000000) (disch := omega) [go_sem, t0_8, t1_8, t5_8] <;> omega))
      ·intro c20 h
       try simp -implicitDefEqProofs (disch := omega) at c20
       refine vcK ?_
       simp -implicitDefEqProofs only [go_sem]
       subst hc14
       refine vcK ?_
       try simp -implicitDefEqProofs (maxSteps := 1000000) (disch := omega) [go_sem, t0_8, t1_8, t5_8]
       have e8 := Option.some.inj h
       subst e8
       refine loopN_mk hI8 (IntKind.i64.wrap (v9 + 1)) ?_
       refine .same ⟨rfl, ?_, ?_, ?_⟩ <;> first | with_reducible rfl | with_reducible assumption | (simp -implicitDefEqProofs (maxSteps := 1000000) (disch := omega) [go_sem, t0_8, t1_8, t5_8] <;> omega)
    ·intro c13 h
     try simp -implicitDefEqProofs (disch := omega) at c13
     refine vcK ?_
     simp -implicitDefEqProofs only [go_sem]
     have e8 := Option.some.inj h
     subst e8
     have hy8 := hret8 _ rfl
     refine hc8 _ _ ?_
     refine .same ⟨hy8, rfl⟩

/-! cardcase/cardcaselaw07.EntryDoes -/

/-! cardcase/cardcaseref07.Order -/

/-! cardcase/cardcaselaw07.EntryOrder -/

end Go.Idl

namespace Go.Idl

open Go Go.Proofs.Tryz

/-! cardcase/cardcaseref07.Diff -/

/-! cardcase/cardcaseref07.SameMods -/

/-! cardcase/cardcaselaw07.EntryDiffs -/

end Go.Idl

namespace Go.Idl

open Go Go.Proofs.Tryz

/-! cardcase/cardcaselaw07.EntryBackAgain -/

/-! cardcase/cardcaselaw07.ordered -/

/-! cardcase/cardcaselaw07.EntryOne -/

end Go.Idl

namespace Go.Idl

open Go

def findI {α ρ : Type} (f : Nat → α → Option ρ) (d : ρ) : Nat → List α → ρ
  | _, [] => d
  | i, x :: l => match f i x with
    | none => findI f d (i + 1) l
    | some r => r

def runI {α σ ρ : Type} (f : Nat → σ → α → σ ⊕ ρ) (fin : σ → ρ) : Nat → σ → List α → ρ
  | _, a, [] => fin a
  | i, a, x :: l => match f i a x with
    | .inl a' => runI f fin (i + 1) a' l
    | .inr r => r

theorem findI_cons {α ρ : Type} {f : Nat → α → Option ρ} {d : ρ} {i : Nat} {x : α} {l : List α} : findI f d i (x :: l) = match f i x with
    | none => findI f d (i + 1) l
    | some r => r := rfl

theorem runI_cons {α σ ρ : Type} {f : Nat → σ → α → σ ⊕ ρ} {fin : σ → ρ} {i : Nat} {a : σ} {x : α} {l : List α} : runI f fin i a (x :: l) = match f i a x with
    | .inl a' => runI f fin (i + 1) a' l
    | .inr r => r := rfl

theorem loopO_find {α ρ : Type} (l : List α) {step : Int → Option (Int ⊕ ρ)} (f : Nat → α → Option ρ) (d : ρ) (hl : l.length ≤ 1000000000)
    (hs : ∀ (i : Nat) (h : i < l.length), step (i : Int) = some (match f i l[i] with | none => .inl (IntKind.i64.wrap ((i : Int) + 1)) | some r => .inr r))
    (hf : step (l.length : Int) = some (.inr d)) : loopO step 0 = some (findI f d 0 l) := by
  obtain ⟨r, h1, h2⟩ := loopO_for (step := step) (Post := fun r => r = findI f d 0 l) l.length (fun i => findI f d i (l.drop i) = findI f d 0 l) (by simp)
    (fun i hi hI => by
      rw [hs i hi]
      rw [List.drop_eq_getElem_cons hi] at hI
      rw [findI_cons] at hI
      cases hfi : f i l[i] with
      | none =>
        rw [hfi] at hI
        rw [wrap_nat (by omega)]
        exact .inl ⟨rfl, hI⟩
      | some r =>
        rw [hfi] at hI
        exact .inr ⟨r, rfl, hI⟩)
    (fun hI => ⟨d, hf, by rw [List.drop_length] at hI; exact hI⟩)
  rw [h1, h2]

theorem loopO_run {α σ ρ : Type} (l : List α) {step : σ × Int → Option ((σ × Int) ⊕ ρ)} (f : Nat → σ → α → σ ⊕ ρ) (fin : σ → ρ) (Inv : Nat → σ → Prop) {a : σ} (hl : l.length ≤ 1000000000) (h0 : Inv 0 a)
    (hs : ∀ (i : Nat) (h : i < l.length) (a : σ), Inv i a → step (a, (i : Int)) = some (match f i a l[i] with | .inl a' => .inl (a', IntKind.i64.wrap ((i : Int) + 1)) | .inr r => .inr r))
    (hn : ∀ (i : Nat) (h : i < l.length) (a a' : σ), Inv i a → f i a l[i] = .inl a' → Inv (i + 1) a')
    (hf : ∀ a, Inv l.length a → step (a, (l.length : Int)) = some (.inr (fin a))) : loopO step (a, 0) = some (runI f fin 0 a l) := by
  obtain ⟨r, h1, h2⟩ := loopO_for2 (step := step) (Post := fun r => r = runI f fin 0 a l) l.length (fun i a' => Inv i a' ∧ runI f fin i a' (l.drop i) = runI f fin 0 a l) (a := a) ⟨h0, by simp⟩
    (fun i a' hi hI => by
      obtain ⟨hI, hR⟩ := hI
      rw [hs i hi a' hI]
      rw [List.drop_eq_getElem_cons hi] at hR
      rw [runI_cons] at hR
      cases hfi : f i a' l[i] with
      | inl a2 =>
        rw [hfi] at hR
        rw [wrap_nat (by omega)]
        exact .inl ⟨a2, rfl, hn i hi a' a2 hI hfi, hR⟩
      | inr r =>
        rw [hfi] at hR
        exact .inr ⟨r, rfl, hR⟩)
    (fun a' hI => ⟨_, hf a' hI.1, by have := hI.2; rw [List.drop_length] at this; exact this⟩)
  rw [h1, h2]

theorem findI_all {α ρ : Type} (p : α → Bool) (bad good : ρ) : ∀ (l : List α) (i : Nat), findI (fun _ x => if p x = true then none else some bad) good i l = if l.all p = true then good else bad
  | [], _ => by simp [findI]
  | x :: l, i => by
    unfold findI
    by_cases h : p x = true
    · rw [if_pos h]
      simp only [findI_all p bad good l (i + 1), List.all_cons, h, Bool.true_and]
    · rw [if_neg h]
      have : (List.all (x :: l) p) = false := by simp [List.all_cons, Bool.eq_false_iff.2 h]
      simp [this]

end Go.Idl

namespace Go.Idl

open Go

def letterB (b : UInt8) : Bool := decide (65 ≤ b.toNat ∧ b.toNat ≤ 90 ∨ 97 ≤ b.toNat ∧ b.toNat ≤ 122)

def restB (b : UInt8) : Bool := letterB b || decide (48 ≤ b.toNat ∧ b.toNat ≤ 57) || decide (b.toNat = 45)

def nameB (s : Str) : Bool := decide (1 ≤ s.length ∧ s.length ≤ 64) && letterB (s.getD 0 0) && s.all restB

abbrev smallS (s : Str) : Str := s.map lowB

theorem lowB_nat (b : UInt8) : (lowB b).toNat = if 65 ≤ b.toNat ∧ b.toNat ≤ 90 then b.toNat + 32 else b.toNat := by
  have h := lowB_int b
  split
  · rename_i c; have := h.1 (by omega); omega
  · rename_i c; rw [h.2 (by omega)]

theorem letter_low (b : UInt8) : letterB (lowB b) = letterB b := by
  have h := lowB_nat b
  simp only [letterB, decide_eq_decide]
  split at h <;> omega

theorem rest_low (b : UInt8) : restB (lowB b) = restB b := by
  have h := lowB_nat b
  simp only [restB, letter_low]
  congr 1
  · congr 1
    simp only [decide_eq_decide]
    split at h <;> omega
  · simp only [decide_eq_decide]
    split at h <;> omega

theorem low_low (b : UInt8) : lowB (lowB b) = lowB b := by
  refine UInt8.toNat_inj.1 ?_
  have h := lowB_nat b
  have h2 := lowB_nat (lowB b)
  split at h <;> split at h2 <;> omega

theorem small_small (s : Str) : smallS (smallS s) = smallS s := by
  simp [smallS, low_low]

theorem name_small (s : Str) : nameB (smallS s) = nameB s := by
  unfold nameB
  congr 1
  · congr 1
    · simp [smallS]
    · cases s with
      | nil => rfl
      | cons b s => simp [smallS, letter_low]
  · simp only [smallS, List.all_map]
    congr 1
    funext b
    exact rest_low b

theorem F41_eq (s : Str) (h : s.length ≤ 1000000) : F41 s = some (smallS s) := gd_pos (by omega)

theorem F113_eq (a b c : Int) : F113 a b c = some (decide (b ≤ a ∧ a ≤ c)) := by
  unfold F113
  by_cases h : b ≤ a
  · rw [if_pos h]; simp [h]
  · rw [if_neg h]; simp [h]

theorem F87_eq (b : UInt8) : F87 (b.toNat : Int) = some (letterB b) := by
  unfold F87 letterB
  by_cases h1 : 65 ≤ (b.toNat : Int) <;> by_cases h2 : (b.toNat : Int) ≤ 90 <;> by_cases h3 : 97 ≤ (b.toNat : Int) <;> simp only [h1, h2, h3, if_true, if_false, Option.some.injEq] <;> first | (symm; simp only [decide_eq_true_eq]; omega) | (symm; simp only [decide_eq_false_iff_not]; omega) | (simp only [decide_eq_decide]; omega)

theorem F50_eq (s : Str) (hl : s.length ≤ 1000000) : F50 s = some (smallS s) := by
  unfold F50
  rw [loopO_run s (fun _ a b => .inl (a ++ [lowB b])) id (fun i a => a.length = i) (by omega) rfl
    (fun i hi a hI => by
      simp only [F50_b5]
      rw [if_pos (by omega), gd_pos (by omega), Int.toNat_natCast, getD_some hi]
      have hb := UInt8.toNat_lt s[i]
      have hlb := lowB_nat s[i]
      by_cases h1 : 65 ≤ (s[i].toNat : Int)
      · rw [if_pos h1]
        by_cases h2 : (s[i].toNat : Int) ≤ 90
        · have hw : IntKind.u8.wrap ((s[i].toNat : Int) + 32) = ((lowB s[i]).toNat : Int) := by
            rw [if_pos (by omega)] at hlb
            rw [hlb]
            simp only [IntKind.wrap, IntKind.signed, IntKind.bits, Bool.false_and, Bool.false_eq_true, if_false]
            omega
          have hb2 := UInt8.toNat_lt (lowB s[i])
          rw [if_pos h2, hw, gd_pos (by omega), gd_pos (by simp only [List.length_cons, List.length_nil]; omega)]
          simp
        · rw [if_neg (by omega)] at hlb
          rw [if_neg h2, gd_pos (by omega), gd_pos (by simp only [List.length_cons, List.length_nil]; omega)]
          have : lowB s[i] = s[i] := UInt8.toNat_inj.1 hlb
          simp [this]
      · rw [if_neg (by omega)] at hlb
        rw [if_neg h1, gd_pos (by omega), gd_pos (by simp only [List.length_cons, List.length_nil]; omega)]
        have : lowB s[i] = s[i] := UInt8.toNat_inj.1 hlb
        simp [this])
    (fun i hi a a' hI h => by simp only [Sum.inl.injEq] at h; subst h; simp [hI])
    (fun a hI => by simp only [F50_b5]; rw [if_neg (by omega)]; rfl)]
  have : ∀ (l : Str) (i : Nat) (a : Str), runI (fun _ a b => (.inl (a ++ [lowB b]) : Str ⊕ Str)) id i a l = a ++ smallS l := by
    intro l
    induction l with
    | nil => intro i a; simp [runI]
    | cons x l ih => intro i a; rw [runI_cons]; simp only [ih]; simp
  rw [this]
  simp [F50_k5]

theorem F49_eq (s : Str) : F49 s = some (nameB s) := by
  unfold F49
  by_cases h1 : (s.length : Int) < 1
  · rw [if_pos h1]
    have : s = [] := List.eq_nil_of_length_eq_zero (by omega)
    subst this
    rfl
  · rw [if_neg h1]
    by_cases h2 : 64 < (s.length : Int)
    · rw [if_pos h2]
      have : nameB s = false := by simp [nameB]; omega
      rw [this]
    · rw [if_neg h2, gd_pos (by omega), F87_eq]
      have h3 : decide (1 ≤ s.length ∧ s.length ≤ 64) = true := by simp; omega
      simp only [Option.bind_some, nameB, h3, Bool.true_and]
      by_cases h4 : letterB (s.getD 0 0) = true
      · rw [if_neg (by simp only [h4, not_true, not_false_eq_true]), h4, Bool.true_and]
        rw [loopO_find s (fun _ b => if restB b = true then none else some (.inr false)) (.inl ()) (by omega)
          (fun i hi => by
            simp only [F49_b12]
            rw [if_pos (by omega), gd_pos (by omega), Int.toNat_natCast, getD_some hi, F87_eq]
            simp only [Option.bind_some]
            by_cases h5 : letterB s[i] = true
            · rw [if_neg (by simp [h5])]
              simp [restB, h5]
            · rw [if_pos h5]
              by_cases h6 : (s[i].toNat : Int) < 48
              · rw [if_pos h6]
                by_cases h7 : (s[i].toNat : Int) = 45
                · have : restB s[i] = true := by simp [restB]; omega
                  simp [h7, this]
                · have : restB s[i] = false := by simp [restB, h5]; omega
                  simp [h7, this]
              · rw [if_neg h6]
                by_cases h8 : 57 < (s[i].toNat : Int)
                · rw [if_pos h8]
                  have h7 : ¬ (s[i].toNat : Int) = 45 := by omega
                  have : restB s[i] = false := by simp [restB, h5]; omega
                  simp [h7, this]
                · rw [if_neg h8]
                  have : restB s[i] = true := by simp [restB]; omega
                  simp [this])
          (by simp only [F49_b12]; rw [if_neg (by omega)])]
        rw [findI_all]
        cases h : s.all restB <;> simp [F49_k12]
      · rw [if_pos h4]
        rw [Bool.eq_false_iff.2 h4]
        rfl

end Go.Idl

namespace Go.Idl

open Go

theorem F103_eq (s : Str) (hl : s.length ≤ 1000000) : F103 s = some (nameB s) := by
  unfold F103
  rw [gd_pos (by omega)]
  rw [loopO_find s (fun i b => if letterB b = true then none else if i = 0 then some (.inr false) else if restB b = true then none else some (.inr false)) (.inl ()) (by omega)
    (fun i hi => by
      simp only [F103_b5]
      rw [if_pos (by omega), gd_pos (by omega), Int.toNat_natCast, getD_some hi, F113_eq, F113_eq, F113_eq]
      simp only [Option.bind_some]
      by_cases h1 : letterB s[i] = true
      · rw [if_pos h1]
        have h1' := h1
        simp only [letterB, decide_eq_true_eq] at h1'
        by_cases h2 : 97 ≤ (s[i].toNat : Int) ∧ (s[i].toNat : Int) ≤ 122
        · rw [if_neg (by simp [h2])]
        · rw [if_pos (by simpa using h2), if_neg (by simp; omega)]
      · rw [if_neg h1]
        have h1' := h1
        simp only [letterB, decide_eq_true_eq] at h1'
        rw [if_pos (by simp; omega), if_pos (by simp; omega)]
        by_cases h3 : i = 0
        · rw [if_pos (by omega), if_pos h3]
        · rw [if_neg (by omega), if_neg h3]
          by_cases h4 : 48 ≤ (s[i].toNat : Int) ∧ (s[i].toNat : Int) ≤ 57
          · rw [if_neg (by simp [h4])]
            have : restB s[i] = true := by simp [restB]; omega
            rw [if_pos this]
          · rw [if_pos (by simpa using h4)]
            by_cases h5 : (s[i].toNat : Int) = 45
            · have : restB s[i] = true := by simp [restB]; omega
              rw [if_neg (by simpa using h5), if_pos this]
            · have : ¬ restB s[i] = true := by simp [restB, h1]; omega
              rw [if_pos h5, if_neg this])
    (by simp only [F103_b5]; rw [if_neg (by omega)])]
  have htl : ∀ (l : Str) (i : Nat), findI (fun i b => if letterB b = true then none else if i = 0 then some (.inr false) else if restB b = true then none else some (.inr false)) (.inl ()) (i + 1) l = if l.all restB = true then (.inl () : Unit ⊕ Bool) else .inr false := by
    intro l
    induction l with
    | nil => intro i; simp [findI]
    | cons x l ih =>
      intro i
      rw [findI_cons]
      by_cases h1 : letterB x = true
      · have h2 : restB x = true := by simp [restB, h1]
        simp only [h1, if_true, ih, List.all_cons, h2, Bool.true_and]
      · rw [if_neg h1, if_neg (by omega)]
        by_cases h2 : restB x = true
        · simp only [h2, if_true, ih, List.all_cons, Bool.true_and]
        · rw [if_neg h2]
          simp [List.all_cons, Bool.eq_false_iff.2 h2]
  cases s with
  | nil => simp [findI, F103_k5, nameB]
  | cons x l =>
    rw [findI_cons]
    by_cases h1 : letterB x = true
    · have h2 : restB x = true := by simp [restB, h1]
      rw [if_pos h1]
      simp only [htl l 0]
      by_cases h3 : l.all restB = true
      · simp only [h3, if_true, Option.bind_some, Sum.elim_inl, F103_k5, nameB, List.getD_cons_zero, h1, List.all_cons, h2, Bool.and_true]
        by_cases h4 : 1 ≤ ((x :: l).length : Int)
        · rw [if_pos h4]
          simp only [Option.some.injEq, decide_eq_decide]
          omega
        · simp at h4; omega
      · simp [h3, nameB, h1, h2]
    · rw [if_neg h1, if_pos rfl]
      simp only [Option.bind_some, Sum.elim_inr, nameB, List.getD_cons_zero]
      rw [Bool.eq_false_iff.2 h1]
      simp

theorem F45_eq (s : Str) (hl : s.length ≤ 1000000) : F45 s = some (nameB s) := by
  unfold F45
  rw [F41_eq s hl]
  simp only [Option.bind_some]
  have hl2 : (smallS s).length ≤ 1000000 := by simpa using hl
  have h102 : F102 ⟨smallS s, [120]⟩ = some (nameB s) := by
    simp only [F102, F103_eq _ hl2, Option.bind_some, name_small]
    cases h : nameB s with
    | false => rfl
    | true =>
      rw [if_pos rfl, F41_eq _ hl2]
      simp only [Option.bind_some, small_small, if_true, List.length_cons, List.length_nil]
      rfl
  have h129 : F129 [⟨smallS s, [120]⟩] = some (if nameB s = true then -1 else 0) := by
    unfold F129
    rw [loopO_find [(⟨smallS s, [120]⟩ : S112)] (fun i _ => if nameB s = true then none else some (.inr (i : Int))) (.inl ()) (by simp)
      (fun i hi => by
        simp only [F129_b4]
        have h0 : i = 0 := by simpa using hi
        subst h0
        rw [if_pos (by simp), gd_pos (by simp)]
        simp only [F115, Int.toNat_natCast, getD_some hi, List.getElem_cons_zero, h102, Option.bind_some]
        cases nameB s <;> simp)
      (by simp only [F129_b4]; rw [if_neg (by simp)])]
    cases nameB s <;> simp [findI, F129_k4]
  simp only [F84, F104, F114, h129, Option.bind_some, List.length_cons, List.length_nil]
  cases nameB s <;> simp

def valB (s : Str) : Bool := decide (1 ≤ s.length ∧ s.length ≤ 2048)

theorem F47_eq (s : Str) : F47 s = some (valB s) := by
  unfold F47 valB
  by_cases h : 1 ≤ (s.length : Int)
  · rw [if_pos h]
    simp only [Option.some.injEq, decide_eq_decide]
    omega
  · rw [if_neg h]
    symm
    simp; omega

theorem findI_place {α : Type} (p : α → Bool) : ∀ (l : List α) (i : Nat), (l.all p = true ∧ findI (fun i x => if p x = true then none else some (.inr (i : Int))) (.inl ()) i l = (.inl () : Unit ⊕ Int)) ∨ (l.all p = false ∧ ∃ j : Nat, findI (fun i x => if p x = true then none else some (.inr (i : Int))) (.inl ()) i l = (.inr (j : Int) : Unit ⊕ Int))
  | [], _ => .inl ⟨rfl, rfl⟩
  | x :: l, i => by
    rw [findI_cons]
    by_cases h : p x = true
    · rw [if_pos h]
      rcases findI_place p l (i + 1) with ⟨h1, h2⟩ | ⟨h1, j, h2⟩
      · exact .inl ⟨by simp only [List.all_cons, h, h1, Bool.true_and], h2⟩
      · exact .inr ⟨by simp only [List.all_cons, h, h1, Bool.true_and], j, h2⟩
    · rw [if_neg h]
      exact .inr ⟨by simp only [List.all_cons, Bool.eq_false_iff.2 h, Bool.false_and], i, rfl⟩

theorem F46_eq (l : List Str) (hl : l.length ≤ 1000000) : F46 l = some (l.all valB) := by
  have h100 : ∃ j : Int, F100 l = some j ∧ decide (0 ≤ j) = !l.all valB := by
    unfold F100
    rw [loopO_find l (fun i x => if valB x = true then none else some (.inr (i : Int))) (.inl ()) (by omega)
      (fun i hi => by
        simp only [F100_b4]
        rw [if_pos (by omega), gd_pos (by omega), Int.toNat_natCast, getD_some hi]
        simp only [F86, F47_eq, Option.bind_some]
        cases valB l[i] <;> simp)
      (by simp only [F100_b4]; rw [if_neg (by omega)])]
    rcases findI_place valB l 0 with ⟨h1, h2⟩ | ⟨h1, j, h2⟩
    · rw [h2, h1]; exact ⟨-1, rfl, rfl⟩
    · rw [h2, h1]; exact ⟨j, rfl, by simp⟩
  obtain ⟨j, h1, h2⟩ := h100
  simp only [F46, F85, h1, Option.bind_some, h2, Bool.not_not]

theorem F51_eq (l : List Str) (hl : l.length ≤ 1000000) : F51 l = some (l.all valB) := by
  unfold F51
  rw [loopO_find l (fun _ x => if valB x = true then none else some (.inr false)) (.inl ()) (by omega)
    (fun i hi => by
      simp only [F51_b4]
      rw [if_pos (by omega), gd_pos (by omega), Int.toNat_natCast, getD_some hi]
      by_cases h1 : (l[i].length : Int) < 1
      · have : ¬ valB l[i] = true := by simp [valB]; omega
        rw [if_pos h1, if_neg this]
      · rw [if_neg h1]
        by_cases h2 : 2048 < (l[i].length : Int)
        · have : ¬ valB l[i] = true := by simp [valB]; omega
          rw [if_pos h2, if_neg this]
        · have : valB l[i] = true := by simp [valB]; omega
          rw [if_neg h2, if_pos this])
    (by simp only [F51_b4]; rw [if_neg (by omega)])]
  rw [findI_all]
  cases l.all valB <;> simp [F51_k4]

end Go.Idl

namespace Go.Idl

open Go

def lt8 (a b : Str) : Prop := Op.bytesLess a b = true

instance (a b : Str) : Decidable (lt8 a b) := inferInstanceAs (Decidable (Op.bytesLess a b = true))

theorem lt8_iff (a b : Str) : lt8 a b ↔ a < b := by rw [lt8, Go.Proofs.bytesLess_eq, decide_eq_true_eq]

theorem lt8_irrefl (a : Str) : ¬ lt8 a a := by rw [lt8_iff]; exact List.lt_irrefl a

theorem lt8_trans {a b c : Str} (h : lt8 a b) (k : lt8 b c) : lt8 a c := by rw [lt8_iff] at *; exact List.lt_trans h k

theorem lt8_tri {a b : Str} (h : ¬ lt8 a b) (hne : ¬ a = b) : lt8 b a := by
  rw [lt8_iff] at *
  have h1 : b ≤ a := List.not_lt.1 h
  rcases List.le_iff_lt_or_eq.1 h1 with h2 | h2
  · exact h2
  · exact absurd h2.symm hne

abbrev Rise (l : List Str) : Prop := l.Pairwise lt8

theorem rise_uniq : ∀ {l m : List Str}, Rise l → Rise m → (∀ x, x ∈ l ↔ x ∈ m) → l = m
  | [], [], _, _, _ => rfl
  | [], y :: m, _, _, h => by have := (h y).2 (by simp); simp at this
  | x :: l, [], _, _, h => by have := (h x).1 (by simp); simp at this
  | x :: l, y :: m, hl, hm, h => by
    rw [Rise, List.pairwise_cons] at hl hm
    have hxy : x = y := by
      have h1 := (h x).1 (by simp)
      have h2 := (h y).2 (by simp)
      rcases List.mem_cons.1 h1 with h1 | h1
      · exact h1
      · rcases List.mem_cons.1 h2 with h2 | h2
        · exact h2.symm
        · exact absurd (lt8_trans (hm.1 x h1) (hl.1 y h2)) (lt8_irrefl y)
    subst hxy
    rw [rise_uniq hl.2 hm.2 fun z => ?_]
    constructor
    · intro hz
      have := (h z).1 (by simp [hz])
      rcases List.mem_cons.1 this with e | e
      · exact absurd (e ▸ hl.1 z hz) (lt8_irrefl _)
      · exact e
    · intro hz
      have := (h z).2 (by simp [hz])
      rcases List.mem_cons.1 this with e | e
      · exact absurd (e ▸ hm.1 z hz) (lt8_irrefl _)
      · exact e

theorem compT_mem' : ∀ (t : List Str) (p x : Str), x ∈ t → x = p ∨ x ∈ compT p t
  | [], _, _, h => by simp at h
  | y :: t, p, x, h => by
    simp only [compT]
    rcases List.mem_cons.1 h with h | h
    · by_cases e : y = p
      · exact .inl (h.trans e)
      · rw [if_neg e]; exact .inr (by simp [h])
    · rcases compT_mem' t y x h with h | h
      · by_cases e : y = p
        · exact .inl (h.trans e)
        · rw [if_neg e]; exact .inr (by simp [h])
      · split
        · exact .inr h
        · exact .inr (by simp [h])

theorem compT_rise : ∀ (t : List Str) (p : Str), (p :: t).Pairwise (fun a b => a ≤ b) → Rise (compT p t) ∧ ∀ x ∈ compT p t, lt8 p x
  | [], p, _ => by simp [compT, Rise]
  | y :: t, p, h => by
    rw [List.pairwise_cons] at h
    obtain ⟨h1, h2⟩ := compT_rise t y h.2
    have hpy := h.1 y (by simp)
    simp only [compT]
    by_cases e : y = p
    · rw [if_pos e]
      exact ⟨h1, fun x hx => e ▸ h2 x hx⟩
    · rw [if_neg e]
      have hlt : lt8 p y := by
        rw [lt8_iff]
        rcases List.le_iff_lt_or_eq.1 hpy with h | h
        · exact h
        · exact absurd h.symm e
      rw [Rise, List.pairwise_cons]
      refine ⟨⟨h2, h1⟩, fun x hx => ?_⟩
      rcases List.mem_cons.1 hx with hx | hx
      · exact hx ▸ hlt
      · exact lt8_trans hlt (h2 x hx)

theorem compT_mem : ∀ (t : List (List UInt8)) (p x : List UInt8), x ∈ compT p t → x ∈ t
  | [], _, _, h => by simp [compT] at h
  | y :: t, p, x, h => by
    simp only [compT] at h
    split at h
    · exact List.mem_cons_of_mem _ (compT_mem t y x h)
    · rcases List.mem_cons.1 h with h | h
      · rw [h]; exact List.mem_cons_self
      · exact List.mem_cons_of_mem _ (compT_mem t y x h)

theorem compact_mem {l : List (List UInt8)} {x : List UInt8} (h : x ∈ compactS l) : x ∈ l := by
  cases l with
  | nil => simp [compactS] at h
  | cons y t =>
    rcases List.mem_cons.1 h with h | h
    · rw [h]; exact List.mem_cons_self
    · exact List.mem_cons_of_mem _ (compT_mem t y x h)

theorem compact_sort (l : List Str) : Rise (compactS (sortS l)) ∧ ∀ x, x ∈ compactS (sortS l) ↔ x ∈ l := by
  have hs : (sortS l).Pairwise (fun a b => a ≤ b) := by
    have := List.pairwise_mergeSort (le := fun (x y : Str) => decide (x ≤ y)) (fun a b c h1 h2 => by simp only [decide_eq_true_eq] at *; exact List.le_trans h1 h2) (fun a b => by simp only [Bool.or_eq_true, decide_eq_true_eq]; exact List.le_total a b) l
    exact this.imp fun h => by simpa using h
  have hm : ∀ x, x ∈ sortS l ↔ x ∈ l := fun x => by simp [sortS]
  generalize sortS l = m at hs hm
  cases m with
  | nil =>
    refine ⟨by simp [compactS, Rise], fun x => ?_⟩
    rw [← hm x]; simp [compactS]
  | cons p t =>
    obtain ⟨h1, h2⟩ := compT_rise t p hs
    refine ⟨by rw [compactS, Rise, List.pairwise_cons]; exact ⟨h2, h1⟩, fun x => ?_⟩
    rw [← hm x]
    constructor
    · exact fun h => compact_mem h
    · intro h
      rw [compactS, List.mem_cons]
      rcases List.mem_cons.1 h with h | h
      · exact .inl h
      · exact compT_mem' t p x h

/-! ### In order, each once -/

def U (l : List Str) : List Str := compactS (sortS l)

theorem U_rise (l : List Str) : Rise (U l) := (compact_sort l).1

theorem U_mem (l : List Str) (x : Str) : x ∈ U l ↔ x ∈ l := (compact_sort l).2 x

theorem U_of_rise {l : List Str} (h : Rise l) : U l = l := rise_uniq (U_rise l) h fun x => U_mem l x

theorem U_congr {l m : List Str} (h : ∀ x, x ∈ l ↔ x ∈ m) : U l = U m := rise_uniq (U_rise l) (U_rise m) fun x => by rw [U_mem, U_mem, h]

theorem U_nil : U [] = [] := U_of_rise (by simp [Rise])

theorem rise_nodup {l : List Str} (h : Rise l) : l.Nodup := h.imp fun {a b} hab e => by subst e; exact lt8_irrefl _ hab

theorem U_perm {l : List Str} (h : l.Nodup) : (U l).Perm l := (List.perm_ext_iff_of_nodup (rise_nodup (U_rise l)) h).2 fun x => U_mem l x

theorem nodup_len : ∀ {l m : List Str}, l.Nodup → (∀ x, x ∈ l → x ∈ m) → l.length ≤ m.length
  | [], _, _, _ => Nat.zero_le _
  | x :: l, m, hd, hs => by
    rw [List.nodup_cons] at hd
    have hx := hs x (by simp)
    have h1 := List.length_erase_of_mem hx
    have h2 : 0 < m.length := List.length_pos_of_mem hx
    have h3 := nodup_len (m := m.erase x) hd.2 fun y hy => (List.mem_erase_of_ne (by rintro rfl; exact hd.1 hy)).2 (hs y (by simp [hy]))
    simp only [List.length_cons]
    omega

theorem U_len_le (l : List Str) : (U l).length ≤ l.length := nodup_len (rise_nodup (U_rise l)) fun x hx => (U_mem l x).1 hx

theorem not_nodup : ∀ {l : List Str}, ¬ l.Nodup → ∃ m : List Str, m.length < l.length ∧ ∀ x, x ∈ l → x ∈ m
  | [], h => absurd List.nodup_nil h
  | x :: l, h => by
    by_cases hx : x ∈ l
    · exact ⟨l, by simp, fun y hy => by rcases List.mem_cons.1 hy with rfl | hy <;> assumption⟩
    · obtain ⟨m, h1, h2⟩ := not_nodup (l := l) fun hn => h (List.nodup_cons.2 ⟨hx, hn⟩)
      exact ⟨x :: m, by simp; omega, fun y hy => by
        rcases List.mem_cons.1 hy with rfl | hy
        · simp
        · exact List.mem_cons_of_mem _ (h2 y hy)⟩

theorem U_len_nodup (l : List Str) : (U l).length < l.length ↔ ¬ l.Nodup := by
  constructor
  · intro h hn
    have := (U_perm hn).length_eq
    omega
  · intro h
    obtain ⟨m, h1, h2⟩ := not_nodup h
    have := nodup_len (rise_nodup (U_rise l)) fun x hx => h2 x ((U_mem l x).1 hx)
    omega

theorem rise_adj (l : List Str) : Rise l ↔ ∀ i, 1 ≤ i → (h : i < l.length) → lt8 (l[i - 1]'(by omega)) l[i] := by
  constructor
  · intro h i h1 h2
    exact List.pairwise_iff_getElem.1 h (i - 1) i (by omega) h2 (by omega)
  · intro h
    rw [Rise, List.pairwise_iff_getElem]
    intro i j hi hj hij
    obtain ⟨d, rfl⟩ : ∃ d, j = i + 1 + d := ⟨j - i - 1, by omega⟩
    induction d with
    | zero => have := h (i + 1) (by omega) (by omega); simpa using this
    | succ d ih =>
      have h1 := ih (by omega) (by omega)
      have h2 := h (i + 1 + (d + 1)) (by omega) hj
      exact lt8_trans h1 (by simpa using h2)

theorem loopO_allI {ρ : Type} {step : Int → Option (Int ⊕ ρ)} (k n : Nat) (p : Nat → Prop) [∀ i, Decidable (p i)] (bad good : ρ) (hn : n ≤ 1000000000)
    (hs : ∀ i : Nat, k ≤ i → i < n → step (i : Int) = some (if p i then .inl (IntKind.i64.wrap ((i : Int) + 1)) else .inr bad))
    (hf : ∀ i : Nat, n ≤ i → step (i : Int) = some (.inr good)) : ∃ r, loopO step (k : Int) = some r ∧ ((∀ i, k ≤ i → i < n → p i) ∧ r = good ∨ (¬ ∀ i, k ≤ i → i < n → p i) ∧ r = bad) := by
  refine loopO_inv (fun s : Int => ∃ i : Nat, k ≤ i ∧ s = (i : Int) ∧ ∀ j, k ≤ j → j < i → j < n → p j) (fun s : Int => n - s.toNat) ?_ ⟨k, Nat.le_refl _, rfl, fun j h1 h2 => by omega⟩
  rintro s ⟨i, hi, rfl, hI⟩
  by_cases h : i < n
  · rw [hs i hi h]
    by_cases hp : p i
    · rw [if_pos hp, wrap_nat (by omega)]
      refine .inl ⟨_, rfl, ⟨i + 1, by omega, rfl, fun j h1 h2 h3 => ?_⟩, by simp; omega⟩
      rcases Nat.lt_or_ge j i with h4 | h4
      · exact hI j h1 h4 h3
      · have : j = i := by omega
        subst this; exact hp
    · rw [if_neg hp]
      exact .inr ⟨_, rfl, .inr ⟨fun h' => hp (h' i hi h), rfl⟩⟩
  · rw [hf i (by omega)]
    exact .inr ⟨_, rfl, .inl ⟨fun j h1 h2 => hI j h1 (by omega) h2, rfl⟩⟩

instance (l : List Str) : Decidable (Rise l) := inferInstanceAs (Decidable (l.Pairwise lt8))

end Go.Idl

namespace Go.Idl

open Go

theorem F48_eq (l : List Str) (hl : l.length ≤ 1000000) : F48 l = some (decide (Rise l)) := by
  unfold F48
  obtain ⟨r, h1, h2⟩ := loopO_allI (step := fun (s : Int) => F48_b4 l s) 1 l.length (fun i => lt8 (l.getD (i - 1) []) (l.getD i [])) (.inr false) (.inl ()) (by omega)
    (fun i hi1 hi => by
      simp only [F48_b4]
      have hw : IntKind.i64.wrap ((i : Int) - 1) = ((i - 1 : Nat) : Int) := by rw [wrap_i64 (by omega) (by omega)]; omega
      rw [if_pos (by omega), hw, gd_pos (by omega), gd_pos (by omega), Int.toNat_natCast, Int.toNat_natCast]
      by_cases h : lt8 (l.getD (i - 1) []) (l.getD i [])
      · rw [if_pos h]
        simp only [lt8] at h
        rw [if_neg (fun hh => hh h)]
      · rw [if_neg h]
        simp only [lt8] at h
        rw [if_pos h])
    (fun i hi => by simp only [F48_b4]; rw [if_neg (by omega)])
  rw [show ((1 : Nat) : Int) = 1 from rfl] at h1
  rw [h1]
  have hr : Rise l ↔ ∀ i, 1 ≤ i → i < l.length → lt8 (l.getD (i - 1) []) (l.getD i []) := by
    rw [rise_adj]
    constructor
    · intro h i a b
      have := h i a b
      rwa [getD_some b, getD_some (by omega)]
    · intro h i a b
      have := h i a b
      rwa [getD_some b, getD_some (by omega)] at this
  rcases h2 with ⟨h, rfl⟩ | ⟨h, rfl⟩
  · rw [← hr] at h
    simp [F48_k4, h]
  · rw [← hr] at h
    simp [h]

def okA (a : S50) : Bool := nameB a.fName && decide (smallS a.fName = a.fName) && decide (1 ≤ a.fValues.length ∧ a.fValues.length ≤ 16) && a.fValues.all valB && decide (Rise a.fValues)

def rightB (e : List S50) : Bool := decide (e.length ≤ 24) && e.all okA && decide (Rise (e.map (·.fName)))

structure SzE (e : List S50) : Prop where
  len : e.length ≤ 1000000
  name : ∀ a, a ∈ e → a.fName.length ≤ 1000000
  vals : ∀ a, a ∈ e → a.fValues.length ≤ 1000000

theorem runI_all {α β : Type} (p : α → Bool) (g : α → β) (bad : Int) (fin : List β → (List β) ⊕ Int) : ∀ (l : List α) (i : Nat) (a : List β),
    runI (fun _ a x => if p x = true then .inl (a ++ [g x]) else .inr (.inr bad)) fin i a l = if l.all p = true then fin (a ++ l.map g) else .inr bad
  | [], _, a => by simp [runI]
  | x :: l, i, a => by
    rw [runI_cons]
    by_cases h : p x = true
    · rw [if_pos h]
      simp only [runI_all p g bad fin l (i + 1), List.all_cons, h, Bool.true_and, List.append_assoc, List.map_cons]
      rfl
    · rw [if_neg h]
      simp only [List.all_cons, Bool.eq_false_iff.2 h, Bool.false_and, Bool.false_eq_true, if_false]

theorem F17_eq (e : List S50) (hs : SzE e) : F17 e = some (if rightB e = true then 0 else 2) := by
  have h1 := hs.len
  unfold F17
  rw [loopO_run e (fun _ a x => if okA x = true then .inl (a ++ [x.fName]) else .inr (.inr 2)) .inl (fun i a => a.length = i) (by omega) rfl
    (fun i hi a hI => by
      have hm := List.getElem_mem hi
      have hn := hs.name _ hm
      have hv := hs.vals _ hm
      simp only [F17_b5]
      rw [if_pos (by omega), gd_pos (by omega), gd_pos (by simp only [List.length_cons, List.length_nil]; omega), Int.toNat_natCast, getD_some hi, F45_eq _ hn]
      simp only [Option.bind_some]
      by_cases g1 : nameB e[i].fName = true
      · rw [if_neg (by simp [g1]), F41_eq _ hn]
        simp only [Option.bind_some]
        by_cases g2 : smallS e[i].fName = e[i].fName
        · rw [if_neg (by simp only [g2, not_true, not_false_eq_true])]
          by_cases g3 : (e[i].fValues.length : Int) < 1
          · rw [if_pos g3]
            have : ¬ okA e[i] = true := by simp [okA]; omega
            rw [if_neg this]
          · rw [if_neg g3]
            by_cases g4 : 16 < (e[i].fValues.length : Int)
            · rw [if_pos g4]
              have : ¬ okA e[i] = true := by simp [okA]; omega
              rw [if_neg this]
            · rw [if_neg g4, F46_eq _ hv]
              simp only [Option.bind_some]
              by_cases g5 : e[i].fValues.all valB = true
              · rw [if_neg (by simp only [g5, not_true, not_false_eq_true]), F48_eq _ hv]
                simp only [Option.bind_some]
                by_cases g6 : Rise e[i].fValues
                · rw [if_neg (by simp only [g6, decide_true, not_true, not_false_eq_true])]
                  have g34 : 1 ≤ e[i].fValues.length ∧ e[i].fValues.length ≤ 16 := by omega
                  have : okA e[i] = true := by simp only [okA, g1, g2, g5, g6, g34, decide_true, Bool.true_and, and_self]
                  rw [if_pos this]
                · rw [if_pos (by simp only [g6, decide_false, Bool.false_eq_true, not_false_eq_true])]
                  have : ¬ okA e[i] = true := by simp only [okA, g6, decide_false, Bool.and_false, Bool.false_eq_true, not_false_eq_true]
                  rw [if_neg this]
              · rw [if_pos g5]
                have : ¬ okA e[i] = true := by simp only [okA, Bool.eq_false_iff.2 g5, Bool.and_false, Bool.false_and, Bool.false_eq_true, not_false_eq_true]
                rw [if_neg this]
        · rw [if_pos g2]
          have : ¬ okA e[i] = true := by simp only [okA, g2, decide_false, Bool.and_false, Bool.false_and, Bool.false_eq_true, not_false_eq_true]
          rw [if_neg this]
      · rw [if_pos g1]
        have : ¬ okA e[i] = true := by simp only [okA, Bool.eq_false_iff.2 g1, Bool.false_and, Bool.false_eq_true, not_false_eq_true]
        rw [if_neg this])
    (fun i hi a a' hI h => by
      split at h
      · simp only [Sum.inl.injEq] at h; subst h; simp [hI]
      · cases h)
    (fun a hI => by simp only [F17_b5]; rw [if_neg (by omega)])]
  rw [runI_all]
  simp only [List.nil_append]
  cases g : e.all okA with
  | false => simp [rightB, g]
  | true =>
    simp only [if_true, Option.bind_some, Sum.elim_inl, F17_k5]
    by_cases g2 : 24 < (e.length : Int)
    · have : rightB e = false := by simp [rightB]; omega
      rw [if_pos g2, this]; rfl
    · rw [if_neg g2, F48_eq _ (by simpa using hs.len)]
      simp only [Option.bind_some]
      have g3 : decide (e.length ≤ 24) = true := by simp; omega
      by_cases g4 : Rise (e.map (·.fName))
      · simp [rightB, g, g3, g4]
      · simp [rightB, g, g3, g4]

end Go.Idl

namespace Go.Idl

open Go

theorem F18_eq (e : List S50) (hs : SzE e) : F18 e = some (rightB e) := by
  have h1 := hs.len
  unfold F18
  by_cases hc : 24 < (e.length : Int)
  · rw [if_pos hc]
    have : rightB e = false := by simp [rightB]; omega
    rw [this]
  · rw [if_neg hc]
    have h24 : decide (e.length ≤ 24) = true := by simp; omega
    obtain ⟨r, q1, q2⟩ := loopO_allI (step := fun (s : Int) => F18_b8 e s) 0 e.length (fun i => okA (e.getD i S50.zero) = true ∧ (1 ≤ i → lt8 (e.getD (i - 1) S50.zero).fName (e.getD i S50.zero).fName)) (.inr false) (.inl ()) (by omega)
      (fun i _ hi => by
        have hm := List.getElem_mem hi
        have hn := hs.name _ hm
        have hv := hs.vals _ hm
        have hgi : e.getD i S50.zero = e[i] := getD_some hi _
        -- the values, neighbour by neighbour
        have hval : ∀ (w : nameB e[i].fName = true ∧ smallS e[i].fName = e[i].fName ∧ (1 ≤ e[i].fValues.length ∧ e[i].fValues.length ≤ 16) ∧ e[i].fValues.all valB = true), F18_k17 e (i : Int) = some (if okA e[i] = true then .inl (IntKind.i64.wrap ((i : Int) + 1)) else .inr (.inr false)) := by
          rintro ⟨w1, w2, w3, w4⟩
          have hok : okA e[i] = decide (Rise e[i].fValues) := by simp only [okA, w1, w2, w3, w4, decide_true, Bool.true_and, and_self]
          rw [hok]
          unfold F18_k17
          obtain ⟨r, p1, p2⟩ := loopO_allI (step := fun (s : Int) => F18_b19 e (i : Int) s) 1 e[i].fValues.length (fun j => lt8 (e[i].fValues.getD (j - 1) []) (e[i].fValues.getD j [])) (.inr false) (.inl ()) (by omega)
            (fun j hj1 hj => by
              simp only [F18_b19]
              have hw : IntKind.i64.wrap ((j : Int) - 1) = ((j - 1 : Nat) : Int) := by rw [wrap_i64 (by omega) (by omega)]; omega
              rw [Int.toNat_natCast, hgi, if_pos (by omega), hw, gd_pos (by omega), gd_pos (by omega), Int.toNat_natCast, Int.toNat_natCast]
              by_cases h : lt8 (e[i].fValues.getD (j - 1) []) (e[i].fValues.getD j [])
              · rw [if_pos h]
                simp only [lt8] at h
                rw [if_neg (fun hh => hh h)]
              · rw [if_neg h]
                simp only [lt8] at h
                rw [if_pos h])
            (fun j hj => by simp only [F18_b19]; rw [Int.toNat_natCast, hgi, if_neg (by omega)])
          rw [show ((1 : Nat) : Int) = 1 from rfl] at p1
          rw [p1]
          have hr : Rise e[i].fValues ↔ ∀ j, 1 ≤ j → j < e[i].fValues.length → lt8 (e[i].fValues.getD (j - 1) []) (e[i].fValues.getD j []) := by
            rw [rise_adj]
            constructor
            · intro h j a b
              have := h j a b
              rwa [getD_some b, getD_some (by omega)]
            · intro h j a b
              have := h j a b
              rwa [getD_some b, getD_some (by omega)] at this
          rcases p2 with ⟨h, rfl⟩ | ⟨h, rfl⟩
          · rw [← hr] at h
            simp [F18_k19, h]
          · rw [← hr] at h
            simp [h]
        simp only [F18_b8]
        rw [if_pos (by omega), gd_pos (by omega), Int.toNat_natCast]
        simp only [hgi, F49_eq, Option.bind_some]
        have bad : ∀ {α : Type} {x y : α}, ¬ okA e[i] = true → (if okA e[i] = true ∧ (1 ≤ i → lt8 (e.getD (i - 1) S50.zero).fName e[i].fName) then x else y) = y := fun h => if_neg fun hh => h hh.1
        by_cases g1 : nameB e[i].fName = true
        · rw [if_neg (by simp [g1]), F50_eq _ hn]
          simp only [Option.bind_some]
          by_cases g2 : smallS e[i].fName = e[i].fName
          · rw [if_neg (by simp only [g2, not_true, not_false_eq_true])]
            by_cases g3 : (e[i].fValues.length : Int) < 1
            · rw [if_pos g3, bad (by simp [okA]; omega)]
            · rw [if_neg g3]
              by_cases g4 : 16 < (e[i].fValues.length : Int)
              · rw [if_pos g4, bad (by simp [okA]; omega)]
              · rw [if_neg g4, F51_eq _ hv]
                simp only [Option.bind_some]
                by_cases g5 : e[i].fValues.all valB = true
                · rw [if_neg (by simp only [g5, not_true, not_false_eq_true])]
                  have g34 : 1 ≤ e[i].fValues.length ∧ e[i].fValues.length ≤ 16 := by omega
                  by_cases g6 : 0 < (i : Int)
                  · have hw : IntKind.i64.wrap ((i : Int) - 1) = ((i - 1 : Nat) : Int) := by rw [wrap_i64 (by omega) (by omega)]; omega
                    rw [if_pos g6, hw, gd_pos (by omega), Int.toNat_natCast]
                    by_cases g7 : lt8 (e.getD (i - 1) S50.zero).fName e[i].fName
                    · have g7' := g7
                      simp only [lt8] at g7'
                      rw [if_neg (fun hh => hh g7'), hval ⟨g1, g2, g34, g5⟩]
                      by_cases g8 : okA e[i] = true
                      · rw [if_pos g8, if_pos ⟨g8, fun _ => g7⟩]
                      · rw [if_neg g8, bad g8]
                    · have g7' := g7
                      simp only [lt8] at g7'
                      rw [if_pos g7', if_neg (fun hh => g7 (hh.2 (by omega)))]
                  · rw [if_neg g6, hval ⟨g1, g2, g34, g5⟩]
                    by_cases g8 : okA e[i] = true
                    · rw [if_pos g8, if_pos ⟨g8, fun h => by omega⟩]
                    · rw [if_neg g8, bad g8]
                · rw [if_pos g5, bad (by simp only [okA, Bool.eq_false_iff.2 g5, Bool.and_false, Bool.false_and, Bool.false_eq_true, not_false_eq_true])]
          · rw [if_pos g2, bad (by simp only [okA, g2, decide_false, Bool.and_false, Bool.false_and, Bool.false_eq_true, not_false_eq_true])]
        · rw [if_pos g1, bad (by simp only [okA, Bool.eq_false_iff.2 g1, Bool.false_and, Bool.false_eq_true, not_false_eq_true])])
      (fun i hi => by simp only [F18_b8]; rw [if_neg (by omega)])
    rw [show ((0 : Nat) : Int) = 0 from rfl] at q1
    rw [q1]
    have hr : rightB e = true ↔ ∀ i, 0 ≤ i → i < e.length → okA (e.getD i S50.zero) = true ∧ (1 ≤ i → lt8 (e.getD (i - 1) S50.zero).fName (e.getD i S50.zero).fName) := by
      simp only [rightB, h24, Bool.true_and, Bool.and_eq_true, decide_eq_true_eq, List.all_eq_true]
      rw [rise_adj]
      constructor
      · rintro ⟨a, b⟩ i _ hi
        rw [getD_some hi]
        refine ⟨a _ (List.getElem_mem hi), fun h1 => ?_⟩
        rw [getD_some (by omega)]
        have := b i h1 (by simpa using hi)
        simpa using this
      · intro h
        constructor
        · intro x hx
          obtain ⟨i, hi, rfl⟩ := List.getElem_of_mem hx
          have := (h i (by omega) hi).1
          rwa [getD_some hi] at this
        · intro i h1 hi
          have hi' : i < e.length := by simpa using hi
          have := (h i (by omega) hi').2 h1
          rw [getD_some hi', getD_some (by omega)] at this
          simpa using this
    rcases q2 with ⟨h, rfl⟩ | ⟨h, rfl⟩
    · rw [← hr] at h
      simp [F18_k8, h]
    · rw [← hr] at h
      simp [h]

end Go.Idl

namespace Go.Idl

open Go

section

variable {α : Type} (key : α → Str) (k : Str) (new : α)

def insG : List α → List α
  | [] => [new]
  | x :: l => if lt8 (key x) k then x :: insG l else if key x = k then new :: l else new :: x :: l

def stepG (s : List α × Bool) (x : α) : List α × Bool :=
  let s1 := if s.2 = false ∧ ¬ lt8 (key x) k then (s.1 ++ [new], true) else s
  if key x = k then s1 else (s1.1 ++ [x], s1.2)

end

theorem runI_inl {α σ ρ : Type} (g : σ → α → σ) (fin : σ → ρ) : ∀ (l : List α) (i : Nat) (a : σ), runI (fun _ a x => .inl (g a x)) fin i a l = fin (l.foldl g a)
  | [], _, _ => rfl
  | x :: l, i, a => by rw [runI_cons, List.foldl_cons]; exact runI_inl g fin l (i + 1) (g a x)

def setE (e : List S50) (n : Str) (v : List Str) : List S50 := if v = [] then e.filter (fun x => !decide (x.fName = n)) else insG (·.fName) n ⟨n, v⟩ e

end Go.Idl

namespace Go.Idl

open Go

def getE : List S50 → Str → List Str
  | [], _ => []
  | a :: e, n => if a.fName = n then a.fValues else getE e n

theorem F23_eq (e : List S50) (n : Str) (hl : e.length ≤ 1000000) (hn : n.length ≤ 1000000) : F23 e n = some (getE e (smallS n)) := by
  unfold F23
  rw [loopO_find e (fun _ x => if x.fName = smallS n then some (.inr x.fValues) else none) (.inl ()) (by omega)
    (fun i hi => by
      simp only [F23_b4]
      rw [if_pos (by omega), gd_pos (by omega), Int.toNat_natCast, getD_some hi, F50_eq n hn]
      simp only [Option.bind_some]
      by_cases h : e[i].fName = smallS n
      · rw [if_pos h, if_pos h]
      · rw [if_neg h, if_neg h])
    (by simp only [F23_b4]; rw [if_neg (by omega)])]
  have : ∀ (l : List S50) (i : Nat), (Sum.elim (fun (_ : Unit) => F23_k4) (fun (q : List Str) => some q) (findI (fun _ x => if x.fName = smallS n then some (.inr x.fValues) else none) (.inl ()) i l)) = some (getE l (smallS n)) := by
    intro l
    induction l with
    | nil => intro i; rfl
    | cons x l ih =>
      intro i
      rw [findI_cons]
      by_cases h : x.fName = smallS n
      · simp [getE, h]
      · simp only [getE, h, if_false]
        exact ih (i + 1)
  exact this e 0

theorem F22_eq (e : List S50) (n : Str) (hs : SzE e) (hn : n.length ≤ 1000000) : F22 e n = some (getE e (smallS n)) := by
  have hl := hs.len
  unfold F22
  rw [loopO_find e (fun _ x => if x.fName = smallS n then some (.inr x.fValues) else none) (.inl ()) (by omega)
    (fun i hi => by
      have hv := hs.vals _ (List.getElem_mem hi)
      simp only [F22_b4]
      rw [if_pos (by omega), gd_pos (by omega), Int.toNat_natCast, getD_some hi, F41_eq n hn]
      simp only [Option.bind_some]
      by_cases h : e[i].fName = smallS n
      · rw [if_pos h, if_pos h, F56, gd_pos (by omega)]
        rfl
      · rw [if_neg h, if_neg h])
    (by simp only [F22_b4]; rw [if_neg (by omega)])]
  have : ∀ (l : List S50) (i : Nat), (Sum.elim (fun (_ : Unit) => F22_k4) (fun (q : List Str) => some q) (findI (fun _ x => if x.fName = smallS n then some (.inr x.fValues) else none) (.inl ()) i l)) = some (getE l (smallS n)) := by
    intro l
    induction l with
    | nil => intro i; rfl
    | cons x l ih =>
      intro i
      rw [findI_cons]
      by_cases h : x.fName = smallS n
      · simp [getE, h]
      · simp only [getE, h, if_false]
        exact ih (i + 1)
  exact this e 0

theorem eq_getD {α : Type} {a b : List α} (d : α) (hl : a.length = b.length) : a = b ↔ ∀ i, 0 ≤ i → i < a.length → a.getD i d = b.getD i d := by
  constructor
  · rintro rfl i _ _; rfl
  · intro h
    refine List.ext_getElem hl fun i h1 h2 => ?_
    have := h i (by omega) h1
    rwa [getD_some h1, getD_some h2] at this

theorem F21_eq (a b : List Str) (ha : a.length ≤ 1000000) : F21 a b = some (decide (a = b)) := by
  unfold F21
  by_cases hc : (a.length : Int) = b.length
  · rw [if_neg (by simpa using hc)]
    obtain ⟨r, q1, q2⟩ := loopO_allI (step := fun (s : Int) => F21_b8 a b s) 0 a.length (fun i => a.getD i [] = b.getD i []) (.inr false) (.inl ()) (by omega)
      (fun i _ hi => by
        simp only [F21_b8]
        rw [if_pos (by omega), gd_pos (by omega), gd_pos (by omega), Int.toNat_natCast]
        by_cases h : a.getD i [] = b.getD i []
        · rw [if_neg (fun hh => hh h), if_pos h]
        · rw [if_pos h, if_neg h])
      (fun i hi => by simp only [F21_b8]; rw [if_neg (by omega)])
    rw [show ((0 : Nat) : Int) = 0 from rfl] at q1
    rw [q1]
    have he := eq_getD (a := a) (b := b) [] (by omega)
    rcases q2 with ⟨h, rfl⟩ | ⟨h, rfl⟩
    · rw [← he] at h; simp [F21_k8, h]
    · rw [← he] at h; simp [h]
  · rw [if_pos hc]
    have : ¬ a = b := by rintro rfl; exact hc rfl
    simp [this]

theorem F60_eq (a b : List Str) (ha : a.length ≤ 1000000) : F60 a b = some (decide (a = b)) := by
  unfold F60
  by_cases hc : (a.length : Int) = b.length
  · rw [if_neg (by simpa using hc)]
    obtain ⟨r, q1, q2⟩ := loopO_allI (step := fun (s : Int) => F60_b8 a b s) 0 a.length (fun i => a.getD i [] = b.getD i []) (.inr false) (.inl ()) (by omega)
      (fun i _ hi => by
        simp only [F60_b8]
        rw [if_pos (by omega), gd_pos (by omega), gd_pos (by omega), Int.toNat_natCast]
        by_cases h : a.getD i [] = b.getD i []
        · rw [if_neg (fun hh => hh h), if_pos h]
        · rw [if_pos h, if_neg h])
      (fun i hi => by simp only [F60_b8]; rw [if_neg (by omega)])
    rw [show ((0 : Nat) : Int) = 0 from rfl] at q1
    rw [q1]
    have he := eq_getD (a := a) (b := b) [] (by omega)
    rcases q2 with ⟨h, rfl⟩ | ⟨h, rfl⟩
    · rw [← he] at h; simp [F60_k8, h]
    · rw [← he] at h; simp [h]
  · rw [if_pos hc]
    have : ¬ a = b := by rintro rfl; exact hc rfl
    simp [this]

theorem S50_eq {x y : S50} : x = y ↔ x.fName = y.fName ∧ x.fValues = y.fValues := by cases x; cases y; simp

theorem F16_eq (a b : List S50) (hs : SzE a) : F16 a b = some (decide (a = b)) := by
  have ha := hs.len
  unfold F16
  by_cases hc : (a.length : Int) = b.length
  · rw [if_neg (by simpa using hc)]
    obtain ⟨r, q1, q2⟩ := loopO_allI (step := fun (s : Int) => F16_b8 a b s) 0 a.length (fun i => a.getD i S50.zero = b.getD i S50.zero) (.inr false) (.inl ()) (by omega)
      (fun i _ hi => by
        have hv := hs.vals _ (List.getElem_mem hi)
        simp only [F16_b8]
        rw [if_pos (by omega), gd_pos (by omega), gd_pos (by omega), Int.toNat_natCast]
        by_cases h1 : (a.getD i S50.zero).fName = (b.getD i S50.zero).fName
        · rw [if_neg (fun hh => hh h1), F21_eq _ _ (by rw [getD_some hi]; exact hv)]
          simp only [Option.bind_some]
          by_cases h2 : (a.getD i S50.zero).fValues = (b.getD i S50.zero).fValues
          · rw [if_neg (by simp only [h2, decide_true, not_true, not_false_eq_true]), if_pos (S50_eq.2 ⟨h1, h2⟩)]
          · rw [if_pos (by simp only [h2, decide_false, Bool.false_eq_true, not_false_eq_true]), if_neg (fun hh => h2 (S50_eq.1 hh).2)]
        · rw [if_pos h1, if_neg (fun hh => h1 (S50_eq.1 hh).1)])
      (fun i hi => by simp only [F16_b8]; rw [if_neg (by omega)])
    rw [show ((0 : Nat) : Int) = 0 from rfl] at q1
    rw [q1]
    have he := eq_getD (a := a) (b := b) S50.zero (by omega)
    rcases q2 with ⟨h, rfl⟩ | ⟨h, rfl⟩
    · rw [← he] at h; simp [F16_k8, h]
    · rw [← he] at h; simp [h]
  · rw [if_pos hc]
    have : ¬ a = b := by rintro rfl; exact hc rfl
    simp [this]

/-! ### Entries in order -/

structure SrtE (e : List S50) : Prop where
  names : Rise (e.map (·.fName))
  vals : ∀ a, a ∈ e → a.fValues ≠ [] ∧ Rise a.fValues

theorem getE_mem {e : List S50} (h : Rise (e.map (·.fName))) {a : S50} (ha : a ∈ e) : getE e a.fName = a.fValues := by
  induction e with
  | nil => simp at ha
  | cons x e ih =>
    rw [List.map_cons, Rise, List.pairwise_cons] at h
    rcases List.mem_cons.1 ha with rfl | ha
    · simp [getE]
    · have h1 := h.1 a.fName (List.mem_map_of_mem ha)
      have : ¬ x.fName = a.fName := fun e => lt8_irrefl _ (e ▸ h1)
      simp only [getE, this, if_false]
      exact ih h.2 ha

theorem getE_none {e : List S50} {n : Str} (h : ∀ a, a ∈ e → a.fName ≠ n) : getE e n = [] := by
  induction e with
  | nil => rfl
  | cons x e ih =>
    simp only [getE, h x (by simp), if_false]
    exact ih fun a ha => h a (by simp [ha])

theorem mem_names {e : List S50} (hs : SrtE e) (n : Str) : n ∈ e.map (·.fName) ↔ getE e n ≠ [] := by
  constructor
  · intro h
    obtain ⟨a, ha, rfl⟩ := List.mem_map.1 h
    rw [getE_mem hs.names ha]
    exact (hs.vals a ha).1
  · intro h
    rcases Classical.em (n ∈ e.map (·.fName)) with h' | h'
    · exact h'
    · exfalso
      exact h (getE_none fun a ha e => h' (e ▸ List.mem_map_of_mem ha))

theorem e_form {e : List S50} (h : Rise (e.map (·.fName))) : e = (e.map (·.fName)).map fun n => ⟨n, getE e n⟩ := by
  rw [List.map_map]
  symm
  calc e.map ((fun n => (⟨n, getE e n⟩ : S50)) ∘ fun x => x.fName) = e.map id := List.map_congr_left fun a ha => by
        simp only [Function.comp, getE_mem h ha, id]
    _ = e := List.map_id e

theorem srt_uniq {e f : List S50} (he : SrtE e) (hf : SrtE f) (h : ∀ n, getE e n = getE f n) : e = f := by
  have hn : e.map (·.fName) = f.map (·.fName) := rise_uniq he.names hf.names fun n => by rw [mem_names he, mem_names hf, h]
  rw [e_form he.names, e_form hf.names, hn]
  exact List.map_congr_left fun n _ => by rw [h]

theorem insG_mem {e : List S50} {n : Str} {v : List Str} {a : S50} (h : a ∈ insG (·.fName) n ⟨n, v⟩ e) : a = ⟨n, v⟩ ∨ a ∈ e := by
  induction e with
  | nil => simpa [insG] using h
  | cons x e ih =>
    simp only [insG] at h
    split at h
    · rcases List.mem_cons.1 h with h | h
      · exact .inr (by simp [h])
      · rcases ih h with h | h
        · exact .inl h
        · exact .inr (by simp [h])
    · split at h
      · rcases List.mem_cons.1 h with h | h
        · exact .inl h
        · exact .inr (by simp [h])
      · rcases List.mem_cons.1 h with h | h
        · exact .inl h
        · exact .inr h

theorem insG_rise {e : List S50} {n : Str} {v : List Str} (h : Rise (e.map (·.fName))) : Rise ((insG (·.fName) n ⟨n, v⟩ e).map (·.fName)) := by
  induction e with
  | nil => simp [insG, Rise]
  | cons x e ih =>
    rw [List.map_cons, Rise, List.pairwise_cons] at h
    simp only [insG]
    split
    · rename_i hlt
      rw [List.map_cons, Rise, List.pairwise_cons]
      refine ⟨fun m hm => ?_, ih h.2⟩
      obtain ⟨a, ha, rfl⟩ := List.mem_map.1 hm
      rcases insG_mem ha with rfl | ha
      · exact hlt
      · exact h.1 _ (List.mem_map_of_mem ha)
    · rename_i hlt
      split
      · rename_i he
        rw [List.map_cons, Rise, List.pairwise_cons]
        exact ⟨he ▸ h.1, h.2⟩
      · rename_i hne
        have hnx : lt8 n x.fName := lt8_tri hlt hne
        rw [List.map_cons, List.map_cons, Rise, List.pairwise_cons, List.pairwise_cons]
        refine ⟨fun m hm => ?_, h⟩
        rcases List.mem_cons.1 hm with rfl | hm
        · exact hnx
        · exact lt8_trans hnx (h.1 m hm)

theorem insG_get {e : List S50} {n : Str} {v : List Str} (h : Rise (e.map (·.fName))) (m : Str) : getE (insG (·.fName) n ⟨n, v⟩ e) m = if m = n then v else getE e m := by
  induction e with
  | nil =>
    simp only [insG, getE]
    by_cases hm : m = n
    · simp [hm]
    · rw [if_neg (fun e => hm e.symm), if_neg hm]
  | cons x e ih =>
    rw [List.map_cons, Rise, List.pairwise_cons] at h
    simp only [insG]
    split
    · rename_i hlt
      simp only [getE, ih h.2]
      by_cases hx : x.fName = m
      · subst hx
        have : ¬ x.fName = n := fun e => lt8_irrefl n (e ▸ hlt)
        rw [if_pos rfl, if_neg this, if_pos rfl]
      · rw [if_neg hx, if_neg hx]
    · split
      · rename_i he
        simp only [getE]
        by_cases hm : m = n
        · simp [hm]
        · rw [if_neg (fun e => hm e.symm), if_neg hm, if_neg (fun e => hm (e.symm.trans he))]
      · simp only [getE]
        by_cases hm : m = n
        · simp [hm]
        · rw [if_neg (fun e => hm e.symm), if_neg hm]

theorem setE_srt {e : List S50} {n : Str} {v : List Str} (he : SrtE e) (hv : Rise v) : SrtE (setE e n v) := by
  unfold setE
  split
  · refine ⟨?_, fun a ha => he.vals a (List.mem_filter.1 ha).1⟩
    exact (he.names.sublist (List.filter_sublist.map _))
  · rename_i hne
    refine ⟨insG_rise he.names, fun a ha => ?_⟩
    rcases insG_mem ha with rfl | ha
    · exact ⟨hne, hv⟩
    · exact he.vals a ha

theorem setE_get {e : List S50} {n : Str} {v : List Str} (he : SrtE e) (m : Str) : getE (setE e n v) m = if m = n then v else getE e m := by
  unfold setE
  split
  · rename_i hv
    subst hv
    have key : ∀ (e : List S50), getE (e.filter fun x => !decide (x.fName = n)) m = if m = n then [] else getE e m := by
      intro e
      induction e with
      | nil => simp [getE]
      | cons x e ih =>
        by_cases hx : x.fName = n
        · rw [List.filter_cons_of_neg (by simp [hx]), ih]
          by_cases hm : m = n
          · simp [hm]
          · rw [if_neg hm, if_neg hm]
            simp only [getE]
            rw [if_neg (fun e => hm (e.symm.trans hx))]
        · rw [List.filter_cons_of_pos (by simp [hx])]
          simp only [getE]
          by_cases hxm : x.fName = m
          · rw [if_pos hxm, if_pos hxm, if_neg (fun e => hx (hxm.trans e))]
          · rw [if_neg hxm, if_neg hxm, ih]
    exact key e
  · exact insG_get he.names m

end Go.Idl

namespace Go.Idl

open Go

abbrev Tab := List (Str × List Str)

def keysT (t : Tab) : List Str := t.map (·.1)

def gT (t : Tab) (n : Str) : List Str := (mget t n).getD []

def vT (t : Tab) (n : Str) : List Str := U (gT t n)

def entT (t : Tab) : List S50 := ((U (keysT t)).map fun n => (⟨n, vT t n⟩ : S50)).filter fun a => !decide (a.fValues = [])

def fitT (t : Tab) : Bool := (U (keysT t)).all (fun n => decide ((vT t n).length ≤ 16)) && decide ((entT t).length ≤ 24)

theorem mget_keys {t : Tab} {n : Str} : n ∈ keysT t ↔ (mget t n).isSome = true := by
  induction t with
  | nil => simp [keysT, mget]
  | cons p t ih =>
    simp only [keysT, List.map_cons, List.mem_cons, mget] at ih ⊢
    by_cases h : p.1 = n
    · simp [h]
    · rw [if_neg h, ← ih]
      constructor
      · rintro (e | e)
        · exact absurd e.symm h
        · exact e
      · exact .inr

theorem gT_none {t : Tab} {n : Str} (h : ¬ n ∈ keysT t) : gT t n = [] := by
  rw [mget_keys] at h
  unfold gT
  cases hm : mget t n with
  | none => rfl
  | some v => rw [hm] at h; simp at h

theorem get_filter (g : Str → List Str) (n : Str) : ∀ (L : List Str), getE ((L.map fun n => (⟨n, g n⟩ : S50)).filter fun a => !decide (a.fValues = [])) n = if n ∈ L then g n else []
  | [] => by simp [getE]
  | x :: L => by
    rw [List.map_cons]
    by_cases hg : g x = []
    · rw [List.filter_cons_of_neg (by simp [hg]), get_filter g n L]
      by_cases hx : n = x
      · subst hx
        simp [hg]
      · simp [hx]
    · rw [List.filter_cons_of_pos (by simp [hg])]
      simp only [getE]
      by_cases hx : x = n
      · subst hx
        simp
      · rw [if_neg hx, get_filter g n L]
        have : ¬ n = x := fun e => hx e.symm
        simp [this]

theorem entT_get (t : Tab) (n : Str) : getE (entT t) n = vT t n := by
  unfold entT
  rw [get_filter]
  by_cases h : n ∈ U (keysT t)
  · rw [if_pos h]
  · rw [if_neg h]
    rw [U_mem] at h
    rw [vT, gT_none h, U_nil]

theorem entT_srt (t : Tab) : SrtE (entT t) := by
  constructor
  · have h1 : ((entT t).map (·.fName)).Sublist (((U (keysT t)).map fun n => (⟨n, vT t n⟩ : S50)).map (·.fName)) := List.filter_sublist.map _
    have h2 : ((U (keysT t)).map fun n => (⟨n, vT t n⟩ : S50)).map (·.fName) = U (keysT t) := by rw [List.map_map]; exact List.map_id _
    rw [h2] at h1
    exact (U_rise _).sublist h1
  · intro a ha
    obtain ⟨h1, h2⟩ := List.mem_filter.1 ha
    obtain ⟨n, _, rfl⟩ := List.mem_map.1 h1
    exact ⟨by simpa using h2, U_rise _⟩

structure SzT (t : Tab) : Prop where
  len : t.length ≤ 1000000
  key : ∀ n, n ∈ keysT t → n.length ≤ 1000000
  vals : ∀ n, (gT t n).length ≤ 1000000

theorem F58v_eq (l : List Str) (h : l.length ≤ 1000000) : F58v l = some (U l) := gd_pos (by omega)

theorem F42_eq (t : Tab) (hs : SzT t) : F42 t = some (if fitT t = true then (entT t, 0) else ([], 3)) := by
  have h1 := hs.len
  have hul : (U (keysT t)).length ≤ 1000000 := Nat.le_trans (U_len_le _) (by simpa [keysT] using h1)
  unfold F42
  have h58 : F58k t = some (U (keysT t)) := gd_pos ⟨by omega, fun p hp => by have := hs.key p.1 (List.mem_map_of_mem hp); omega⟩
  rw [h58]
  simp only [Option.bind_some]
  rw [loopO_run (U (keysT t)) (fun _ a n => if (vT t n).length ≤ 16 then .inl (if vT t n = [] then a else a ++ [⟨n, vT t n⟩]) else .inr (.inr ([], 3))) .inl (fun i a => a.length ≤ i) (by omega) (by simp)
    (fun i hi a hI => by
      simp only [F42_b7]
      rw [if_pos (by omega), gd_pos (by omega), Int.toNat_natCast, getD_some hi, F58v_eq _ (by exact hs.vals (U (keysT t))[i])]
      simp only [Option.bind_some]
      rw [show U ((mget t (U (keysT t))[i]).getD []) = vT t (U (keysT t))[i] from rfl]
      by_cases g1 : 16 < ((vT t (U (keysT t))[i]).length : Int)
      · rw [if_pos g1, if_neg (by omega)]
      · rw [if_neg g1, if_pos (show (vT t (U (keysT t))[i]).length ≤ 16 by omega)]
        by_cases g2 : 0 < ((vT t (U (keysT t))[i]).length : Int)
        · have g3 : ¬ vT t (U (keysT t))[i] = [] := by intro e; rw [e] at g2; simp at g2
          rw [if_pos g2, gd_pos (by simp only [List.length_cons, List.length_nil]; omega), if_neg g3]
        · have g3 : vT t (U (keysT t))[i] = [] := List.eq_nil_of_length_eq_zero (by omega)
          rw [if_neg g2, if_pos g3])
    (fun i hi a a' hI h => by
      split at h
      · simp only [Sum.inl.injEq] at h
        subst h
        split
        · omega
        · simp; omega
      · cases h)
    (fun a hI => by simp only [F42_b7]; rw [if_neg (by omega)])]
  have key : ∀ (L : List Str) (i : Nat) (a : List S50), runI (fun _ (a : List S50) n => if (vT t n).length ≤ 16 then .inl (if vT t n = [] then a else a ++ [⟨n, vT t n⟩]) else .inr (.inr (([] : List S50), (3 : Int)))) (.inl : List S50 → List S50 ⊕ (List S50 × Int)) i a L = if L.all (fun n => decide ((vT t n).length ≤ 16)) = true then .inl (a ++ (L.map fun n => (⟨n, vT t n⟩ : S50)).filter fun a => !decide (a.fValues = [])) else .inr ([], 3) := by
    intro L
    induction L with
    | nil => intro i a; simp [runI]
    | cons n L ih =>
      intro i a
      rw [runI_cons]
      by_cases g1 : (vT t n).length ≤ 16
      · rw [if_pos g1]
        simp only [ih, List.all_cons, g1, decide_true, Bool.true_and, List.map_cons]
        by_cases g2 : vT t n = []
        · rw [if_pos g2, List.filter_cons_of_neg (by simp [g2])]
        · rw [if_neg g2, List.filter_cons_of_pos (by simp [g2])]
          simp
      · rw [if_neg g1]
        simp [g1]
  rw [key]
  unfold fitT
  cases g : (U (keysT t)).all fun n => decide ((vT t n).length ≤ 16) with
  | false => simp
  | true =>
    simp only [if_true, Option.bind_some, Sum.elim_inl, F42_k7, List.nil_append, Bool.true_and, decide_eq_true_eq]
    have : ((U (keysT t)).map fun n => (⟨n, vT t n⟩ : S50)).filter (fun a => !decide (a.fValues = [])) = entT t := rfl
    rw [this]
    by_cases g2 : 24 < ((entT t).length : Int)
    · rw [if_pos g2, if_neg (by omega)]
    · rw [if_neg g2, if_pos (by omega)]

theorem fitT_iff (t : Tab) : fitT t = true ↔ (∀ n, (vT t n).length ≤ 16) ∧ (entT t).length ≤ 24 := by
  simp only [fitT, Bool.and_eq_true, List.all_eq_true, decide_eq_true_eq]
  constructor
  · rintro ⟨h1, h2⟩
    refine ⟨fun n => ?_, h2⟩
    by_cases h : n ∈ keysT t
    · exact h1 n ((U_mem _ _).2 h)
    · rw [vT, gT_none h, U_nil]; simp
  · rintro ⟨h1, h2⟩
    exact ⟨fun n _ => h1 n, h2⟩

/-! ### Tables -/

theorem gT_set (t : Tab) (k : Str) (v : List Str) (n : Str) : gT (mset t k v) n = if n = k then v else gT t n := by
  induction t with
  | nil =>
    simp only [mset, gT, mget]
    by_cases h : k = n
    · simp [h]
    · rw [if_neg h, if_neg (fun e => h e.symm)]
  | cons p t ih =>
    simp only [mset]
    by_cases h : p.1 = k
    · rw [if_pos h]
      simp only [gT, mget]
      by_cases hn : k = n
      · simp [hn]
      · rw [if_neg hn, if_neg (fun e => hn e.symm), h, if_neg hn]
    · rw [if_neg h]
      simp only [gT, mget] at ih ⊢
      by_cases hn : p.1 = n
      · rw [if_pos hn, if_pos hn, if_neg (fun e => h (hn.trans e))]
      · rw [if_neg hn, if_neg hn]
        exact ih

theorem keys_set (t : Tab) (k : Str) (v : List Str) (n : Str) : n ∈ keysT (mset t k v) ↔ n = k ∨ n ∈ keysT t := by
  induction t with
  | nil => simp [mset, keysT]
  | cons p t ih =>
    simp only [mset, keysT] at ih ⊢
    by_cases h : p.1 = k
    · rw [if_pos h]
      simp [h]
    · rw [if_neg h]
      simp only [List.map_cons, List.mem_cons, ih]
      constructor
      · rintro (h | h | h)
        · exact .inr (.inl h)
        · exact .inl h
        · exact .inr (.inr h)
      · rintro (h | h | h)
        · exact .inr (.inl h)
        · exact .inl h
        · exact .inr (.inr h)

theorem set_len (t : Tab) (k : Str) (v : List Str) : (mset t k v).length ≤ t.length + 1 := by
  induction t with
  | nil => simp [mset]
  | cons p t ih =>
    simp only [mset]
    split
    · simp
    · simp; omega

theorem gT_del {t : Tab} (hd : (keysT t).Nodup) (k n : Str) : gT (mdel t k) n = if n = k then [] else gT t n := by
  induction t with
  | nil => simp [mdel, gT, mget]
  | cons p t ih =>
    simp only [keysT, List.map_cons, List.nodup_cons] at hd
    simp only [mdel]
    by_cases h : p.1 = k
    · rw [if_pos h]
      by_cases hn : n = k
      · subst hn
        rw [if_pos rfl]
        exact gT_none (h ▸ hd.1)
      · rw [if_neg hn]
        simp only [gT, mget]
        rw [if_neg (fun e => hn (e.symm.trans h))]
    · rw [if_neg h]
      have := ih hd.2
      simp only [gT, mget] at this ⊢
      by_cases hn : p.1 = n
      · rw [if_pos hn, if_pos hn, if_neg (fun e => h (hn.trans e))]
      · rw [if_neg hn, if_neg hn]
        exact this

theorem keys_nodup {t : Tab} (h : (keysT t).Nodup) (k : Str) (v : List Str) : (keysT (mset t k v)).Nodup := by
  induction t with
  | nil => simp [mset, keysT]
  | cons p t ih =>
    simp only [keysT, List.map_cons, List.nodup_cons] at h
    simp only [mset]
    by_cases hp : p.1 = k
    · rw [if_pos hp]
      simp only [keysT, List.map_cons, List.nodup_cons]
      exact ⟨hp ▸ h.1, h.2⟩
    · rw [if_neg hp]
      simp only [keysT, List.map_cons, List.nodup_cons]
      refine ⟨fun hm => ?_, ih h.2⟩
      rcases (keys_set t k v p.1).1 hm with e | e
      · exact hp e
      · exact h.1 e

end Go.Idl

namespace Go.Idl

open Go

def okR (a : S50) : Bool := nameB a.fName && a.fValues.all valB

structure SzO (l : List S50) : Prop where
  len : l.length ≤ 1000000
  name : ∀ a, a ∈ l → a.fName.length ≤ 1000000
  tot : (l.map (·.fValues)).flatten.length ≤ 1000000

theorem SzO.sz {l : List S50} (h : SzO l) : SzE l := ⟨h.len, h.name, fun a ha => by
  have h1 := h.tot
  clear h
  induction l with
  | nil => simp at ha
  | cons x l ih =>
    rw [List.map_cons, List.flatten_cons, List.length_append] at h1
    rcases List.mem_cons.1 ha with rfl | ha
    · omega
    · exact ih ha (by omega)⟩

theorem F52_eq (l : List S50) (hs : SzE l) : F52 l = some (l.all okR) := by
  have hl := hs.len
  have h105 : ∃ j : Int, F105 l = some j ∧ decide (0 ≤ j) = !l.all okR := by
    unfold F105
    rw [loopO_find l (fun i x => if okR x = true then none else some (.inr (i : Int))) (.inl ()) (by omega)
      (fun i hi => by
        have hm := List.getElem_mem hi
        simp only [F105_b4]
        rw [if_pos (by omega), gd_pos (by omega), Int.toNat_natCast, getD_some hi]
        simp only [F89, F53, F45_eq _ (hs.name _ hm), Option.bind_some]
        by_cases h1 : nameB l[i].fName = true
        · rw [if_pos h1, F46_eq _ (hs.vals _ hm)]
          simp only [Option.bind_some]
          have : okR l[i] = l[i].fValues.all valB := by simp only [okR, h1, Bool.true_and]
          rw [this]
          cases l[i].fValues.all valB <;> simp
        · rw [if_neg h1]
          have : okR l[i] = false := by simp only [okR, Bool.eq_false_iff.2 h1, Bool.false_and]
          rw [this]
          simp)
      (by simp only [F105_b4]; rw [if_neg (by omega)])]
    rcases findI_place okR l 0 with ⟨h1, h2⟩ | ⟨h1, j, h2⟩
    · rw [h2, h1]; exact ⟨-1, rfl, rfl⟩
    · rw [h2, h1]; exact ⟨j, rfl, by simp⟩
  obtain ⟨j, h1, h2⟩ := h105
  simp only [F52, F88, h1, Option.bind_some, h2, Bool.not_not]

theorem tabS_snoc (l : List S50) (a : S50) : tabS (l ++ [a]) = mset (tabS l) (smallS a.fName) (gT (tabS l) (smallS a.fName) ++ a.fValues) := by
  unfold tabS
  rw [List.foldl_append]
  rfl

theorem list_snoc_ind {α : Type} {p : List α → Prop} (h0 : p []) (h1 : ∀ l x, p l → p (l ++ [x])) (l : List α) : p l := by
  rw [← List.reverse_reverse l]
  induction l.reverse with
  | nil => exact h0
  | cons x m ih => rw [List.reverse_cons]; exact h1 _ _ ih

theorem tabS_get (n : Str) (l : List S50) : gT (tabS l) n = (l.filter fun a => decide (smallS a.fName = n)).flatMap (·.fValues) := by
  induction l using list_snoc_ind with
  | h0 => rfl
  | h1 l a ih =>
    rw [tabS_snoc, gT_set, List.filter_append, List.flatMap_append]
    by_cases h : n = smallS a.fName
    · rw [if_pos h, ← h, ih]
      rw [List.filter_cons_of_pos (by simp [h])]
      simp
    · rw [if_neg h, ih, List.filter_cons_of_neg (by simpa using fun e => h e.symm)]
      simp

theorem tabS_keys (n : Str) (l : List S50) : n ∈ keysT (tabS l) ↔ ∃ a, a ∈ l ∧ smallS a.fName = n := by
  induction l using list_snoc_ind with
  | h0 => simp [tabS, keysT]
  | h1 l a ih =>
    rw [tabS_snoc, keys_set, ih]
    constructor
    · rintro (h | ⟨b, h1, h2⟩)
      · exact ⟨a, by simp, h.symm⟩
      · exact ⟨b, by simp [h1], h2⟩
    · rintro ⟨b, h1, h2⟩
      rcases List.mem_append.1 h1 with h1 | h1
      · exact .inr ⟨b, h1, h2⟩
      · simp at h1; subst h1; exact .inl h2.symm

theorem tabS_nodup (l : List S50) : (keysT (tabS l)).Nodup := by
  induction l using list_snoc_ind with
  | h0 => simp [tabS, keysT]
  | h1 l a ih => rw [tabS_snoc]; exact keys_nodup ih _ _

theorem tabS_len (l : List S50) : (tabS l).length ≤ l.length := by
  induction l using list_snoc_ind with
  | h0 => simp [tabS]
  | h1 l a ih => rw [tabS_snoc]; have := set_len (tabS l) (smallS a.fName) (gT (tabS l) (smallS a.fName) ++ a.fValues); simp; omega

theorem gT_le (n : Str) (l : List S50) : (gT (tabS l) n).length ≤ (l.map (·.fValues)).flatten.length := by
  rw [tabS_get]
  induction l with
  | nil => simp
  | cons x l ih =>
    rw [List.map_cons, List.flatten_cons, List.length_append]
    by_cases hx : smallS x.fName = n
    · rw [List.filter_cons_of_pos (by simp [hx])]
      simp only [List.flatMap_cons, List.length_append]
      omega
    · rw [List.filter_cons_of_neg (by simp [hx])]
      omega

theorem tabS_sz {l : List S50} (h : SzO l) : SzT (tabS l) := by
  refine ⟨Nat.le_trans (tabS_len l) h.len, fun n hn => ?_, fun n => Nat.le_trans (gT_le n l) h.tot⟩
  obtain ⟨a, h1, rfl⟩ := (tabS_keys n l).1 hn
  simpa using h.name a h1

theorem F40_eq {l : List S50} (h : SzO l) : F40 l = some (tabS l) := gd_pos ⟨by have := h.len; omega, fun a ha => by have := h.name a ha; omega, by have := h.tot; omega⟩

def orderS (l : List S50) : List S50 × Int := if l.all okR = true then (if fitT (tabS l) = true then (entT (tabS l), 0) else ([], 3)) else ([], 2)

theorem F19_eq (l : List S50) (h : SzO l) : F19 l = some (orderS l) := by
  unfold F19 orderS
  rw [F52_eq l h.sz]
  simp only [Option.bind_some]
  cases g : l.all okR with
  | false => simp
  | true =>
    rw [if_neg (by simp), F40_eq h]
    simp only [Option.bind_some, F42_eq _ (tabS_sz h), if_true]

theorem getE_len {e : List S50} {B : Nat} (h : ∀ a, a ∈ e → a.fValues.length ≤ B) (n : Str) : (getE e n).length ≤ B := by
  induction e with
  | nil => simp [getE]
  | cons x e ih =>
    simp only [getE]
    split
    · exact h x (by simp)
    · exact ih fun a ha => h a (by simp [ha])

end Go.Idl

namespace Go.Idl

open Go

/-! ### Which changes may be -/

def mayB (m : S48) : Bool := decide (1 ≤ m.fKind ∧ m.fKind ≤ 3) && nameB m.fName && decide (m.fValues.length ≤ 16) && m.fValues.all valB && (!decide (m.fKind = 1) || decide (0 < m.fValues.length))

structure SzM (l : List S48) : Prop where
  len : l.length ≤ 1000000
  name : ∀ a, a ∈ l → a.fName.length ≤ 1000000
  vals : ∀ a, a ∈ l → a.fValues.length ≤ 1000000

theorem F36_eq (m : S48) (hn : m.fName.length ≤ 1000000) (hv : m.fValues.length ≤ 1000000) : F36 m = some (mayB m) := by
  unfold F36 mayB
  by_cases h1 : 1 ≤ m.fKind
  · rw [if_pos h1]
    by_cases h2 : m.fKind ≤ 3
    · rw [if_pos h2, F45_eq _ hn]
      have h12 : decide (1 ≤ m.fKind ∧ m.fKind ≤ 3) = true := by simp [h1, h2]
      simp only [Option.bind_some, h12, Bool.true_and]
      by_cases h3 : nameB m.fName = true
      · rw [if_pos h3, h3]
        by_cases h4 : (m.fValues.length : Int) ≤ 16
        · rw [if_pos h4, F46_eq _ hv]
          have h4' : decide (m.fValues.length ≤ 16) = true := by simp; omega
          simp only [Option.bind_some, h4', Bool.true_and]
          by_cases h5 : m.fValues.all valB = true
          · rw [if_pos h5, h5]
            by_cases h6 : m.fKind = 1
            · rw [if_neg (by simp [h6])]
              simp [h6]
            · rw [if_pos h6]
              simp [h6]
          · rw [if_neg h5]
            simp [Bool.eq_false_iff.2 h5]
        · rw [if_neg h4]
          have h4' : decide (m.fValues.length ≤ 16) = false := by simp; omega
          simp [h4']
      · rw [if_neg h3]
        simp [Bool.eq_false_iff.2 h3]
    · rw [if_neg h2]
      simp [h2]
  · rw [if_neg h1]
    simp [h1]

theorem F35_eq (l : List S48) (hs : SzM l) : F35 l = some (l.all mayB) := by
  have hl := hs.len
  have h98 : ∃ j : Int, F98 l = some j ∧ decide (0 ≤ j) = !l.all mayB := by
    unfold F98
    rw [loopO_find l (fun i x => if mayB x = true then none else some (.inr (i : Int))) (.inl ()) (by omega)
      (fun i hi => by
        have hm := List.getElem_mem hi
        simp only [F98_b4]
        rw [if_pos (by omega), gd_pos (by omega), Int.toNat_natCast, getD_some hi]
        simp only [F75, F36_eq _ (hs.name _ hm) (hs.vals _ hm), Option.bind_some]
        cases mayB l[i] <;> simp)
      (by simp only [F98_b4]; rw [if_neg (by omega)])]
    rcases findI_place mayB l 0 with ⟨h1, h2⟩ | ⟨h1, j, h2⟩
    · rw [h2, h1]; exact ⟨-1, rfl, rfl⟩
    · rw [h2, h1]; exact ⟨j, rfl, by simp⟩
  obtain ⟨j, h1, h2⟩ := h98
  simp only [F35, F74, h1, Option.bind_some, h2, Bool.not_not]

/-! ### One change -/

def chS (k : Int) (has v : List Str) : List Str ⊕ Int :=
  if k = 1 then (if ¬ (has ++ v).Nodup then .inr 170 else .inl (has ++ v))
  else if k = 2 then (if (v = [] ∧ has = []) ∨ ¬ v.Nodup ∨ ¬ ∀ s, s ∈ v → s ∈ has then .inr 171 else .inl (if v = [] then [] else has.filter fun s => !decide (s ∈ v)))
  else .inl v

theorem F76_eq (l : List Str) (h : l.length ≤ 1000000) : F76 l = some (decide (¬ l.Nodup)) := by
  unfold F76
  rw [F58v_eq l h]
  simp only [Option.bind_some, Option.some.injEq, decide_eq_decide]
  rw [← U_len_nodup]
  omega

theorem F46s2_eq (v has : List Str) (hv : v.length ≤ 1000000) (hh : has.length ≤ 1000000) : F46s2 v has = some (decide (∀ s, s ∈ v → s ∈ has)) := by
  have hall : decide (∀ s, s ∈ v → s ∈ has) = v.all (fun s => decide (s ∈ has)) := by
    rw [Bool.eq_iff_iff]
    simp [List.all_eq_true]
  have h100 : ∃ j : Int, F100s2 v has = some j ∧ decide (0 ≤ j) = !v.all (fun s => decide (s ∈ has)) := by
    unfold F100s2
    have key : ∃ r, loopO (fun (s : Int × List Str) => F100s2_b4 v s.1 s.2) (0, has) = some r ∧ ((v.all (fun s => decide (s ∈ has)) = true ∧ r = .inl has) ∨ (v.all (fun s => decide (s ∈ has)) = false ∧ ∃ j : Nat, r = .inr (j : Int))) := by
      refine loopO_for3 (step := fun (s : Int × List Str) => F100s2_b4 v s.1 s.2) v.length (fun i a => a = has ∧ (v.take i).all (fun s => decide (s ∈ has)) = true) ⟨rfl, by simp⟩ ?_ ?_
      · rintro i a hi ⟨rfl, hI⟩
        simp only [F100s2_b4]
        rw [if_pos (by omega), gd_pos (by omega), Int.toNat_natCast, getD_some hi]
        simp only [F86s2, F77, Q78_eq _ _ hh, Option.bind_some]
        by_cases h : v[i] ∈ a
        · rw [if_neg (by simp [h]), wrap_nat (by omega)]
          refine .inl ⟨a, rfl, rfl, ?_⟩
          rw [List.take_succ_eq_append_getElem hi, List.all_append, hI]
          simp [h]
        · rw [if_pos (by simp [h])]
          refine .inr ⟨_, rfl, .inr ⟨?_, i, rfl⟩⟩
          rw [Bool.eq_false_iff]
          intro h'
          have := List.all_eq_true.1 h' v[i] (List.getElem_mem _)
          simp [h] at this
      · rintro a ⟨rfl, hI⟩
        simp only [F100s2_b4]
        rw [if_neg (by omega)]
        rw [List.take_length] at hI
        exact ⟨_, rfl, .inl ⟨hI, rfl⟩⟩
    obtain ⟨r, h1, h2⟩ := key
    rw [h1]
    rcases h2 with ⟨h2, rfl⟩ | ⟨h2, j, rfl⟩
    · rw [h2]; exact ⟨-1, rfl, rfl⟩
    · rw [h2]; exact ⟨j, rfl, by simp⟩
  obtain ⟨j, h1, h2⟩ := h100
  simp only [F46s2, F85s2, h1, Option.bind_some, h2, Bool.not_not, hall]

def chT (t : Tab) (k : Int) (n : Str) (v : List Str) : Int × Tab :=
  match chS k (gT t n) v with
  | .inr w => (w, t)
  | .inl x => (0, if k = 2 ∧ v = [] then mdel t n else mset t n x)

theorem F37_eq (t : Tab) (n : Str) (v : List Str) (ht : (gT t n).length ≤ 500000) (hv : v.length ≤ 500000) : F37 t n v = some (chT t 1 n v) := by
  unfold F37 chT chS
  have h56 : F56 ((mget t n).getD []) = some (gT t n) := gd_pos (by show ((gT t n).length : Int) ≤ 1000000; omega)
  rw [h56]
  simp only [Option.bind_some]
  rw [gd_pos (by omega), F76_eq _ (by rw [List.length_append]; omega)]
  simp only [Option.bind_some, if_true]
  by_cases h : (gT t n ++ v).Nodup
  · rw [if_neg (by simp [h])]
    simp only [h, not_true, if_false]
    rw [gd_pos (by omega)]
    rfl
  · rw [if_pos (by simp [h])]
    simp only [h, not_false_eq_true, if_true]

theorem F39_eq (t : Tab) (n : Str) (v : List Str) (hv : v.length ≤ 500000) : F39 t n v = some (chT t 3 n v) := by
  unfold F39 chT chS
  rw [F56, gd_pos (by omega)]
  rfl

theorem F38_eq (t : Tab) (n : Str) (v : List Str) (ht : (gT t n).length ≤ 500000) (hv : v.length ≤ 500000) : F38 t n v = some (chT t 2 n v) := by
  have hg : (mget t n).getD [] = gT t n := rfl
  have h56 : F56 (gT t n) = some (gT t n) := gd_pos (by omega)
  have hk4 : ∀ b : Bool, (b = false → v ≠ [] → ∃ s, s ∈ v ∧ s ∈ gT t n) → F38_k4 t n v b = some (if b = true then (171, t) else (0, if v = [] then mdel t n else mset t n ((gT t n).filter fun s => !decide (s ∈ v)))) := by
    intro b hb
    unfold F38_k4
    cases b with
    | true => simp
    | false =>
      rw [if_neg (by simp)]
      by_cases h : (v.length : Int) = 0
      · have : v = [] := List.eq_nil_of_length_eq_zero (by omega)
        rw [if_pos h]
        simp [this]
      · have hne : v ≠ [] := by rintro rfl; simp at h
        obtain ⟨s, _, hs⟩ := hb rfl hne
        rw [if_neg h, hg, h56]
        simp only [Option.bind_some]
        have h79 : F79 (gT t n) v = some ((gT t n).filter fun s => !decide (s ∈ v)) := gd_pos ⟨by intro e; rw [e] at hs; simp at hs, by omega, by omega⟩
        rw [h79]
        simp [hne]
  have hall := F46s2_eq v (gT t n) (by omega) (by omega)
  have h76 := F76_eq v (by omega)
  unfold F38
  rw [hg]
  have hgoal : chT t 2 n v = if (v = [] ∧ gT t n = []) ∨ ¬ v.Nodup ∨ ¬ (∀ s, s ∈ v → s ∈ gT t n) then (171, t) else (0, if v = [] then mdel t n else mset t n ((gT t n).filter fun s => !decide (s ∈ v))) := by
    unfold chT chS
    rw [if_neg (by decide), if_pos rfl]
    by_cases hc : (v = [] ∧ gT t n = []) ∨ ¬ v.Nodup ∨ ¬ (∀ s, s ∈ v → s ∈ gT t n)
    · rw [if_pos hc, if_pos hc]
    · rw [if_neg hc, if_neg hc]
      by_cases hv : v = []
      · simp [hv]
      · simp [hv]
  rw [hgoal]
  have rest : ((F76 v).bind fun (x : Bool) => if x = true then F38_k4 t n v x else (F46s2 v (gT t n)).bind fun (y : Bool) => F38_k4 t n v (!y)) = some (if ¬ v.Nodup ∨ ¬ (∀ s, s ∈ v → s ∈ gT t n) then (171, t) else (0, if v = [] then mdel t n else mset t n ((gT t n).filter fun s => !decide (s ∈ v)))) := by
    rw [h76]
    simp only [Option.bind_some]
    by_cases g1 : v.Nodup
    · rw [if_neg (by simp [g1]), hall]
      simp only [Option.bind_some]
      by_cases g2 : ∀ s, s ∈ v → s ∈ gT t n
      · rw [hk4 _ (fun _ hne => by
          obtain ⟨s, hs⟩ := List.exists_mem_of_ne_nil v hne
          exact ⟨s, hs, g2 s hs⟩)]
        rw [show (!decide (∀ s, s ∈ v → s ∈ gT t n)) = false by simpa using g2, if_neg (by decide : ¬ false = true), if_neg (show ¬ (¬ v.Nodup ∨ ¬ ∀ s, s ∈ v → s ∈ gT t n) from fun h => h.elim (fun h => h g1) fun h => h g2)]
      · rw [hk4 _ (fun h => by simp at h; exact absurd h g2)]
        rw [show (!decide (∀ s, s ∈ v → s ∈ gT t n)) = true by simpa using g2, if_pos rfl, if_pos (show ¬ v.Nodup ∨ ¬ ∀ s, s ∈ v → s ∈ gT t n from .inr g2)]
    · have hd : decide (¬ v.Nodup) = true := by simp [g1]
      rw [hd, if_pos rfl, hk4 true (fun h => by cases h), if_pos rfl, if_pos (show ¬ v.Nodup ∨ ¬ ∀ s, s ∈ v → s ∈ gT t n from .inl g1)]
  by_cases h0 : (v.length : Int) = 0
  · have hv0 : v = [] := List.eq_nil_of_length_eq_zero (by omega)
    rw [if_pos h0]
    by_cases h1 : ((gT t n).length : Int) = 0
    · have hg0 : gT t n = [] := List.eq_nil_of_length_eq_zero (by omega)
      rw [if_pos h1, hk4 _ (fun h => by simp [h1] at h)]
      rw [if_pos (by simpa using h1), if_pos (.inl ⟨hv0, hg0⟩)]
    · have hg0 : ¬ gT t n = [] := fun e => h1 (by simp [e])
      rw [if_neg h1, rest]
      simp only [hg0, and_false, false_or]
  · have hv0 : ¬ v = [] := fun e => h0 (by simp [e])
    rw [if_neg h0, rest]
    simp only [hv0, false_and, false_or]

end Go.Idl

namespace Go.Idl

open Go

structure RightE (e : List S50) : Prop where
  srt : SrtE e
  name : ∀ a, a ∈ e → nameB a.fName = true ∧ smallS a.fName = a.fName
  vals : ∀ a, a ∈ e → a.fValues.length ≤ 16 ∧ a.fValues.all valB = true
  len : e.length ≤ 24

theorem right_iff (e : List S50) : rightB e = true ↔ RightE e := by
  simp only [rightB, okA, Bool.and_eq_true, decide_eq_true_eq, List.all_eq_true]
  constructor
  · rintro ⟨⟨h1, h2⟩, h3⟩
    exact ⟨⟨h3, fun a ha => ⟨fun e => by have := (h2 a ha).1.1.2.1; rw [e] at this; simp at this, (h2 a ha).2⟩⟩, fun a ha => ⟨(h2 a ha).1.1.1.1, (h2 a ha).1.1.1.2⟩, fun a ha => ⟨(h2 a ha).1.1.2.2, List.all_eq_true.2 (h2 a ha).1.2⟩, h1⟩
  · rintro ⟨⟨h1, h2⟩, h3, h4, h5⟩
    exact ⟨⟨h5, fun a ha => ⟨⟨⟨⟨(h3 a ha).1, (h3 a ha).2⟩, List.length_pos_iff.2 (h2 a ha).1, (h4 a ha).1⟩, List.all_eq_true.1 (h4 a ha).2⟩, (h2 a ha).2⟩⟩, h1⟩

theorem name_len {s : Str} (h : nameB s = true) : s.length ≤ 64 := by
  simp only [nameB, Bool.and_eq_true, decide_eq_true_eq] at h
  exact h.1.1.2

theorem tot_le {B : Nat} : ∀ {l : List S50}, (∀ a, a ∈ l → a.fValues.length ≤ B) → (l.map (·.fValues)).flatten.length ≤ l.length * B
  | [], _ => by simp
  | x :: l, h => by
    have h1 := h x (by simp)
    have h2 := tot_le (B := B) (l := l) fun a ha => h a (by simp [ha])
    rw [List.map_cons, List.flatten_cons, List.length_append, List.length_cons, Nat.add_mul, Nat.one_mul]
    omega

theorem RightE.sz {e : List S50} (h : RightE e) : SzO e := by
  refine ⟨by have := h.len; omega, fun a ha => by have := name_len (h.name a ha).1; omega, ?_⟩
  have h1 := tot_le fun a ha => (h.vals a ha).1
  have h2 := h.len
  have : e.length * 16 ≤ 24 * 16 := Nat.mul_le_mul_right _ h2
  omega

theorem gT_right {e : List S50} (hs : Rise (e.map (·.fName))) (hn : ∀ a, a ∈ e → smallS a.fName = a.fName) (n : Str) : gT (tabS e) n = getE e n := by
  rw [tabS_get]
  induction e with
  | nil => rfl
  | cons x e ih =>
    rw [List.map_cons, Rise, List.pairwise_cons] at hs
    have hx := hn x (by simp)
    by_cases h : x.fName = n
    · rw [List.filter_cons_of_pos (by rw [hx, h]; simp)]
      have hnil : e.filter (fun a => decide (smallS a.fName = n)) = [] := List.filter_eq_nil_iff.2 fun a ha => by
        rw [hn a (by simp [ha])]
        have h1 := hs.1 a.fName (List.mem_map_of_mem ha)
        intro h2
        simp only [decide_eq_true_eq] at h2
        rw [h, h2] at h1
        exact lt8_irrefl _ h1
      rw [hnil]
      simp [getE, h]
    · rw [List.filter_cons_of_neg (by rw [hx]; simp [h])]
      simp only [getE, h, if_false]
      exact ih hs.2 fun a ha => hn a (by simp [ha])

theorem getE_rise {e : List S50} (h : SrtE e) (n : Str) : Rise (getE e n) := by
  by_cases hn : getE e n = []
  · rw [hn]; simp [Rise]
  · obtain ⟨a, ha, rfl⟩ := List.mem_map.1 ((mem_names h n).2 hn)
    rw [getE_mem h.names ha]
    exact (h.vals a ha).2

def stepS (e : List S50) (m : S48) : List S50 ⊕ Int :=
  match chS m.fKind (getE e (smallS m.fName)) m.fValues with
  | .inr w => .inr w
  | .inl x => if (U x).length ≤ 16 ∧ (setE e (smallS m.fName) (U x)).length ≤ 24 then .inl (setE e (smallS m.fName) (U x)) else .inr 3

def runS : List S50 → List S48 → List S50 × Int
  | e, [] => (e, 0)
  | e, m :: l => match stepS e m with
    | .inl e' => runS e' l
    | .inr w => ([], w)

def doS (e : List S50) (l : List S48) : List S50 × Int := if rightB e = true ∧ l.all mayB = true then runS e l else ([], 2)

theorem chS_ne (k : Int) (has v : List Str) (w : Int) (h : chS k has v = .inr w) : w ≠ 0 := by
  unfold chS at h
  split at h
  · split at h
    · cases h; decide
    · cases h
  · split at h
    · split at h
      · cases h; decide
      · cases h
    · cases h

theorem chS_nil {has : List Str} {x : List Str} (h : chS 2 has [] = .inl x) : x = [] := by
  simp only [chS] at h
  rw [if_neg (by decide), if_pos trivial] at h
  split at h
  · cases h
  · simpa using h.symm

theorem ch_ent {e : List S50} (hr : RightE e) (k : Int) (n : Str) (v x : List Str) (hk : chS k (getE e n) v = .inl x) :
    entT (chT (tabS e) k n v).2 = setE e n (U x) ∧ (fitT (chT (tabS e) k n v).2 = true ↔ (U x).length ≤ 16 ∧ (setE e n (U x)).length ≤ 24) := by
  have hg := gT_right hr.srt.names fun a ha => (hr.name a ha).2
  have ht : ∀ m, gT (chT (tabS e) k n v).2 m = if m = n then x else getE e m := by
    intro m
    unfold chT
    rw [hg, hk]
    simp only
    by_cases hc : k = 2 ∧ v = []
    · rw [if_pos hc, gT_del (tabS_nodup e), hg]
      obtain ⟨rfl, rfl⟩ := hc
      rw [chS_nil hk]
    · rw [if_neg hc, gT_set, hg]
  have hv : ∀ m, vT (chT (tabS e) k n v).2 m = if m = n then U x else getE e m := by
    intro m
    unfold vT
    rw [ht]
    split
    · rfl
    · exact U_of_rise (getE_rise hr.srt m)
  have he : entT (chT (tabS e) k n v).2 = setE e n (U x) := srt_uniq (entT_srt _) (setE_srt hr.srt (U_rise x)) fun m => by rw [entT_get, hv, setE_get hr.srt]
  refine ⟨he, ?_⟩
  rw [fitT_iff, he]
  constructor
  · rintro ⟨h1, h2⟩
    have := h1 n
    rw [hv, if_pos rfl] at this
    exact ⟨this, h2⟩
  · rintro ⟨h1, h2⟩
    refine ⟨fun m => ?_, h2⟩
    rw [hv]
    split
    · exact h1
    · exact getE_len (fun a ha => (hr.vals a ha).1) m

theorem setE_right {e : List S50} (hr : RightE e) {n : Str} {v : List Str} (hn : nameB n = true) (hs : smallS n = n) (hv : Rise v) (hl : v.length ≤ 16) (hb : v.all valB = true) (hlen : (setE e n v).length ≤ 24) : RightE (setE e n v) := by
  have hmem : ∀ a, a ∈ setE e n v → a = ⟨n, v⟩ ∨ a ∈ e := by
    intro a ha
    unfold setE at ha
    split at ha
    · exact .inr (List.mem_filter.1 ha).1
    · exact insG_mem ha
  refine ⟨setE_srt hr.srt hv, fun a ha => ?_, fun a ha => ?_, hlen⟩
  · rcases hmem a ha with rfl | ha
    · exact ⟨hn, hs⟩
    · exact hr.name a ha
  · rcases hmem a ha with rfl | ha
    · exact ⟨hl, hb⟩
    · exact hr.vals a ha

theorem getE_val {e : List S50} (hr : RightE e) (n : Str) : (getE e n).all valB = true := by
  by_cases hn : getE e n = []
  · rw [hn]; rfl
  · obtain ⟨a, ha, rfl⟩ := List.mem_map.1 ((mem_names hr.srt n).2 hn)
    rw [getE_mem hr.srt.names ha]
    exact (hr.vals a ha).2

theorem chS_sub {k : Int} {has v x : List Str} (h : chS k has v = .inl x) : ∀ s, s ∈ x → s ∈ has ∨ s ∈ v := by
  intro s hs
  unfold chS at h
  split at h
  · split at h
    · cases h
    · cases h; exact List.mem_append.1 hs
  · split at h
    · split at h
      · cases h
      · cases h
        split at hs
        · simp at hs
        · exact .inl (List.mem_filter.1 hs).1
    · cases h; exact .inr hs

theorem stepS_right {e e' : List S50} {m : S48} (hr : RightE e) (hm : mayB m = true) (h : stepS e m = .inl e') : RightE e' := by
  simp only [mayB, Bool.and_eq_true, decide_eq_true_eq, List.all_eq_true] at hm
  obtain ⟨⟨⟨⟨h1, h2⟩, h3⟩, h4⟩, h5⟩ := hm
  unfold stepS at h
  split at h
  · cases h
  · rename_i x hx
    split at h
    · rename_i hc
      cases h
      refine setE_right hr (by rw [name_small]; exact h2) (small_small _) (U_rise x) hc.1 ?_ hc.2
      rw [List.all_eq_true]
      intro s hs
      rcases chS_sub hx s ((U_mem x s).1 hs) with h | h
      · exact List.all_eq_true.1 (getE_val hr _) s h
      · exact h4 s h
    · cases h

theorem may_kind {m : S48} (hm : mayB m = true) : m.fKind = 1 ∨ m.fKind = 2 ∨ m.fKind = 3 := by
  simp only [mayB, Bool.and_eq_true, decide_eq_true_eq] at hm
  omega

theorem may_name {m : S48} (hm : mayB m = true) : m.fName.length ≤ 64 := by
  simp only [mayB, Bool.and_eq_true, decide_eq_true_eq] at hm
  exact name_len hm.1.1.1.2

theorem may_vals {m : S48} (hm : mayB m = true) : m.fValues.length ≤ 16 := by
  simp only [mayB, Bool.and_eq_true, decide_eq_true_eq] at hm
  exact hm.1.1.2

theorem SzT.ch {e : List S50} (hr : RightE e) (k : Int) (n : Str) (v : List Str) (hn : n.length ≤ 1000000) (hv : v.length ≤ 16) : SzT (chT (tabS e) k n v).2 := by
  have hz := tabS_sz hr.sz
  have hg := gT_right hr.srt.names fun a ha => (hr.name a ha).2
  have hgl : ∀ m, (gT (tabS e) m).length ≤ 16 := fun m => by rw [hg]; exact getE_len (fun a ha => (hr.vals a ha).1) m
  have hl := tabS_len e
  have hl2 := hr.len
  have dl : ∀ (t : Tab), (mdel t n).length ≤ t.length ∧ ∀ q, q ∈ keysT (mdel t n) → q ∈ keysT t := by
    intro t
    induction t with
    | nil => simp [mdel, keysT]
    | cons p t ih =>
      simp only [mdel]
      split
      · exact ⟨by simp, fun q hq => by simp only [keysT, List.map_cons, List.mem_cons]; exact .inr hq⟩
      · refine ⟨by simp; exact ih.1, fun q hq => ?_⟩
        simp only [keysT, List.map_cons, List.mem_cons] at hq ⊢
        rcases hq with hq | hq
        · exact .inl hq
        · exact .inr (ih.2 q hq)
  unfold chT
  split
  · exact hz
  · rename_i x hx
    have hxl : x.length ≤ 32 := by
      have := hgl n
      unfold chS at hx
      split at hx
      · split at hx
        · cases hx
        · cases hx; rw [List.length_append]; omega
      · split at hx
        · split at hx
          · cases hx
          · cases hx
            split
            · simp
            · exact Nat.le_trans (List.length_filter_le _ _) (by omega)
        · cases hx; omega
    simp only
    split
    · refine ⟨Nat.le_trans (dl _).1 hz.len, fun q hq => hz.key q ((dl _).2 q hq), fun q => ?_⟩
      rw [gT_del (tabS_nodup e)]
      split
      · simp
      · exact hz.vals q
    · refine ⟨Nat.le_trans (set_len _ _ _) (by omega), fun q hq => ?_, fun q => ?_⟩
      · rcases (keys_set _ _ _ q).1 hq with rfl | hq
        · exact hn
        · exact hz.key q hq
      · rw [gT_set]
        split
        · omega
        · exact hz.vals q

theorem do_loop {step : List S50 × Int → Option ((List S50 × Int) ⊕ (List S50 ⊕ (List S50 × Int)))} (e : List S50) (l : List S48) (hr : RightE e) (hm : l.all mayB = true) (hl : l.length ≤ 1000000)
    (hs : ∀ (i : Nat) (h : i < l.length) (a : List S50), RightE a → mayB l[i] = true → step (a, (i : Int)) = some (match stepS a l[i] with | .inl a' => .inl (a', IntKind.i64.wrap ((i : Int) + 1)) | .inr w => .inr (.inr ([], w))))
    (hf : ∀ a, step (a, (l.length : Int)) = some (.inr (.inl a))) : ∃ y, loopO step (e, 0) = some y ∧ Sum.elim (fun a => (a, (0 : Int))) id y = runS e l := by
  rw [List.all_eq_true] at hm
  rw [loopO_run l (fun _ a m => match stepS a m with | .inl a' => .inl a' | .inr w => .inr (.inr ([], w))) .inl (fun i a => RightE a) (by omega) hr
    (fun i hi a hI => by
      rw [hs i hi a hI (hm _ (List.getElem_mem _))]
      cases stepS a l[i] <;> rfl)
    (fun i hi a a' hI h => by
      split at h
      · rename_i a2 h2
        simp only [Sum.inl.injEq] at h
        subst h
        exact stepS_right hI (hm _ (List.getElem_mem _)) h2
      · cases h)
    (fun a _ => hf a)]
  refine ⟨_, rfl, ?_⟩
  clear hs hf hm hr hl
  have key : ∀ (l : List S48) (i : Nat) (e : List S50), Sum.elim (fun a => (a, (0 : Int))) id (runI (fun _ (a : List S50) (m : S48) => match stepS a m with | .inl a' => .inl a' | .inr w => .inr (.inr (([] : List S50), w))) (.inl : List S50 → List S50 ⊕ (List S50 × Int)) i e l) = runS e l := by
    intro l
    induction l with
    | nil => intro i e; rfl
    | cons m l ih =>
      intro i e
      rw [runI_cons]
      unfold runS
      cases stepS e m with
      | inl a => exact ih (i + 1) a
      | inr w => rfl
  exact key l 0 e

theorem F14_eq (e : List S50) (l : List S48) (he : SzE e) (hl : SzM l) : F14 e l = some (doS e l) := by
  unfold F14 doS
  rw [F17_eq e he]
  simp only [Option.bind_some]
  by_cases h1 : rightB e = true
  · rw [if_pos h1, if_neg (by simp), F35_eq l hl]
    simp only [Option.bind_some]
    have hr := (right_iff e).1 h1
    by_cases h2 : l.all mayB = true
    · rw [if_neg (by simp only [h2, not_true, not_false_eq_true]), if_pos ⟨h1, h2⟩]
      have h28 : F28 e = some e := gd_pos ⟨by have := he.len; omega, fun a ha => by have := he.vals a ha; omega⟩
      rw [h28]
      simp only [Option.bind_some]
      obtain ⟨y, q1, q2⟩ := do_loop (step := fun (s : (List S50) × Int) => F14_b14 l s.1 s.2) e l hr h2 hl.len
        (fun i hi a hra hma => by
          have hlen := hl.len
          have hgl : (gT (tabS a) (smallS l[i].fName)).length ≤ 500000 := by
            rw [gT_right hra.srt.names fun a ha => (hra.name a ha).2]
            have := getE_len (fun a ha => (hra.vals a ha).1) (smallS l[i].fName)
            omega
          have hvl := may_vals hma
          have hnl := may_name hma
          have hgr := gT_right hra.srt.names (fun a ha => (hra.name a ha).2) (smallS l[i].fName)
          have k27 : ∀ (k : Int) (hk : l[i].fKind = k), (if ¬ (chT (tabS a) k (smallS l[i].fName) l[i].fValues).1 = 0 then some (.inr (.inr ([], (chT (tabS a) k (smallS l[i].fName) l[i].fValues).1))) else F14_k27 (i : Int) (chT (tabS a) k (smallS l[i].fName) l[i].fValues).2) = some (match stepS a l[i] with | .inl a' => .inl (a', IntKind.i64.wrap ((i : Int) + 1)) | .inr w => .inr (.inr ([], w))) := by
            intro k hk
            have hsz := SzT.ch hra k (smallS l[i].fName) l[i].fValues (by simp; omega) hvl
            unfold stepS
            rw [hk]
            cases hch : chS k (getE a (smallS l[i].fName)) l[i].fValues with
            | inr w =>
              have h0 := chS_ne _ _ _ _ hch
              have hT : chT (tabS a) k (smallS l[i].fName) l[i].fValues = (w, tabS a) := by unfold chT; rw [hgr, hch]
              rw [hT, if_pos h0]
            | inl x =>
              obtain ⟨c1, c2⟩ := ch_ent hra k _ _ _ hch
              have hT : (chT (tabS a) k (smallS l[i].fName) l[i].fValues).1 = 0 := by unfold chT; rw [hgr, hch]
              rw [hT, if_neg (by simp)]
              unfold F14_k27
              rw [F42_eq _ hsz, c1]
              simp only [Option.bind_some]
              by_cases hf : fitT (chT (tabS a) k (smallS l[i].fName) l[i].fValues).2 = true
              · rw [if_pos hf, if_pos (c2.1 hf)]
                simp
              · rw [if_neg hf, if_neg (fun h => hf (c2.2 h))]
                simp
          simp only [F14_b14]
          rw [if_pos (by omega), gd_pos (by omega), Int.toNat_natCast, F40_eq hra.sz]
          have hgi : l.getD i S48.zero = l[i] := getD_some hi _
          simp only [hgi, Option.bind_some]
          rw [F41_eq _ (by omega)]
          simp only [Option.bind_some]
          rw [F37_eq _ _ _ hgl (by omega), F38_eq _ _ _ hgl (by omega), F39_eq _ _ _ (by omega)]
          simp only [Option.bind_some]
          rcases may_kind hma with hk | hk | hk
          · rw [if_pos hk]; exact k27 1 hk
          · rw [if_neg (by rw [hk]; decide), if_pos hk]; exact k27 2 hk
          · rw [if_neg (by rw [hk]; decide), if_neg (by rw [hk]; decide), if_pos hk]; exact k27 3 hk)
        (fun a => by simp only [F14_b14]; rw [if_neg (by omega)])
      rw [q1]
      simp only [Option.bind_some, ← q2]
      cases y <;> rfl
    · rw [if_pos h2, if_neg (fun h => h2 h.2)]
  · rw [if_neg h1, if_pos (by simp), if_neg (fun h => h1 h.1)]

end Go.Idl

namespace Go.Idl

open Go

end Go.Idl

namespace Go.Idl

open Go

theorem F57_eq (a b : List S50) (ha : a.length ≤ 1000) (hb : b.length ≤ 1000) : F57 [a, b] = some (a ++ b) := by
  unfold F57
  rw [loopO_run [a, b] (fun _ (n : Int) (x : List S50) => .inl (n + x.length)) id (fun i n => 0 ≤ n ∧ n ≤ 1000 * i) (by simp) (by simp)
    (fun i hi n hI => by
      have h2 : ([a, b] : List (List S50))[i].length ≤ 1000 := by
        have := List.getElem_mem hi
        simp only [List.mem_cons, List.not_mem_nil, or_false] at this
        rcases this with e | e <;> rw [e] <;> assumption
      simp only [List.length_cons, List.length_nil] at hi
      simp only [F57_b5]
      rw [if_pos (by simp only [List.length_cons, List.length_nil]; omega), gd_pos (by simp only [List.length_cons, List.length_nil]; omega), Int.toNat_natCast, getD_some (by simp only [List.length_cons, List.length_nil]; omega)]
      have hw : IntKind.i64.wrap (n + (([a, b] : List (List S50))[i].length : Int)) = n + (([a, b] : List (List S50))[i].length : Int) := wrap_i64 (by omega) (by omega)
      rw [hw, if_neg (by omega)])
    (fun i hi n n' hI h => by
      have h2 : ([a, b] : List (List S50))[i].length ≤ 1000 := by
        have := List.getElem_mem hi
        simp only [List.mem_cons, List.not_mem_nil, or_false] at this
        rcases this with e | e <;> rw [e] <;> assumption
      simp only [Sum.inl.injEq] at h
      omega)
    (fun n _ => by simp only [F57_b5]; rw [if_neg (by omega)]; rfl)]
  rw [runI_inl]
  simp only [Option.bind_some, List.foldl_cons, List.foldl_nil, id, F57_k5]
  have h90 : F90 [] (0 + (a.length : Int) + (b.length : Int)) = some [] := gd_pos ⟨rfl, by omega, by omega⟩
  rw [h90]
  simp only [Option.bind_some]
  rw [loopO_run [a, b] (fun _ (o : List S50) (x : List S50) => .inl (o ++ x)) id (fun i o => o.length ≤ 1000 * i) (by simp) (by simp)
    (fun i hi n hI => by
      have h2 : ([a, b] : List (List S50))[i].length ≤ 1000 := by
        have := List.getElem_mem hi
        simp only [List.mem_cons, List.not_mem_nil, or_false] at this
        rcases this with e | e <;> rw [e] <;> assumption
      simp only [List.length_cons, List.length_nil] at hi
      simp only [F57_b14]
      rw [if_pos (by simp only [List.length_cons, List.length_nil]; omega), gd_pos (by simp only [List.length_cons, List.length_nil]; omega), Int.toNat_natCast, getD_some (by simp only [List.length_cons, List.length_nil]; omega), gd_pos (by omega)])
    (fun i hi n n' hI h => by
      have h2 : ([a, b] : List (List S50))[i].length ≤ 1000 := by
        have := List.getElem_mem hi
        simp only [List.mem_cons, List.not_mem_nil, or_false] at this
        rcases this with e | e <;> rw [e] <;> assumption
      simp only [Sum.inl.injEq] at h
      subst h
      rw [List.length_append]
      omega)
    (fun n _ => by simp only [F57_b14]; rw [if_neg (by omega)]; rfl)]
  rw [runI_inl]
  simp [F57_k14]

def dmS (a b : List S50) (n : Str) : Option S48 := if getE a n = getE b n then none else some ⟨if getE b n = [] then 2 else if getE a n = [] then 1 else 3, n, getE b n⟩

def namesS (a b : List S50) : List Str := U (a.map (·.fName) ++ b.map (·.fName))

def diffS (a b : List S50) : List S48 := (namesS a b).filterMap (dmS a b)

theorem tab_names {a b : List S50} (ha : RightE a) (hb : RightE b) : U (keysT (tabS (a ++ b))) = namesS a b := by
  refine U_congr fun n => ?_
  rw [tabS_keys]
  simp only [List.mem_append, List.mem_map]
  constructor
  · rintro ⟨x, hx | hx, rfl⟩
    · exact .inl ⟨x, hx, ((ha.name x hx).2).symm⟩
    · exact .inr ⟨x, hx, ((hb.name x hx).2).symm⟩
  · rintro (⟨x, hx, rfl⟩ | ⟨x, hx, rfl⟩)
    · exact ⟨x, .inl hx, (ha.name x hx).2⟩
    · exact ⟨x, .inr hx, (hb.name x hx).2⟩

theorem names_small {a b : List S50} (ha : RightE a) (hb : RightE b) {n : Str} (h : n ∈ namesS a b) : smallS n = n ∧ n.length ≤ 64 ∧ nameB n = true := by
  rw [namesS, U_mem] at h
  simp only [List.mem_append, List.mem_map] at h
  rcases h with ⟨x, hx, rfl⟩ | ⟨x, hx, rfl⟩
  · exact ⟨(ha.name x hx).2, name_len (ha.name x hx).1, (ha.name x hx).1⟩
  · exact ⟨(hb.name x hx).2, name_len (hb.name x hx).1, (hb.name x hx).1⟩

theorem sz_app {a b : List S50} (ha : RightE a) (hb : RightE b) : SzO (a ++ b) := by
  refine ⟨by have := ha.len; have := hb.len; rw [List.length_append]; omega, fun x hx => ?_, ?_⟩
  · rcases List.mem_append.1 hx with hx | hx
    · exact ha.sz.name x hx
    · exact hb.sz.name x hx
  · rw [List.map_append, List.flatten_append, List.length_append]
    have h1 := tot_le fun x hx => (ha.vals x hx).1
    have h2 := tot_le fun x hx => (hb.vals x hx).1
    have h3 := ha.len
    have h4 := hb.len
    have : a.length * 16 ≤ 24 * 16 := Nat.mul_le_mul_right _ h3
    have : b.length * 16 ≤ 24 * 16 := Nat.mul_le_mul_right _ h4
    omega

theorem F24_eq (a b : List S50) (ha : SzE a) (hb : SzE b) : F24 a b = some (if rightB a = true ∧ rightB b = true then (diffS a b, 0) else ([], 2)) := by
  unfold F24
  rw [F17_eq a ha, F17_eq b hb]
  simp only [Option.bind_some]
  by_cases h1 : rightB a = true
  · rw [if_pos h1, if_neg (by simp)]
    by_cases h2 : rightB b = true
    · rw [if_pos h2, if_neg (by simp), if_pos ⟨h1, h2⟩]
      have ra := (right_iff a).1 h1
      have rb := (right_iff b).1 h2
      rw [F57_eq a b (by have := ra.len; omega) (by have := rb.len; omega)]
      simp only [Option.bind_some]
      rw [F40_eq (sz_app ra rb)]
      simp only [Option.bind_some]
      have hz := tabS_sz (sz_app ra rb)
      have h58 : F58k (tabS (a ++ b)) = some (namesS a b) := by
        rw [← tab_names ra rb]
        exact gd_pos ⟨by have := hz.len; omega, fun p hp => by have := hz.key p.1 (List.mem_map_of_mem hp); omega⟩
      rw [h58]
      simp only [Option.bind_some]
      have hnl : (namesS a b).length ≤ 48 := by
        have h0 := U_len_le (a.map (·.fName) ++ b.map (·.fName))
        have h3 := ra.len
        have h4 := rb.len
        rw [List.length_append, List.length_map, List.length_map] at h0
        show (U (a.map (·.fName) ++ b.map (·.fName))).length ≤ 48
        omega
      rw [loopO_run (namesS a b) (fun _ (o : List S48) n => .inl (match dmS a b n with | none => o | some m => o ++ [m])) id (fun i o => o.length ≤ i) (by omega) (by simp)
        (fun i hi o hI => by
          obtain ⟨hs1, hs2, _⟩ := names_small ra rb (List.getElem_mem hi)
          simp only [F24_b17]
          rw [if_pos (by omega), gd_pos (by omega), Int.toNat_natCast, getD_some hi, F22_eq a _ ha (by omega), F22_eq b _ hb (by omega), hs1]
          simp only [Option.bind_some]
          have hga : (getE a (namesS a b)[i]).length ≤ 16 := getE_len (fun x hx => (ra.vals x hx).1) _
          rw [F60_eq _ _ (by omega)]
          simp only [Option.bind_some, dmS]
          by_cases g1 : getE a (namesS a b)[i] = getE b (namesS a b)[i]
          · rw [if_pos (by simp [g1]), if_pos g1]
          · rw [if_neg (by simp [g1]), if_neg g1]
            by_cases g2 : getE b (namesS a b)[i] = []
            · rw [if_pos (by simp [g2]), gd_pos (by simp only [List.length_cons, List.length_nil]; omega), if_pos g2]
            · rw [if_neg (by simpa using g2), if_neg g2]
              by_cases g3 : getE a (namesS a b)[i] = []
              · rw [if_pos (by simp [g3]), gd_pos (by simp only [List.length_cons, List.length_nil]; omega), if_pos g3]
              · rw [if_neg (by simpa using g3), gd_pos (by simp only [List.length_cons, List.length_nil]; omega), if_neg g3])
        (fun i hi o o' hI h => by
          simp only [Sum.inl.injEq] at h
          subst h
          split
          · omega
          · simp; omega)
        (fun o _ => by simp only [F24_b17]; rw [if_neg (by omega)]; rfl)]
      rw [runI_inl]
      have key : ∀ (l : List Str) (o : List S48), l.foldl (fun (o : List S48) n => match dmS a b n with | none => o | some m => o ++ [m]) o = o ++ l.filterMap (dmS a b) := by
        intro l
        induction l with
        | nil => intro o; simp
        | cons n l ih =>
          intro o
          rw [List.foldl_cons, ih, List.filterMap_cons]
          cases dmS a b n <;> simp
      rw [key]
      rfl
    · rw [if_neg h2, if_pos (by simp), if_neg (fun h => h2 h.2)]
  · rw [if_neg h1, if_pos (by simp), if_neg (fun h => h1 h.1)]

/-! ### How great things may be -/

structure LightE (e : List S50) : Prop where
  len : e.length ≤ 30
  name : ∀ a, a ∈ e → a.fName.length ≤ 200
  vals : ∀ a, a ∈ e → a.fValues.length ≤ 20
  val : ∀ a, a ∈ e → ∀ s, s ∈ a.fValues → s.length ≤ 3000

theorem LightE.sz {e : List S50} (h : LightE e) : SzO e := by
  refine ⟨by have := h.len; omega, fun a ha => by have := h.name a ha; omega, ?_⟩
  have h1 := tot_le h.vals
  have h2 := h.len
  have : e.length * 20 ≤ 30 * 20 := Nat.mul_le_mul_right _ h2
  omega

end Go.Idl

namespace Go.Idl

open Go Go.Proofs Go.Shelf

def kL : List S50 := [⟨[77, 97, 105, 108], [[98], [97]]⟩, ⟨[67, 78], [[120]]⟩]

def kE : List S50 := [⟨[99, 110], [[120]]⟩, ⟨[109, 97, 105, 108], [[97], [98]]⟩]

def kE1 : List S50 := [⟨[99, 110], [[120], [121]]⟩, ⟨[109, 97, 105, 108], [[97], [98]]⟩]

def kO : List S50 := [⟨[99, 110], [[121]]⟩, ⟨[109, 97, 105, 108], [[97], [98]]⟩]

def kM : List S48 := [⟨1, [99, 110], [[121]]⟩, ⟨2, [99, 110], [[120]]⟩]

theorem kE_right : rightB kE = true := by decide

theorem kO_right : rightB kO = true := by decide

theorem kL_ok : kL.all okR = true := by decide

theorem kL_sz : SzO kL := ⟨by decide, by decide, by decide⟩

theorem kL_tab : tabS kL = [([109, 97, 105, 108], [[98], [97]]), ([99, 110], [[120]])] := by decide

theorem U_ba : U [[98], [97]] = ([[97], [98]] : List Str) := rise_uniq (U_rise _) (by decide) fun x => by rw [U_mem]; simp [or_comm]

theorem kL_get (n : Str) : getE kE n = vT (tabS kL) n := by
  rw [kL_tab]
  simp only [kE, getE, vT, gT, mget]
  by_cases h1 : ([109, 97, 105, 108] : Str) = n
  · subst h1
    rw [if_neg (by decide), if_pos rfl, if_pos rfl]
    exact U_ba.symm
  · rw [if_neg h1, if_neg h1]
    by_cases h2 : ([99, 110] : Str) = n
    · subst h2
      rw [if_pos rfl, if_pos rfl]
      exact (U_of_rise (by decide)).symm
    · rw [if_neg h2, if_neg h2]
      exact U_nil.symm

theorem kL_ent : entT (tabS kL) = kE := srt_uniq (entT_srt _) ((right_iff kE).1 kE_right).srt fun n => by rw [entT_get, kL_get]

theorem kL_order : orderS kL = (kE, 0) := by
  unfold orderS
  rw [if_pos kL_ok]
  have hf : fitT (tabS kL) = true := (fitT_iff _).2 ⟨fun n => by
    have h1 := U_len_le (gT (tabS kL) n)
    have h2 := gT_le n kL
    have h3 : (kL.map (·.fValues)).flatten.length = 3 := by decide
    show (U (gT (tabS kL) n)).length ≤ 16
    omega, by rw [kL_ent]; decide⟩
  rw [if_pos hf, kL_ent]

theorem k_step1 : stepS kE ⟨1, [99, 110], [[121]]⟩ = .inl kE1 := by
  have h1 : chS 1 (getE kE (smallS [99, 110])) [[121]] = .inl [[120], [121]] := by decide
  have hU : U [[120], [121]] = ([[120], [121]] : List Str) := U_of_rise (by decide)
  have hS : setE kE (smallS [99, 110]) [[120], [121]] = kE1 := by decide
  unfold stepS
  simp only [h1, hU, hS]
  rw [if_pos ⟨by decide, by decide⟩]

theorem k_step2 : stepS kE1 ⟨2, [99, 110], [[120]]⟩ = .inl kO := by
  have h1 : chS 2 (getE kE1 (smallS [99, 110])) [[120]] = .inl [[121]] := by decide
  have hU : U [[121]] = ([[121]] : List Str) := U_of_rise (by decide)
  have hS : setE kE1 (smallS [99, 110]) [[121]] = kO := by decide
  unfold stepS
  simp only [h1, hU, hS]
  rw [if_pos ⟨by decide, by decide⟩]

theorem k_do : doS kE kM = (kO, 0) := by
  unfold doS
  rw [if_pos ⟨kE_right, by decide⟩]
  simp only [kM, runS, k_step1, k_step2]

theorem k_names : namesS kE kO = [[99, 110], [109, 97, 105, 108]] := rise_uniq (U_rise _) (by decide) fun x => by
  rw [namesS, U_mem]
  simp [kE, kO]
  constructor
  · rintro (h | h | h | h) <;> simp [h]
  · rintro (h | h) <;> simp [h]

theorem k_diff : diffS kE kO = [⟨3, [99, 110], [[121]]⟩] := by
  unfold diffS
  rw [k_names]
  decide

theorem k_text : entryT kO = [99, 110, 32, 49, 10, 49, 32, 121, 10, 109, 97, 105, 108, 32, 50, 10, 49, 32, 97, 10, 49, 32, 98, 10] := by
  have d1 : Lib.decDigits 1 = [49] := by unfold Lib.decDigits; rfl
  have d2 : Lib.decDigits 2 = [50] := by unfold Lib.decDigits; rfl
  simp [kO, entryT, attrT, headT, valT, d1, d2]

theorem F13_eq : F13 = some true := by
  have szE : ∀ {e : List S50}, rightB e = true → SzE e := fun h => ((right_iff _).1 h).sz.sz
  have h19 : F19 [⟨[77, 97, 105, 108], [[98], [97]]⟩, ⟨[67, 78], [[120]]⟩] = some (kE, 0) := by
    have := F19_eq kL kL_sz
    rw [kL_order] at this
    exact this
  have h14 : F14 kE [⟨1, [99, 110], [[121]]⟩, ⟨2, [99, 110], [[120]]⟩] = some (kO, 0) := by
    have := F14_eq kE kM (szE kE_right) ⟨by decide, by decide, by decide⟩
    rw [k_do] at this
    exact this
  have h24 : F24 kE kO = some ([⟨3, [99, 110], [[121]]⟩], 0) := by
    rw [F24_eq kE kO (szE kE_right) (szE kO_right), if_pos ⟨kE_right, kO_right⟩, k_diff]
  have h30 : F30 kO = some (entryT kO, 0) := by
    unfold F30
    rw [gd_pos ⟨by decide, by decide, by decide, by decide⟩, F17_eq kO (szE kO_right), if_pos kO_right]
    rfl
  unfold F13
  rw [h19]
  simp only [Option.bind_some]
  rw [h14]
  simp only [Option.bind_some]
  rw [h24]
  simp only [Option.bind_some]
  rw [h30]
  simp only [Option.bind_some, if_true, List.length_cons, List.length_nil, List.getD_cons_zero]
  rw [k_text]
  simp [gd]

end Go.Idl

namespace Go.Idl

open Go

end Go.Idl

namespace Go.Idl

open Go

end Go.Idl

namespace Go.Idl

open Go Go.RowKit Go.Proofs Go.Shelf

variable {P : Program} {H : IHeap} {K : IEnd → IHeap → Prop}

def varsT (vs : List (Nat × Array Value)) : Array Value × (Nat → IV) := ((vs.map fun _ => undef).toArray, fun i => match vs[i]? with | some p => .blk p.1 p.2 | none => .any)

theorem R.blk_inv {w : World} {g : Gs} {x : Value} {b : Nat} {xs : Array Value} (h : R w g x (.blk b xs)) : ∃ el f, w.heap[b]? = some (.cells xs el f) := by
  cases h with
  | blk _ _ el f _ _ h2 => exact ⟨el, f, h2⟩

theorem vars_get {w : World} {g : Gs} (s : Sim w g H) {vs : List (Nat × Array Value)} (h : varsT vs ∈ H.sn) {i b : Nat} {xs : Array Value} (hi : vs[i]? = some (b, xs)) : ∃ el f, w.heap[b]? = some (.cells xs el f) := by
  have hl : i < vs.length := (List.getElem?_eq_some_iff.1 hi).1
  have h1 := s.snap _ h i (by simpa [varsT] using hl)
  simp only [varsT, hi] at h1
  exact h1.blk_inv

theorem var_of {w : World} {name : String} {b : Nat} {xs : Array Value} {el : TypeId} {f : Nat × Nat} (hg : P.globalNamed name = some b) (h : w.heap[b]? = some (.cells xs el f)) : w.var? P name = some xs := by
  unfold World.var?
  rw [hg]
  simp [h]

def VOK (P : Program) (H : IHeap) : Prop := ∃ (b1 b2 b3 b4 : Nat) (t2 t3 : TypeId) (p2 p3 : Value) (x4 : Array Value) (m4 : Int), P.globalNamed "internal/strconv.uint64pow10" = some b1 ∧ P.globalNamed "strconv.ErrSyntax" = some b2 ∧ P.globalNamed "strconv.ErrRange" = some b3 ∧ P.globalNamed "internal/bytealg.MaxLen" = some b4 ∧ x4[0]? = some (.int .i64 m4) ∧
  varsT [(b1, (Lib.pow10Tab.map fun z => Value.int .u64 z).toArray), (b2, #[.iface t2 p2]), (b3, #[.iface t3 p3]), (b4, x4)] ∈ H.sn

theorem VOK.of {J : IHeap} (h : VOK P H) (e : J.sn = H.sn) : VOK P J := by
  obtain ⟨b1, b2, b3, b4, t2, t3, p2, p3, x4, m4, h1, h2, h3, h5, h6, h4⟩ := h
  exact ⟨b1, b2, b3, b4, t2, t3, p2, p3, x4, m4, h1, h2, h3, h5, h6, by rw [e]; exact h4⟩

theorem VOK.ext {J : IHeap} (h : VOK P H) (e : Ext H J) : VOK P J := h.of e.sn

theorem ICalls_itoa {ρ : Go.Shelf.Ren} {f : FuncId} (Ly : LaysM.n171 P ρ) (hf : ρ.f 171 = f) (hb : hasBody P f = true) (hV : VOK P H) (n : Int) (h0 : -9223372036854775808 ≤ n) (h1 : n ≤ 9223372036854775807) (hK : K (.ret (.v (str (Lib.itoa n)))) H) : ICalls P f [.v (.int .i64 n)] H K := by
  refine ⟨hb, fun w g vs s rl => ?_⟩
  obtain ⟨x, rfl, hx⟩ := args1 rl
  rw [hx.v_eq, ← hf]
  obtain ⟨b1, b2, b3, b4, t2, t3, p2, p3, x4, m4, q1, q2, q3, q5, q6, q4⟩ := hV
  obtain ⟨el, fz, hc⟩ := vars_get s q4 (i := 0) rfl
  refine (Any.strconv_Itoa Ly n h0 h1 w (var_of q1 hc)).mono ?_
  rintro e w' ⟨rfl, k, os, rfl⟩
  have hB : Below w.heap.size w (Go.Sort.grow (w.drewN k) os) := by
    refine ⟨rfl, rfl, rfl, ?_, fun i hi => ?_⟩
    · show w.heap.size ≤ (w.heap ++ os).size
      simp
    · show (w.heap ++ os)[i]? = w.heap[i]?
      rw [Array.getElem?_append_left hi]
  exact ⟨_, g, H, .of_below hB, s.of_below hB, .ret _ _ (.v _), hK⟩

def atoiS (s : List UInt8) : Int × Bool := match Lib.atoiAll s with | .ok v => (v, false) | .range => (Lib.atoiSat s, true) | _ => (0, true)

theorem ICalls_atoi {ρ : Go.Shelf.Ren} {f : FuncId} {te : TypeId} (Ly : LaysC.n172 P ρ) (hf : ρ.f 172 = f) (ht : ρ.t 168 = te) (hb : hasBody P f = true) (hV : VOK P H) (s : List UInt8) (hs : s.length ≤ 281474976710656) (hK : K (.ret (.tu [.v (.int .i64 (atoiS s).1), errI te (atoiS s).2])) H) : ICalls P f [.v (str s)] H K := by
  refine ⟨hb, fun w g vs sm rl => ?_⟩
  obtain ⟨x, rfl, hx⟩ := args1 rl
  rw [hx.v_eq, ← hf]
  obtain ⟨b1, b2, b3, b4, t2, t3, p2, p3, x4, m4, q1, q2, q3, q5, q6, q4⟩ := hV
  obtain ⟨el2, fz2, hc2⟩ := vars_get sm q4 (i := 1) rfl
  obtain ⟨el3, fz3, hc3⟩ := vars_get sm q4 (i := 2) rfl
  have v2 := var_of q2 hc2
  have v3 := var_of q3 hc3
  have two : ∀ (n : Int) (y : Value) (b : Bool), R w g y (errI te b) → ∀ (w' : World), Below w.heap.size w w' → R w' g (.tuple #[.int .i64 n, y]) (.tu [.v (.int .i64 n), errI te b]) := fun n y b hy w' hB => by
    refine .tu _ _ rfl fun j x c h1 h2 => ?_
    match j, h1, h2 with
    | 0, h1, h2 => simp at h1 h2; subst h1; subst h2; exact .v _
    | 1, h1, h2 => simp at h1 h2; subst h1; subst h2; exact hy.mono (.of_below hB)
    | j + 2, h1, h2 => simp at h1
  cases h : Lib.atoiAll s with
  | ok v =>
    have e : atoiS s = (v, false) := by simp only [atoiS, h]
    rw [e] at hK
    refine (Any.strconv_Atoi_ok Ly ⟨s.toArray⟩ (by show s.toArray.size ≤ _; simp; omega) v (by simpa using h) w).mono ?_
    rintro e w' ⟨rfl, hw⟩
    have hB : Below w.heap.size w w' := by
      rcases hw with rfl | ⟨t, rfl⟩
      · exact Below.refl _ _
      · exact Lib.bytesWorld_below _ _ _
    exact ⟨_, g, H, .of_below hB, sm.of_below hB, .ret _ _ (two v .nilIface false (.v _) _ hB), hK⟩
  | range =>
    have e : atoiS s = (Lib.atoiSat s, true) := by simp only [atoiS, h]
    rw [e] at hK
    refine (Any.strconv_Atoi_range_var Ly ⟨s.toArray⟩ (by show s.toArray.size ≤ _; simpa using hs) (by simpa using h) t3 p3 w v3).mono ?_
    rintro e w' ⟨N, rfl, _, _, hB⟩
    rw [ht]
    have e2 : (⟨s.toArray⟩ : ByteArray).data.toList = s := by simp
    rw [e2]
    exact ⟨_, g, H, .of_below hB, sm.of_below hB, .ret _ _ (two _ _ true (.ifc _ _ _ (.any _)) _ hB), hK⟩
  | _ =>
    have e : atoiS s = (0, true) := by simp only [atoiS, h]
    rw [e] at hK
    refine (Any.strconv_Atoi_syntax_var Ly ⟨s.toArray⟩ (by show s.toArray.size ≤ _; simpa using hs) (by simpa using h) t2 p2 w v2).mono ?_
    rintro e w' ⟨N, rfl, _, _, hB⟩
    rw [ht]
    exact ⟨_, g, H, .of_below hB, sm.of_below hB, .ret _ _ (two 0 _ true (.ifc _ _ _ (.any _)) _ hB), hK⟩

theorem args2' {w : World} {g : Gs} {vs : Array Value} {i j : IV} (rl : RL w g vs [i, j]) : ∃ x y, vs = #[x, y] ∧ R w g x i ∧ R w g y j := by
  obtain ⟨h1, h2⟩ := rl
  have hs : vs.size = 2 := h1
  refine ⟨vs[0], vs[1], ?_, h2 0 _ i (Array.getElem?_eq_getElem (by omega)) rfl, h2 1 _ j (Array.getElem?_eq_getElem (by omega)) rfl⟩
  apply Array.ext
  · simpa using hs
  · intro q hq hq'
    have : q = 0 ∨ q = 1 := by omega
    rcases this with rfl | rfl <;> rfl

theorem ICalls_cut {ρ : Go.Shelf.Ren} {f : FuncId} (Ly : Lays.n145 P ρ) (hf : ρ.f 145 = f) (hg : P.globalNamed "internal/bytealg.MaxLen" = some (ρ.g 1)) (hb : hasBody P f = true) (hV : VOK P H) (s t : List UInt8) (hs : s.length < 4294967281) (hK : K (.ret (.tu [.v (str (Lib.cut s t).1), .v (str (Lib.cut s t).2.1), .v (.bool (Lib.cut s t).2.2)])) H) : ICalls P f [.v (str s), .v (str t)] H K := by
  refine ⟨hb, fun w g vs sm rl => ?_⟩
  obtain ⟨x, y, rfl, hx, hy⟩ := args2' rl
  rw [hx.v_eq, hy.v_eq, ← hf]
  obtain ⟨b1, b2, b3, b4, t2, t3, p2, p3, x4, m4, q1, q2, q3, q5, q6, q4⟩ := hV
  obtain ⟨el4, fz4, hc4⟩ := vars_get sm q4 (i := 3) rfl
  have e4 : b4 = ρ.g 1 := by rw [hg] at q5; exact (Option.some.inj q5).symm
  subst e4
  have hm : w.cell? ⟨ρ.g 1, 0, none⟩ = some (.int .i64 m4) := by simp only [World.cell?, hc4]; exact q6
  refine (Any.strings_Cut Ly ⟨s.toArray⟩ ⟨t.toArray⟩ m4 w (by show s.toArray.size < _; simpa using hs) hm).mono ?_
  rintro e w' ⟨rfl, n, rfl⟩
  have hB : Below w.heap.size w (w.drewN n) := ⟨rfl, rfl, rfl, Nat.le_refl _, fun _ _ => rfl⟩
  refine ⟨_, g, H, .of_below hB, sm.of_below hB, .ret _ _ (.tu _ _ rfl fun j x c h1 h2 => ?_), hK⟩
  match j, h1, h2 with
  | 0, h1, h2 => simp at h1 h2; subst h1; subst h2; exact .v _
  | 1, h1, h2 => simp at h1 h2; subst h1; subst h2; exact .v _
  | 2, h1, h2 => simp at h1 h2; subst h1; subst h2; exact .v _
  | j + 3, h1, h2 => simp at h1

end Go.Idl

namespace Go.Proofs

open Go.Shelf

def Tryz.laysM171_ren : Go.Shelf.Ren := ⟨fun | 171 => 66 | 243 => 95 | 246 => 109 | 283 => 119 | 284 => 120 | 285 => 121 | 286 => 122 | 129 => 140 | 317 => 141 | 318 => 142 | 319 => 143 | 320 => 144 | 337 => 158 | 338 => 159 | n => n, fun | 3 => 3 | 9 => 9 | 2 => 2 | 4 => 4 | 171 => 137 | 0 => 0 | 53 => 138 | 37 => 89 | 5 => 5 | 173 => 141 | 212 => 163 | 51 => 160 | 20 => 20 | 213 => 164 | 46 => 136 | 232 => 187 | 233 => 188 | n => n, fun | 17 => 0 | 18 => 4 | 19 => 5 | n => n⟩

theorem Tryz.laysM171 : Go.Proofs.LaysM.n171 Tryz.prog Tryz.laysM171_ren := {
  mixed := by kernel_rfl
  f129 := Tryz.func140.trans (congrArg some (by kernel_rfl))
  f171 := Tryz.func66.trans (congrArg some (by kernel_rfl))
  f243 := Tryz.func95.trans (congrArg some (by kernel_rfl))
  f246 := Tryz.func109.trans (congrArg some (by kernel_rfl))
  f283 := Tryz.func119.trans (congrArg some (by kernel_rfl))
  f284 := Tryz.func120.trans (congrArg some (by kernel_rfl))
  f285 := Tryz.func121.trans (congrArg some (by kernel_rfl))
  f286 := Tryz.func122.trans (congrArg some (by kernel_rfl))
  f317 := Tryz.func141.trans (congrArg some (by kernel_rfl))
  f318 := Tryz.func142.trans (congrArg some (by kernel_rfl))
  f319 := Tryz.func143.trans (congrArg some (by kernel_rfl))
  f320 := Tryz.func144.trans (congrArg some (by kernel_rfl))
  f337 := Tryz.func158.trans (congrArg some (by kernel_rfl))
  f338 := Tryz.func159.trans (congrArg some (by kernel_rfl))
  t0 := Tryz.underlying0
  a0 := Tryz.isAgg0
  z0 := Tryz.sizeOf0
  v0 := Tryz.zeroValue0
  t2 := Tryz.underlying2
  a2 := Tryz.isAgg2
  z2 := Tryz.sizeOf2
  v2 := Tryz.zeroValue2
  t3 := Tryz.underlying3
  a3 := Tryz.isAgg3
  z3 := Tryz.sizeOf3
  v3 := Tryz.zeroValue3
  t4 := Tryz.underlying4
  a4 := Tryz.isAgg4
  z4 := Tryz.sizeOf4
  v4 := Tryz.zeroValue4
  t5 := Tryz.underlying5
  a5 := Tryz.isAgg5
  z5 := Tryz.sizeOf5
  v5 := Tryz.zeroValue5
  t9 := Tryz.underlying9
  a9 := Tryz.isAgg9
  z9 := Tryz.sizeOf9
  v9 := Tryz.zeroValue9
  t20 := Tryz.underlying20
  a20 := Tryz.isAgg20
  z20 := Tryz.sizeOf20
  v20 := Tryz.zeroValue20
  t37 := Tryz.underlying89
  a37 := Tryz.isAgg89
  z37 := Tryz.sizeOf89
  v37 := Tryz.zeroValue89
  t46 := Tryz.underlying136
  a46 := Tryz.isAgg136
  z46 := Tryz.sizeOf136
  v46 := Tryz.zeroValue136
  t51 := Tryz.underlying160
  a51 := Tryz.isAgg160
  z51 := Tryz.sizeOf160
  v51 := Tryz.zeroValue160
  t53 := Tryz.underlying138
  a53 := Tryz.isAgg138
  z53 := Tryz.sizeOf138
  v53 := Tryz.zeroValue138
  t171 := Tryz.underlying137
  a171 := Tryz.isAgg137
  z171 := Tryz.sizeOf137
  v171 := Tryz.zeroValue137
  t173 := Tryz.underlying141
  a173 := Tryz.isAgg141
  z173 := Tryz.sizeOf141
  v173 := Tryz.zeroValue141
  t212 := Tryz.underlying163
  a212 := Tryz.isAgg163
  z212 := Tryz.sizeOf163
  v212 := Tryz.zeroValue163
  t213 := Tryz.underlying164
  a213 := Tryz.isAgg164
  z213 := Tryz.sizeOf164
  t232 := Tryz.underlying187
  a232 := Tryz.isAgg187
  z232 := Tryz.sizeOf187
  v232 := Tryz.zeroValue187
  t233 := Tryz.underlying188
  a233 := Tryz.isAgg188
  z233 := Tryz.sizeOf188
  v233 := Tryz.zeroValue188
  g17 := by kernel_rfl
  g18 := by kernel_rfl
  g19 := by kernel_rfl
  i0 := by kernel_rfl
  i2 := by kernel_rfl
  i3 := by kernel_rfl
  i4 := by kernel_rfl
  i5 := by kernel_rfl
  i9 := by kernel_rfl
  i20 := by kernel_rfl
  i37 := by kernel_rfl
  i46 := by kernel_rfl
  i51 := by kernel_rfl
  i53 := by kernel_rfl
  i171 := by kernel_rfl
  i173 := by kernel_rfl
  i212 := by kernel_rfl
  i232 := by kernel_rfl
  i233 := by kernel_rfl
  m17 := by kernel_rfl
  m18 := by kernel_rfl
  m19 := by kernel_rfl }

def Tryz.laysC172_ren : Go.Shelf.Ren := ⟨fun | 172 => 97 | 244 => 111 | 245 => 112 | 247 => 124 | 279 => 125 | 280 => 126 | 281 => 127 | 282 => 128 | 287 => 149 | 316 => 150 | 171 => 66 | 205 => 151 | 321 => 162 | 322 => 163 | 243 => 95 | 246 => 109 | 283 => 119 | 284 => 120 | 285 => 121 | 286 => 122 | 129 => 140 | 317 => 141 | 318 => 142 | 319 => 143 | 320 => 144 | 337 => 158 | 338 => 159 | n => n, fun | 9 => 9 | 3 => 3 | 75 => 93 | 76 => 94 | 4 => 4 | 5 => 5 | 167 => 144 | 37 => 89 | 0 => 0 | 85 => 145 | 2 => 2 | 168 => 147 | 53 => 138 | 175 => 167 | 46 => 136 | 210 => 170 | 127 => 119 | 145 => 183 | 143 => 181 | 21 => 21 | 171 => 137 | 173 => 141 | 212 => 163 | 51 => 160 | 20 => 20 | 213 => 164 | 232 => 187 | 233 => 188 | 80 => 98 | n => n, fun | 15 => 2 | 16 => 3 | 17 => 0 | 18 => 4 | 19 => 5 | n => n⟩

theorem Tryz.laysC172 : Go.Proofs.LaysC.n172 Tryz.prog Tryz.laysC172_ren := {
  mixed := by kernel_rfl
  f129 := Tryz.func140.trans (congrArg some (by kernel_rfl))
  f171 := Tryz.func66.trans (congrArg some (by kernel_rfl))
  f172 := Tryz.func97.trans (congrArg some (by kernel_rfl))
  f205 := Tryz.func151.trans (congrArg some (by kernel_rfl))
  f243 := Tryz.func95.trans (congrArg some (by kernel_rfl))
  f244 := Tryz.func111.trans (congrArg some (by kernel_rfl))
  f245 := Tryz.func112.trans (congrArg some (by kernel_rfl))
  f246 := Tryz.func109.trans (congrArg some (by kernel_rfl))
  f247 := Tryz.func124.trans (congrArg some (by kernel_rfl))
  f279 := Tryz.func125.trans (congrArg some (by kernel_rfl))
  f280 := Tryz.func126.trans (congrArg some (by kernel_rfl))
  f281 := Tryz.func127.trans (congrArg some (by kernel_rfl))
  f282 := Tryz.func128.trans (congrArg some (by kernel_rfl))
  f283 := Tryz.func119.trans (congrArg some (by kernel_rfl))
  f284 := Tryz.func120.trans (congrArg some (by kernel_rfl))
  f285 := Tryz.func121.trans (congrArg some (by kernel_rfl))
  f286 := Tryz.func122.trans (congrArg some (by kernel_rfl))
  f287 := Tryz.func149.trans (congrArg some (by kernel_rfl))
  f316 := Tryz.func150.trans (congrArg some (by kernel_rfl))
  f317 := Tryz.func141.trans (congrArg some (by kernel_rfl))
  f318 := Tryz.func142.trans (congrArg some (by kernel_rfl))
  f319 := Tryz.func143.trans (congrArg some (by kernel_rfl))
  f320 := Tryz.func144.trans (congrArg some (by kernel_rfl))
  f321 := Tryz.func162.trans (congrArg some (by kernel_rfl))
  f322 := Tryz.func163.trans (congrArg some (by kernel_rfl))
  f337 := Tryz.func158.trans (congrArg some (by kernel_rfl))
  f338 := Tryz.func159.trans (congrArg some (by kernel_rfl))
  t0 := Tryz.underlying0
  a0 := Tryz.isAgg0
  z0 := Tryz.sizeOf0
  v0 := Tryz.zeroValue0
  t2 := Tryz.underlying2
  a2 := Tryz.isAgg2
  z2 := Tryz.sizeOf2
  v2 := Tryz.zeroValue2
  t3 := Tryz.underlying3
  a3 := Tryz.isAgg3
  z3 := Tryz.sizeOf3
  v3 := Tryz.zeroValue3
  t4 := Tryz.underlying4
  a4 := Tryz.isAgg4
  z4 := Tryz.sizeOf4
  v4 := Tryz.zeroValue4
  t5 := Tryz.underlying5
  a5 := Tryz.isAgg5
  z5 := Tryz.sizeOf5
  v5 := Tryz.zeroValue5
  t9 := Tryz.underlying9
  a9 := Tryz.isAgg9
  z9 := Tryz.sizeOf9
  v9 := Tryz.zeroValue9
  t20 := Tryz.underlying20
  a20 := Tryz.isAgg20
  z20 := Tryz.sizeOf20
  v20 := Tryz.zeroValue20
  t21 := Tryz.underlying21
  a21 := Tryz.isAgg21
  z21 := Tryz.sizeOf21
  v21 := Tryz.zeroValue21
  t37 := Tryz.underlying89
  a37 := Tryz.isAgg89
  z37 := Tryz.sizeOf89
  v37 := Tryz.zeroValue89
  t46 := Tryz.underlying136
  a46 := Tryz.isAgg136
  z46 := Tryz.sizeOf136
  v46 := Tryz.zeroValue136
  t51 := Tryz.underlying160
  a51 := Tryz.isAgg160
  z51 := Tryz.sizeOf160
  v51 := Tryz.zeroValue160
  t53 := Tryz.underlying138
  a53 := Tryz.isAgg138
  z53 := Tryz.sizeOf138
  v53 := Tryz.zeroValue138
  t75 := Tryz.underlying93
  a75 := Tryz.isAgg93
  z75 := Tryz.sizeOf93
  v75 := Tryz.zeroValue93
  t76 := Tryz.underlying94
  a76 := Tryz.isAgg94
  z76 := Tryz.sizeOf94
  v76 := Tryz.zeroValue94
  t85 := Tryz.underlying145
  a85 := Tryz.isAgg145
  z85 := Tryz.sizeOf145
  v85 := Tryz.zeroValue145
  t127 := Tryz.underlying119
  a127 := Tryz.isAgg119
  z127 := Tryz.sizeOf119
  v127 := Tryz.zeroValue119
  t143 := Tryz.underlying181
  a143 := Tryz.isAgg181
  z143 := Tryz.sizeOf181
  v143 := Tryz.zeroValue181
  t145 := Tryz.underlying183
  a145 := Tryz.isAgg183
  z145 := Tryz.sizeOf183
  v145 := Tryz.zeroValue183
  t167 := Tryz.underlying144
  a167 := Tryz.isAgg144
  z167 := Tryz.sizeOf144
  v167 := Tryz.zeroValue144
  t168 := Tryz.underlying147
  a168 := Tryz.isAgg147
  z168 := Tryz.sizeOf147
  v168 := Tryz.zeroValue147
  t171 := Tryz.underlying137
  a171 := Tryz.isAgg137
  z171 := Tryz.sizeOf137
  v171 := Tryz.zeroValue137
  t173 := Tryz.underlying141
  a173 := Tryz.isAgg141
  z173 := Tryz.sizeOf141
  v173 := Tryz.zeroValue141
  t175 := Tryz.underlying167
  a175 := Tryz.isAgg167
  z175 := Tryz.sizeOf167
  v175 := Tryz.zeroValue167
  t210 := Tryz.underlying170
  a210 := Tryz.isAgg170
  z210 := Tryz.sizeOf170
  v210 := Tryz.zeroValue170
  t212 := Tryz.underlying163
  a212 := Tryz.isAgg163
  z212 := Tryz.sizeOf163
  v212 := Tryz.zeroValue163
  t213 := Tryz.underlying164
  a213 := Tryz.isAgg164
  z213 := Tryz.sizeOf164
  t232 := Tryz.underlying187
  a232 := Tryz.isAgg187
  z232 := Tryz.sizeOf187
  v232 := Tryz.zeroValue187
  t233 := Tryz.underlying188
  a233 := Tryz.isAgg188
  z233 := Tryz.sizeOf188
  v233 := Tryz.zeroValue188
  g15 := by kernel_rfl
  g16 := by kernel_rfl
  g17 := by kernel_rfl
  g18 := by kernel_rfl
  g19 := by kernel_rfl
  t80 := Tryz.underlying98
  a80 := Tryz.isAgg98
  z80 := Tryz.sizeOf98
  v80 := Tryz.zeroValue98
  i0 := by kernel_rfl
  i2 := by kernel_rfl
  i3 := by kernel_rfl
  i4 := by kernel_rfl
  i5 := by kernel_rfl
  i9 := by kernel_rfl
  i20 := by kernel_rfl
  i21 := by kernel_rfl
  i37 := by kernel_rfl
  i46 := by kernel_rfl
  i51 := by kernel_rfl
  i53 := by kernel_rfl
  i75 := by kernel_rfl
  i76 := by kernel_rfl
  i80 := by kernel_rfl
  i85 := by kernel_rfl
  i127 := by kernel_rfl
  i143 := by kernel_rfl
  i145 := by kernel_rfl
  i167 := by kernel_rfl
  i168 := by kernel_rfl
  i171 := by kernel_rfl
  i173 := by kernel_rfl
  i175 := by kernel_rfl
  i210 := by kernel_rfl
  i212 := by kernel_rfl
  i232 := by kernel_rfl
  i233 := by kernel_rfl
  m15 := by kernel_rfl
  m16 := by kernel_rfl
  m17 := by kernel_rfl
  m18 := by kernel_rfl
  m19 := by kernel_rfl
  c0 := by kernel_rfl
  c2 := by kernel_rfl
  c3 := by kernel_rfl
  c4 := by kernel_rfl
  c5 := by kernel_rfl
  c9 := by kernel_rfl
  c20 := by kernel_rfl
  c21 := by kernel_rfl
  c37 := by kernel_rfl
  c46 := by kernel_rfl
  c51 := by kernel_rfl
  c53 := by kernel_rfl
  c75 := by kernel_rfl
  c76 := by kernel_rfl
  c80 := by kernel_rfl
  c85 := by kernel_rfl
  c127 := by kernel_rfl
  c143 := by kernel_rfl
  c145 := by kernel_rfl
  c167 := by kernel_rfl
  c168 := by kernel_rfl
  c171 := by kernel_rfl
  c173 := by kernel_rfl
  c175 := by kernel_rfl
  c210 := by kernel_rfl
  c212 := by kernel_rfl
  c213 := by kernel_rfl
  c232 := by kernel_rfl
  c233 := by kernel_rfl }

def Tryz.lays145_ren : Go.Shelf.Ren := ⟨fun | 145 => 96 | 220 => 110 | 219 => 123 | 217 => 145 | 225 => 146 | 224 => 147 | 267 => 148 | 266 => 160 | 314 => 161 | n => n, fun | 9 => 9 | 4 => 4 | 59 => 106 | 3 => 3 | 5 => 5 | 46 => 136 | 146 => 178 | 51 => 160 | n => n, fun | 1 => 1 | n => n⟩

theorem Tryz.lays145 : Go.Proofs.Lays.n145 Tryz.prog Tryz.lays145_ren := {
  mixed := by kernel_rfl
  f145 := Tryz.func96.trans (congrArg some (by kernel_rfl))
  f217 := Tryz.func145.trans (congrArg some (by kernel_rfl))
  f219 := Tryz.func123.trans (congrArg some (by kernel_rfl))
  f220 := Tryz.func110.trans (congrArg some (by kernel_rfl))
  f224 := Tryz.func147.trans (congrArg some (by kernel_rfl))
  f225 := Tryz.func146.trans (congrArg some (by kernel_rfl))
  f266 := Tryz.func160.trans (congrArg some (by kernel_rfl))
  f267 := Tryz.func148.trans (congrArg some (by kernel_rfl))
  f314 := Tryz.func161.trans (congrArg some (by kernel_rfl))
  t3 := Tryz.underlying3
  a3 := Tryz.isAgg3
  z3 := Tryz.sizeOf3
  v3 := Tryz.zeroValue3
  t4 := Tryz.underlying4
  a4 := Tryz.isAgg4
  z4 := Tryz.sizeOf4
  v4 := Tryz.zeroValue4
  t5 := Tryz.underlying5
  a5 := Tryz.isAgg5
  z5 := Tryz.sizeOf5
  v5 := Tryz.zeroValue5
  t9 := Tryz.underlying9
  a9 := Tryz.isAgg9
  z9 := Tryz.sizeOf9
  v9 := Tryz.zeroValue9
  t46 := Tryz.underlying136
  a46 := Tryz.isAgg136
  z46 := Tryz.sizeOf136
  v46 := Tryz.zeroValue136
  t51 := Tryz.underlying160
  a51 := Tryz.isAgg160
  z51 := Tryz.sizeOf160
  v51 := Tryz.zeroValue160
  t59 := Tryz.underlying106
  a59 := Tryz.isAgg106
  z59 := Tryz.sizeOf106
  v59 := Tryz.zeroValue106
  t146 := Tryz.underlying178
  a146 := Tryz.isAgg178
  z146 := Tryz.sizeOf178
  v146 := Tryz.zeroValue178
  g1 := by kernel_rfl }

end Go.Proofs

namespace Go.Idl

open Go Go.Proofs.Tryz Go.RowKit Go.Proofs Go.Shelf

variable {H : IHeap} {K : IEnd → IHeap → Prop}

noncomputable def F66 (n : Int) : Option Str := gd (-9223372036854775808 ≤ n ∧ n ≤ 9223372036854775807) (some (Lib.itoa n))

theorem F66_ok (n : Int) (hV : VOK prog H) {r : Str} (h : F66 n = some r) (hK : K (.ret (.v (str r))) H) : ICalls prog 66 [.v (.int .i64 n)] H K := by
  obtain ⟨⟨h0, h1⟩, h⟩ := gd_some.1 h
  cases h
  exact ICalls_itoa Go.Proofs.Tryz.laysM171 rfl (by kernel_rfl) hV n h0 h1 hK

noncomputable def F96 (s t : Str) : Option (Str × Str × Bool) := gd ((s.length : Int) < 4294967281) (some (Lib.cut s t))

theorem F96_ok (s t : Str) (hV : VOK prog H) {r : Str × Str × Bool} (h : F96 s t = some r) (hK : K (.ret (.tu [.v (str r.1), .v (str r.2.1), .v (.bool r.2.2)])) H) : ICalls prog 96 [.v (str s), .v (str t)] H K := by
  obtain ⟨h0, h⟩ := gd_some.1 h
  cases h
  exact ICalls_cut Go.Proofs.Tryz.lays145 rfl (by kernel_rfl) (by kernel_rfl) hV s t (by omega) hK

noncomputable def F97 (s : Str) : Option (Int × Bool) := gd ((s.length : Int) ≤ 281474976710656) (some (atoiS s))

theorem F97_ok (s : Str) (hV : VOK prog H) {r : Int × Bool} (h : F97 s = some r) (hK : K (.ret (.tu [.v (.int .i64 r.1), errI 147 r.2])) H) : ICalls prog 97 [.v (str s)] H K := by
  obtain ⟨h0, h⟩ := gd_some.1 h
  cases h
  exact ICalls_atoi Go.Proofs.Tryz.laysC172 rfl rfl (by kernel_rfl) hV s (by omega) hK

theorem itoa_nat (n : Nat) : Lib.itoa (n : Int) = Lib.decDigits n := by
  unfold Lib.itoa
  rw [if_neg (by omega)]
  simp

end Go.Idl

namespace Go.Idl

open Go Go.Proofs.Tryz

/-! cardcase/cardcaseref07.Number -/

/-! cardcase/cardcaseref07.Text -/

/-! cardcase/cardcaseref07.cut -/

noncomputable def F72_k4  : Option ((List UInt8) × (List UInt8) × Bool) :=
  some ([], [], false)

noncomputable def F72_b4 (a0 : List UInt8) (a1 : Int) (v5 : Int) : Option (Int ⊕ (Unit ⊕ ((List UInt8) × (List UInt8) × Bool))) :=
  if v5 < (a0.length : Int) then (gd (0 ≤ v5 ∧ v5 < a0.length) (if (((a0.getD v5.toNat 0).toNat : Int)) = a1 then (gd (0 ≤ v5) (gd (v5 ≤ a0.length) (gd (0 ≤ (IntKind.i64.wrap (v5 + 1))) (gd (IntKind.i64.wrap (v5 + 1) ≤ a0.length) (some (.inr (.inr (((a0.take v5.toNat), a0.drop (IntKind.i64.wrap (v5 + 1)).toNat, true))))))))) else (some (.inl (IntKind.i64.wrap (v5 + 1)))))) else (some (.inr (.inl ())))

noncomputable def F72 (a0 : List UInt8) (a1 : Int) : Option ((List UInt8) × (List UInt8) × Bool) :=
  (loopO (fun (s : Int) => F72_b4 a0 a1 s) 0).bind fun y => Sum.elim (fun (e : Unit) => F72_k4) (fun (q : (List UInt8) × (List UInt8) × Bool) => some q) y

set_option maxHeartbeats 8000000 in
set_option pp.deepTerms false in
set_option maxRecDepth 60000 in
theorem F72_ok {H : IHeap} {K : IEnd → IHeap → Prop} (a0 : List UInt8) (a1 : Int) {r : (List UInt8) × (List UInt8) × Bool} (h : F72 a0 a1 = some r) (hK : K (.ret (.tu [.v (str r.1), .v (str r.2.1), .v (.bool r.2.2)])) H) : ICalls prog 72 [.v (str a0), .v (.int .u8 a1)] H K := by
  refine ICalls_iwp (N := 26) func72 (by kernel_rfl) rfl (by kernel_rfl) (by kernel_rfl) fun cb hcb hw hbd hnb => ?_
  clear hbd hnb
  subst hcb
  unfold F72 at h
  refine IWp_seqF fun cb hc1 => ?_
  refine vcK ?_
  try simp -implicitDefEqProofs (maxSteps := 1000000) (disch := omega) [go_sem]
  subst hc1
  refine IWp_seqF fun cb hc2 => ?_
  refine IWp_seqF fun cb hc3 => ?_
  refine vcK ?_
  try simp -implicitDefEqProofs (maxSteps := 1000000) (disch := omega) [go_sem]
  subst hc3
  obtain ⟨y4, hl4q, hk4⟩ := bind_some' h
  refine IWp_tailC (fun tm' H' => .inl () = y4 ∧ H = H') ?_ fun cb hc4 => ?_
  · rintro tm4e H4e ⟨rfl, rfl⟩
    have h : F72_k4 = some r := hk4
    unfold F72_k4 at h
    simp -implicitDefEqProofs only [go_sem]
    subst hc2
    refine IWp_seqF fun cb hc6 => ?_
    refine vcK ?_
    try simp -implicitDefEqProofs (maxSteps := 1000000) (disch := omega) [go_sem]
    subst hc6
    refine vcK ?_
    simp -implicitDefEqProofs only [go_sem]
    have er := Option.some.inj h
    subst er
    try simp -implicitDefEqProofs (maxSteps := 1000000) (disch := omega) [go_sem]
    refine retG_pureA (Ext.refl hw) hK (e := by first | with_reducible rfl | (simp -implicitDefEqProofs (maxSteps := 1000000) (disch := omega) [go_sem] <;> omega))
  · refine IWp_block ?_
    refine IWp_loopF (fun (s : Int) tm' H' => H = H' ∧ tm' 0 = .v (str a0) ∧ tm' 1 = .v (.int .u8 a1) ∧ tm' 7 = .v (.int .i64 s)) hl4q ?_ ?_
    · refine .same ⟨rfl, ?_, ?_, ?_⟩ <;> first | with_reducible rfl | with_reducible assumption | (simp -implicitDefEqProofs (maxSteps := 1000000) (disch := omega) [go_sem] <;> omega)
    · rintro I4 hI4 v5 x4 tm4 H4 ⟨rfl, t0_4, t1_4, t7_4⟩ h hret4
      replace h : F72_b4 a0 a1 v5 = some x4 := h
      unfold F72_b4 at h
      refine IWp_seqF fun cb hc7 => ?_
      refine IWp_seqF fun cb hc8 => ?_
      refine vcK ?_
      try simp -implicitDefEqProofs (maxSteps := 1000000) (disch := omega) [go_sem, t0_4, t1_4, t7_4]
      subst hc8
      refine IWp_cond_i h (by first | with_reducible rfl | (simp -implicitDefEqProofs (maxSteps := 1000000) (disch := omega) [go_sem, t0_4, t1_4, t7_4] <;> omega)) rfl ?_ ?_
      · intro c9 h
        try simp -implicitDefEqProofs (disch := omega) at c9
        refine vcK ?_
        simp -implicitDefEqProofs only [go_sem]
        subst hc7
        refine IWp_seqF fun cb hc10 => ?_
        refine IWp_block ?_
        refine IWp_seqF fun cb hc11 => ?_
        refine vcK ?_
        obtain ⟨g12, h⟩ := gd_some.1 h
        try simp -implicitDefEqProofs (disch := omega) at g12
        try simp -implicitDefEqProofs (maxSteps := 1000000) (disch := omega) [go_sem, t0_4, t1_4, t7_4]
        subst hc11
        refine IWp_cond_i h (by first | with_reducible rfl | (simp -implicitDefEqProofs (maxSteps := 1000000) (disch := omega) [go_sem, t0_4, t1_4, t7_4] <;> omega)) rfl ?_ ?_
        · intro c13 h
          try simp -implicitDefEqProofs (disch := omega) at c13
          refine IWp_seqF fun cb hc14 => ?_
          refine IWp_drawP [] [0, 1, 2, 3, 4, 5, 6, 7, 8, 9] (by kernel_rfl) (by kernel_rfl) (fun _ _ _ _ h => h) ?_
          obtain ⟨g15, h⟩ := gd_some.1 h
          try simp -implicitDefEqProofs (disch := omega) at g15
          obtain ⟨g16, h⟩ := gd_some.1 h
          try simp -implicitDefEqProofs (disch := omega) at g16
          obtain ⟨g17, h⟩ := gd_some.1 h
          try simp -implicitDefEqProofs (disch := omega) at g17
          obtain ⟨g18, h⟩ := gd_some.1 h
          try simp -implicitDefEqProofs (disch := omega) at g18
          try simp -implicitDefEqProofs (maxSteps := 1000000) (disch := omega) [go_sem, t0_4, t1_4, t7_4]
          subst hc14
          refine vcK ?_
          simp -implicitDefEqProofs only [go_sem]
          have e4 := Option.some.inj h
          subst e4
          have e4 := hret4 _ rfl
          subst e4
          replace h : some (((a0.take v5.toNat), a0.drop (IntKind.i64.wrap (v5 + 1)).toNat, true)) = some r := hk4
          have er := Option.some.inj h
          subst er
          try simp -implicitDefEqProofs (maxSteps := 1000000) (disch := omega) [go_sem, t0_4, t1_4, t7_4]
          refine retG_pureA (Ext.refl hw) hK (e := by first | with_reducible rfl | (simp -implicitDefEqProofs (maxSteps := 1000000) (disch := omega) [go_sem, t0_4, t1_4, t7_4] <;> omega))
        · intro c13 h
          try simp -implicitDefEqProofs (disch := omega) at c13
          refine vcK ?_
          simp -implicitDefEqProofs only [go_sem]
          subst hc10
          refine vcK ?_
          try simp -implicitDefEqProofs (maxSteps := 1000000) (disch := omega) [go_sem, t0_4, t1_4, t7_4]
          have e4 := Option.some.inj h
          subst e4
          refine loopN_mk hI4 (IntKind.i64.wrap (v5 + 1)) ?_
          refine .same ⟨rfl, ?_, ?_, ?_⟩ <;> first | with_reducible rfl | with_reducible assumption | (simp -implicitDefEqProofs (maxSteps := 1000000) (disch := omega) [go_sem, t0_4, t1_4, t7_4] <;> omega)
      · intro c9 h
        try simp -implicitDefEqProofs (disch := omega) at c9
        refine vcK ?_
        simp -implicitDefEqProofs only [go_sem]
        have e4 := Option.some.inj h
        subst e4
        have hy4 := hret4 _ rfl
        refine hc4 _ _ ?_
        refine .same ⟨hy4, rfl⟩

/-! cardcase/cardcaseref07.number -/

noncomputable def F73_k10 (a0 : List UInt8) (a1 : Int) (v13 : Int) : Option Int :=
  gd (0 < a0.length) (if (((a0.getD 0 0).toNat : Int)) = 48 then (some 0) else (if a1 < v13 then (some 0) else (some v13)))

noncomputable def F73_b10 (a0 : List UInt8) (v11 : Int) (v12 : Int) : Option ((Int × Int) ⊕ (Int ⊕ Int)) :=
  if v12 < (a0.length : Int) then (gd (0 ≤ v12 ∧ v12 < a0.length) (if (((a0.getD v12.toNat 0).toNat : Int)) < 48 then (some (.inr (.inr 0))) else (if 57 < (((a0.getD v12.toNat 0).toNat : Int)) then (some (.inr (.inr 0))) else (some (.inl ((IntKind.i64.wrap ((IntKind.i64.wrap ((IntKind.i64.wrap (10 * v11)) + (IntKind.i64.wrap (((a0.getD v12.toNat 0).toNat : Int))))) - 48), IntKind.i64.wrap (v12 + 1)))))))) else (some (.inr (.inl v11)))

noncomputable def F73 (a0 : List UInt8) (a1 : Int) : Option Int :=
  if (a0.length : Int) < 1 then (some 0) else (if 4 < (a0.length : Int) then (some 0) else ((loopO (fun (s : Int × Int) => F73_b10 a0 s.1 s.2) (0, 0)).bind fun y => Sum.elim (fun (e : Int) => F73_k10 a0 a1 e) (fun (q : Int) => some q) y))

set_option maxHeartbeats 8000000 in
set_option pp.deepTerms false in
set_option maxRecDepth 60000 in
theorem F73_ok {H : IHeap} {K : IEnd → IHeap → Prop} (a0 : List UInt8) (a1 : Int) {r : Int} (h : F73 a0 a1 = some r) (hK : K (.ret (.v (.int .i64 r))) H) : ICalls prog 73 [.v (str a0), .v (.int .i64 a1)] H K := by
  refine ICalls_iwp (N := 48) func73 (by kernel_rfl) rfl (by kernel_rfl) (by kernel_rfl) fun cb hcb hw hbd hnb => ?_
  clear hbd hnb
  subst hcb
  unfold F73 at h
  refine IWp_seqF fun cb hc1 => ?_
  refine vcK ?_
  try simp -implicitDefEqProofs (maxSteps := 1000000) (disch := omega) [go_sem]
  subst hc1
  refine IWp_seqF fun cb hc2 => ?_
  refine IWp_seqF fun cb hc3 => ?_
  refine vcK ?_
  try simp -implicitDefEqProofs (maxSteps := 1000000) (disch := omega) [go_sem]
  refine splitG_f h (by first | with_reducible rfl | (simp -implicitDefEqProofs (maxSteps := 1000000) (disch := omega) [go_sem] <;> omega)) ?_ ?_
  · intro c33 h
    try simp -implicitDefEqProofs (disch := omega) at c33
    try simp -implicitDefEqProofs (maxSteps := 1000000) (disch := omega) [go_sem]
    subst hc3
    refine IWp_cond_t (by first | with_reducible rfl | (simp -implicitDefEqProofs (maxSteps := 1000000) (disch := omega) [go_sem] <;> omega)) rfl ?_
    refine IWp_seqF fun cb hc4 => ?_
    refine vcK ?_
    try simp -implicitDefEqProofs (maxSteps := 1000000) (disch := omega) [go_sem]
    subst hc4
    refine vcK ?_
    simp -implicitDefEqProofs only [go_sem]
    have er := Option.some.inj h
    subst er
    try simp -implicitDefEqProofs (maxSteps := 1000000) (disch := omega) [go_sem]
    refine retG_pureA (Ext.refl hw) hK (e := by first | with_reducible rfl | (simp -implicitDefEqProofs (maxSteps := 1000000) (disch := omega) [go_sem] <;> omega))
  · intro c33 h
    try simp -implicitDefEqProofs (disch := omega) at c33
    try simp -implicitDefEqProofs (maxSteps := 1000000) (disch := omega) [go_sem]
    subst hc3
    refine IWp_cond_i h (by first | with_reducible rfl | (simp -implicitDefEqProofs (maxSteps := 1000000) (disch := omega) [go_sem] <;> omega)) rfl ?_ ?_
    · intro c5 h
      try simp -implicitDefEqProofs (disch := omega) at c5
      refine IWp_seqF fun cb hc6 => ?_
      refine vcK ?_
      try simp -implicitDefEqProofs (maxSteps := 1000000) (disch := omega) [go_sem]
      subst hc6
      refine vcK ?_
      simp -implicitDefEqProofs only [go_sem]
      have er := Option.some.inj h
      subst er
      try simp -implicitDefEqProofs (maxSteps := 1000000) (disch := omega) [go_sem]
      refine retG_pureA (Ext.refl hw) hK (e := by first | with_reducible rfl | (simp -implicitDefEqProofs (maxSteps := 1000000) (disch := omega) [go_sem] <;> omega))
    · intro c5 h
      try simp -implicitDefEqProofs (disch := omega) at c5
      refine vcK ?_
      simp -implicitDefEqProofs only [go_sem]
      subst hc2
      refine IWp_seqF fun cb hc7 => ?_
      refine vcK ?_
      try simp -implicitDefEqProofs (maxSteps := 1000000) (disch := omega) [go_sem]
      subst hc7
      refine IWp_seqF fun cb hc8 => ?_
      refine IWp_seqF fun cb hc9 => ?_
      refine vcK ?_
      try simp -implicitDefEqProofs (maxSteps := 1000000) (disch := omega) [go_sem]
      subst hc9
      obtain ⟨y10, hl10q, hk10⟩ := bind_some' h
      refine IWp_tailC (fun tm' H' => ∃ v13 : Int, .inl v13 = y10 ∧ H = H' ∧ tm' 0 = .v (str a0) ∧ tm' 1 = .v (.int .i64 a1) ∧ tm' 5 = .v (.int .i64 v13)) ?_ fun cb hc10 => ?_
      · rintro tm10e H10e ⟨v13, rfl, rfl, t0_10e, t1_10e, t5_10e⟩
        have h : F73_k10 a0 a1 v13 = some r := hk10
        unfold F73_k10 at h
        simp -implicitDefEqProofs only [go_sem]
        subst hc8
        refine IWp_seqF fun cb hc14 => ?_
        refine IWp_seqF fun cb hc15 => ?_
        refine vcK ?_
        obtain ⟨g16, h⟩ := gd_some.1 h
        try simp -implicitDefEqProofs (disch := omega) at g16
        try simp -implicitDefEqProofs (maxSteps := 1000000) (disch := omega) [go_sem, t0_10e, t1_10e, t5_10e]
        refine splitG_f h (by first | with_reducible rfl | (simp -implicitDefEqProofs (maxSteps := 1000000) (disch := omega) [go_sem, t0_10e, t1_10e, t5_10e] <;> omega)) ?_ ?_
        · intro c21 h
          try simp -implicitDefEqProofs (disch := omega) at c21
          try simp -implicitDefEqProofs (maxSteps := 1000000) (disch := omega) [go_sem, t0_10e, t1_10e, t5_10e]
          subst hc15
          refine IWp_cond_t (by first | with_reducible rfl | (simp -implicitDefEqProofs (maxSteps := 1000000) (disch := omega) [go_sem, t0_10e, t1_10e, t5_10e] <;> omega)) rfl ?_
          refine IWp_seqF fun cb hc17 => ?_
          refine vcK ?_
          try simp -implicitDefEqProofs (maxSteps := 1000000) (disch := omega) [go_sem, t0_10e, t1_10e, t5_10e]
          subst hc17
          refine vcK ?_
          simp -implicitDefEqProofs only [go_sem]
          have er := Option.some.inj h
          subst er
          try simp -implicitDefEqProofs (maxSteps := 1000000) (disch := omega) [go_sem, t0_10e, t1_10e, t5_10e]
          refine retG_pureA (Ext.refl hw) hK (e := by first | with_reducible rfl | (simp -implicitDefEqProofs (maxSteps := 1000000) (disch := omega) [go_sem, t0_10e, t1_10e, t5_10e] <;> omega))
        · intro c21 h
          try simp -implicitDefEqProofs (disch := omega) at c21
          try simp -implicitDefEqProofs (maxSteps := 1000000) (disch := omega) [go_sem, t0_10e, t1_10e, t5_10e]
          subst hc15
          refine IWp_cond_i h (by first | with_reducible rfl | (simp -implicitDefEqProofs (maxSteps := 1000000) (disch := omega) [go_sem, t0_10e, t1_10e, t5_10e] <;> omega)) rfl ?_ ?_
          · intro c18 h
            try simp -implicitDefEqProofs (disch := omega) at c18
            refine IWp_seqF fun cb hc19 => ?_
            refine vcK ?_
            try simp -implicitDefEqProofs (maxSteps := 1000000) (disch := omega) [go_sem, t0_10e, t1_10e, t5_10e]
            subst hc19
            refine vcK ?_
            simp -implicitDefEqProofs only [go_sem]
            have er := Option.some.inj h
            subst er
            try simp -implicitDefEqProofs (maxSteps := 1000000) (disch := omega) [go_sem, t0_10e, t1_10e, t5_10e]
            refine retG_pureA (Ext.refl hw) hK (e := by first | with_reducible rfl | (simp -implicitDefEqProofs (maxSteps := 1000000) (disch := omega) [go_sem, t0_10e, t1_10e, t5_10e] <;> omega))
          · intro c18 h
            try simp -implicitDefEqProofs (disch := omega) at c18
            refine vcK ?_
            simp -implicitDefEqProofs only [go_sem]
            subst hc14
            refine IWp_seqF fun cb hc20 => ?_
            refine vcK ?_
            try simp -implicitDefEqProofs (maxSteps := 1000000) (disch := omega) [go_sem, t0_10e, t1_10e, t5_10e]
            subst hc20
            refine vcK ?_
            simp -implicitDefEqProofs only [go_sem]
            have er := Option.some.inj h
            subst er
            try simp -implicitDefEqProofs (maxSteps := 1000000) (disch := omega) [go_sem, t0_10e, t1_10e, t5_10e]
            refine retG_pureA (Ext.refl hw) hK (e := by first | with_reducible rfl | (simp -implicitDefEqProofs (maxSteps := 1000000) (disch := omega) [go_sem, t0_10e, t1_10e, t5_10e] <;> omega))
      · refine IWp_block ?_
        refine IWp_loopF (fun (s : Int × Int) tm' H' => H = H' ∧ tm' 0 = .v (str a0) ∧ tm' 1 = .v (.int .i64 a1) ∧ tm' 5 = .v (.int .i64 s.1) ∧ tm' 6 = .v (.int .i64 s.2)) hl10q ?_ ?_
        · refine .same ⟨rfl, ?_, ?_, ?_, ?_⟩ <;> first | with_reducible rfl | with_reducible assumption | (simp -implicitDefEqProofs (maxSteps := 1000000) (disch := omega) [go_sem] <;> omega)
        · rintro I10 hI10 ⟨v11, v12⟩ x10 tm10 H10 ⟨rfl, t0_10, t1_10, t5_10, t6_10⟩ h hret10
          replace h : F73_b10 a0 v11 v12 = some x10 := h
          unfold F73_b10 at h
          refine IWp_seqF fun cb hc22 => ?_
          refine IWp_seqF fun cb hc23 => ?_
          refine vcK ?_
          try simp -implicitDefEqProofs (maxSteps := 1000000) (disch := omega) [go_sem, t0_10, t1_10, t5_10, t6_10]
          subst hc23
          refine IWp_cond_i h (by first | with_reducible rfl | (simp -implicitDefEqProofs (maxSteps := 1000000) (disch := omega) [go_sem, t0_10, t1_10, t5_10, t6_10] <;> omega)) rfl ?_ ?_
          · intro c24 h
            try simp -implicitDefEqProofs (disch := omega) at c24
            refine vcK ?_
            simp -implicitDefEqProofs only [go_sem]
            subst hc22
            refine IWp_seqF fun cb hc25 => ?_
            refine IWp_block ?_
            refine IWp_seqF fun cb hc26 => ?_
            refine IWp_seqF fun cb hc27 => ?_
            refine vcK ?_
            obtain ⟨g28, h⟩ := gd_some.1 h
            try simp -implicitDefEqProofs (disch := omega) at g28
            try simp -implicitDefEqProofs (maxSteps := 1000000) (disch := omega) [go_sem, t0_10, t1_10, t5_10, t6_10]
            refine splitG_f h (by first | with_reducible rfl | (simp -implicitDefEqProofs (maxSteps := 1000000) (disch := omega) [go_sem, t0_10, t1_10, t5_10, t6_10] <;> omega)) ?_ ?_
            · intro c32 h
              try simp -implicitDefEqProofs (disch := omega) at c32
              try simp -implicitDefEqProofs (maxSteps := 1000000) (disch := omega) [go_sem, t0_10, t1_10, t5_10, t6_10]
              subst hc27
              refine IWp_cond_t (by first | with_reducible rfl | (simp -implicitDefEqProofs (maxSteps := 1000000) (disch := omega) [go_sem, t0_10, t1_10, t5_10, t6_10] <;> omega)) rfl ?_
              refine IWp_seqF fun cb hc29 => ?_
              refine vcK ?_
              try simp -implicitDefEqProofs (maxSteps := 1000000) (disch := omega) [go_sem, t0_10, t1_10, t5_10, t6_10]
              subst hc29
              refine vcK ?_
              simp -implicitDefEqProofs only [go_sem]
              have e10 := Option.some.inj h
              subst e10
              have e10 := hret10 _ rfl
              subst e10
              replace h : some 0 = some r := hk10
              have er := Option.some.inj h
              subst er
              try simp -implicitDefEqProofs (maxSteps := 1000000) (disch := omega) [go_sem, t0_10, t1_10, t5_10, t6_10]
              refine retG_pureA (Ext.refl hw) hK (e := by first | with_reducible rfl | (simp -implicitDefEqProofs (maxSteps := 1000000) (disch := omega) [go_sem, t0_10, t1_10, t5_10, t6_10] <;> omega))
            · intro c32 h
              try simp -implicitDefEqProofs (disch := omega) at c32
              try simp -implicitDefEqProofs (maxSteps := 1000000) (disch := omega) [go_sem, t0_10, t1_10, t5_10, t6_10]
              subst hc27
              refine IWp_cond_i h (by first | with_reducible rfl | (simp -implicitDefEqProofs (maxSteps := 1000000) (disch := omega) [go_sem, t0_10, t1_10, t5_10, t6_10] <;> omega)) rfl ?_ ?_
              · intro c30 h
                try simp -implicitDefEqProofs (disch := omega) at c30
                refine IWp_seqF fun cb hc31 => ?_
                refine vcK ?_
                try simp -implicitDefEqProofs (maxSteps := 1000000) (disch := omega) [go_sem, t0_10, t1_10, t5_10, t6_10]
                subst hc31
                refine vcK ?_
                simp -implicitDefEqProofs only [go_sem]
                have e10 := Option.some.inj h
                subst e10
                have e10 := hret10 _ rfl
                subst e10
                replace h : some 0 = some r := hk10
                have er := Option.some.inj h
                subst er
                try simp -implicitDefEqProofs (maxSteps := 1000000) (disch := omega) [go_sem, t0_10, t1_10, t5_10, t6_10]
                refine retG_pureA (Ext.refl hw) hK (e := by first | with_reducible rfl | (simp -implicitDefEqProofs (maxSteps := 1000000) (disch := omega) [go_sem, t0_10, t1_10, t5_10, t6_10] <;> omega))
              · intro c30 h
                try simp -implicitDefEqProofs (disch := omega) at c30
                refine vcK ?_
                simp -implicitDefEqProofs only [go_sem]
                subst hc26
                refine vcK ?_
                try simp -implicitDefEqProofs (maxSteps := 1000000) (disch := omega) [go_sem, t0_10, t1_10, t5_10, t6_10]
                subst hc25
                refine vcK ?_
                try simp -implicitDefEqProofs (maxSteps := 1000000) (disch := omega) [go_sem, t0_10, t1_10, t5_10, t6_10]
                have e10 := Option.some.inj h
                subst e10
                refine loopN_mk hI10 ((IntKind.i64.wrap ((IntKind.i64.wrap ((IntKind.i64.wrap (10 * v11)) + (IntKind.i64.wrap (((a0.getD v12.toNat 0).toNat : Int))))) - 48), IntKind.i64.wrap (v12 + 1))) ?_
                refine .same ⟨rfl, ?_, ?_, ?_, ?_⟩ <;> first | with_reducible rfl | with_reducible assumption | (simp -implicitDefEqProofs (maxSteps := 1000000) (disch := omega) [go_sem, t0_10, t1_10, t5_10, t6_10] <;> omega)
          · intro c24 h
            try simp -implicitDefEqProofs (disch := omega) at c24
            refine vcK ?_
            simp -implicitDefEqProofs only [go_sem]
            have e10 := Option.some.inj h
            subst e10
            have hy10 := hret10 _ rfl
            refine hc10 _ _ ?_
            refine .same ⟨v11, hy10, rfl, ?_, ?_, ?_⟩ <;> first | with_reducible rfl | with_reducible assumption | (simp -implicitDefEqProofs (maxSteps := 1000000) (disch := omega) [go_sem, t0_10, t1_10, t5_10, t6_10] <;> omega)

/-! cardcase/cardcaseref07.Read -/

noncomputable def F33_k3 (v7 : List S50) : Option ((List S50) × Bool) :=
  (F18 v7).bind fun (x11 : Bool) => if ¬ (x11 = true) then (some ([], false)) else (some (v7, true))

noncomputable def F33_k33 (v41 : List S50) (v43 : List UInt8) (v44 : List UInt8) (v45 : List (List UInt8)) : Option (((List UInt8) × (List S50)) ⊕ ((List S50) ⊕ ((List S50) × Bool))) :=
  gd ((v41.length + ([(⟨v44, v45⟩ : S50)]).length) * 40 ≤ 140737488355328) (some (.inl ((v43, v41 ++ ([(⟨v44, v45⟩ : S50)])))))

noncomputable def F33_b33 (x23 : Int) (v34 : List S50) (v36 : List UInt8) (v37 : Int) (v38 : List UInt8) (v39 : List (List UInt8)) : Option (((List S50) × (List UInt8) × Int × (List UInt8) × (List (List UInt8))) ⊕ (((List S50) × (List UInt8) × (List UInt8) × (List (List UInt8))) ⊕ ((List S50) × Bool))) :=
  if v37 < x23 then ((F72 v36 32).bind fun (x54 : (List UInt8) × (List UInt8) × Bool) => (F73 x54.1 2048).bind fun (x56 : Int) => if ¬ (x54.2.2 = true) then (some (.inr (.inr ([], false)))) else (if x56 = 0 then (some (.inr (.inr ([], false)))) else (if (x54.2.1.length : Int) ≤ x56 then (some (.inr (.inr ([], false)))) else (gd (0 ≤ x56 ∧ x56 < x54.2.1.length) (if ¬ (((x54.2.1.getD x56.toNat 0).toNat : Int)) = 10 then (some (.inr (.inr ([], false)))) else (gd (0 ≤ x56) (gd (x56 ≤ x54.2.1.length) (gd ((v39.length + ([(x54.2.1.take x56.toNat)]).length) * 16 ≤ 140737488355328) (gd (0 ≤ (IntKind.i64.wrap (x56 + 1))) (gd (IntKind.i64.wrap (x56 + 1) ≤ x54.2.1.length) (some (.inl ((v34, x54.2.1.drop (IntKind.i64.wrap (x56 + 1)).toNat, IntKind.i64.wrap (v37 + 1), v38, v39 ++ ([(x54.2.1.take x56.toNat)]))))))))))))))) else (some (.inr (.inl (v34, v36, v38, v39))))

noncomputable def F33_b3 (v4 : List UInt8) (v5 : List S50) : Option (((List UInt8) × (List S50)) ⊕ ((List S50) ⊕ ((List S50) × Bool))) :=
  if ¬ v4 = [] then ((F72 v4 32).bind fun (x19 : (List UInt8) × (List UInt8) × Bool) => (F72 x19.2.1 10).bind fun (x21 : (List UInt8) × (List UInt8) × Bool) => (F73 x21.1 16).bind fun (x23 : Int) => if ¬ (x19.2.2 = true) then (some (.inr (.inr ([], false)))) else (if ¬ (x21.2.2 = true) then (some (.inr (.inr ([], false)))) else (if x23 = 0 then (some (.inr (.inr ([], false)))) else ((loopO (fun (s : (List S50) × (List UInt8) × Int × (List UInt8) × (List (List UInt8))) => F33_b33 x23 s.1 s.2.1 s.2.2.1 s.2.2.2.1 s.2.2.2.2) (v5, x21.2.1, 0, x19.1, [])).bind fun y => Sum.elim (fun (e : (List S50) × (List UInt8) × (List UInt8) × (List (List UInt8))) => F33_k33 e.1 e.2.1 e.2.2.1 e.2.2.2) (fun (q : (List S50) × Bool) => some (.inr (.inr q))) y)))) else (some (.inr (.inl v5)))

noncomputable def F33 (a0 : List UInt8) : Option ((List S50) × Bool) :=
  (loopO (fun (s : (List UInt8) × (List S50)) => F33_b3 s.1 s.2) (a0, [])).bind fun y => Sum.elim (fun (e : (List S50)) => F33_k3 e) (fun (q : (List S50) × Bool) => some q) y

set_option maxHeartbeats 8000000 in
set_option pp.deepTerms false in
set_option maxRecDepth 60000 in
theorem F33_ok {H : IHeap} {K : IEnd → IHeap → Prop} (a0 : List UInt8) {r : (List S50) × Bool} (h : F33 a0 = some r) (hK : K (.ret (.tu [.sl 2 (r.1.map fun x => [.v (str x.fName), .sl 1 (x.fValues.map fun x => [.v (str x)])]), .v (.bool r.2)])) H) : ICalls prog 33 [.v (str a0)] H K := by
  refine ICalls_iwp (N := 98) func33 (by kernel_rfl) rfl (by kernel_rfl) (by kernel_rfl) fun cb hcb hw hbd hnb => ?_
  clear hbd hnb
  subst hcb
  unfold F33 at h
  refine IWp_seqF fun cb hc1 => ?_
  refine vcK ?_
  try simp -implicitDefEqProofs (maxSteps := 1000000) (disch := omega) [go_sem, bdP]
  subst hc1
  refine IWp_seqF fun cb hc2 => ?_
  refine vcK ?_
  try simp -implicitDefEqProofs (maxSteps := 1000000) (disch := omega) [go_sem, bdP]
  subst hc2
  obtain ⟨y3, hl3q, hk3⟩ := bind_some' h
  refine IWp_seqC (fun tm' H' => ∃ n8 : Nat, ∃ v7 : List S50, .inl v7 = y3 ∧ Ext H H' ∧ H.next ≤ H'.next ∧ H.next ≤ n8 ∧ n8 < H'.next ∧ tm' 4 = .os n8 v7.length ∧ H'.obj n8 = some (.row 2 (v7.map fun x => [.v (str x.fName), .sl 1 (x.fValues.map fun x => [.v (str x)])]))) ?_ fun cb hc3 => ?_
  · rintro tm3e H3e ⟨n8, v7, rfl, he3e, hl3e, hr0_3e, hs0_3e, t4_3e, or0_3e⟩
    have h : F33_k3 v7 = some r := hk3
    unfold F33_k3 at h
    refine IWp_seqF fun cb hc9 => ?_
    refine IWp_seqF fun cb hc10 => ?_
    refine IWp.gh (Gh.freeze (d := 4) (k := n8) (sz := 2) (es := v7.map fun x => [.v (str x.fName), .sl 1 (x.fValues.map fun x => [.v (str x)])]) (by simp -implicitDefEqProofs (maxSteps := 1000000) (disch := omega) [go_sem, bdP, t4_3e, or0_3e]) (by simp -implicitDefEqProofs (maxSteps := 1000000) (disch := omega) [go_sem, bdP, t4_3e, or0_3e])) ?_
    refine vcK ?_
    try simp -implicitDefEqProofs (maxSteps := 1000000) (disch := omega) [go_sem, bdP, t4_3e, or0_3e]
    obtain ⟨x11, hx11, h⟩ := bind_some' h
    refine ICalls.eqA (args' := [.sl 2 (v7.map fun x => [.v (str x.fName), .sl 1 (x.fValues.map fun x => [.v (str x)])])]) (by first | with_reducible rfl | (simp -implicitDefEqProofs (maxSteps := 1000000) (disch := omega) [go_sem, bdP, t4_3e, or0_3e] <;> omega)) (F18_ok v7 hx11 ?_)
    try simp -implicitDefEqProofs (maxSteps := 1000000) (disch := omega) [go_sem, bdP, t4_3e, or0_3e]
    subst hc10
    refine IWp_cond_i h (by first | with_reducible rfl | (simp -implicitDefEqProofs (maxSteps := 1000000) (disch := omega) [go_sem, bdP, t4_3e, or0_3e] <;> omega)) rfl ?_ ?_
    · intro c12 h
      try simp -implicitDefEqProofs (disch := omega) at c12
      refine IWp_seqF fun cb hc13 => ?_
      refine vcK ?_
      try simp -implicitDefEqProofs (maxSteps := 1000000) (disch := omega) [go_sem, bdP, t4_3e, or0_3e]
      subst hc13
      refine IWp.gh (Gh.slotN 2 2 (by simp -implicitDefEqProofs (maxSteps := 1000000) (disch := omega) [go_sem, bdP, t4_3e, or0_3e])) ?_
      refine vcK ?_
      simp -implicitDefEqProofs only [go_sem]
      have er := Option.some.inj h
      subst er
      try simp -implicitDefEqProofs (maxSteps := 1000000) (disch := omega) [go_sem, bdP, t4_3e, or0_3e]
      refine retG_pureA he3e hK (e := by first | with_reducible rfl | (simp -implicitDefEqProofs (maxSteps := 1000000) (disch := omega) [go_sem, bdP, t4_3e, or0_3e] <;> omega))
    · intro c12 h
      try simp -implicitDefEqProofs (disch := omega) at c12
      refine vcK ?_
      simp -implicitDefEqProofs only [go_sem]
      subst hc9
      refine IWp_seqF fun cb hc14 => ?_
      refine vcK ?_
      try simp -implicitDefEqProofs (maxSteps := 1000000) (disch := omega) [go_sem, bdP, t4_3e, or0_3e]
      subst hc14
      refine vcK ?_
      simp -implicitDefEqProofs only [go_sem]
      have er := Option.some.inj h
      subst er
      try simp -implicitDefEqProofs (maxSteps := 1000000) (disch := omega) [go_sem, bdP, t4_3e, or0_3e]
      refine retG_pureA he3e hK (e := by first | with_reducible rfl | (simp -implicitDefEqProofs (maxSteps := 1000000) (disch := omega) [go_sem, bdP, t4_3e, or0_3e] <;> omega))
  · refine IWp_block ?_
    refine IWp_loopF (fun (s : (List UInt8) × (List S50)) tm' H' => ∃ n6 : Nat, Ext H H' ∧ H.next ≤ H'.next ∧ H.next ≤ n6 ∧ n6 < H'.next ∧ tm' 0 = .v (str s.1) ∧ tm' 4 = .os n6 s.2.length ∧ H'.obj n6 = some (.row 2 (s.2.map fun x => [.v (str x.fName), .sl 1 (x.fValues.map fun x => [.v (str x)])]))) hl3q ?_ ?_
    · refine UpI.gh (Gh.nilrow (d := 4) (sz := 2) (by omega) (by (simp -implicitDefEqProofs (maxSteps := 1000000) (disch := omega) [go_sem, bdP] <;> omega))) ?_
      refine .same ⟨H.next, by repeat (first | exact (Ext.refl hw) | refine Ext.new ?_ _ | refine Ext.set ?_ (by first | omega | (simp [go_sem]; done) | (simp [go_sem]; omega)) _ | refine Ext.del ?_ (by first | omega | (simp [go_sem]; done) | (simp [go_sem]; omega))), by first | with_reducible rfl | with_reducible assumption | omega | (simp -implicitDefEqProofs (maxSteps := 1000000) (disch := omega) [go_sem, bdP] <;> omega), by first | with_reducible rfl | with_reducible assumption | omega | (simp -implicitDefEqProofs (maxSteps := 1000000) (disch := omega) [go_sem, bdP] <;> omega), by first | with_reducible rfl | with_reducible assumption | omega | (simp -implicitDefEqProofs (maxSteps := 1000000) (disch := omega) [go_sem, bdP] <;> omega), by first | with_reducible rfl | with_reducible assumption | (simp -implicitDefEqProofs (maxSteps := 1000000) (disch := omega) [go_sem, bdP] <;> omega), by first | with_reducible rfl | with_reducible assumption | (simp -implicitDefEqProofs (maxSteps := 1000000) (disch := omega) [go_sem, bdP] <;> omega), by first | with_reducible rfl | with_reducible assumption | (simp -implicitDefEqProofs (maxSteps := 1000000) (disch := omega) [go_sem, bdP] <;> omega)⟩
    · rintro I3 hI3 ⟨v4, v5⟩ x3 tm3 H3 ⟨n6, he3, hl3, hr0_3, hs0_3, t0_3, t4_3, or0_3⟩ h hret3
      replace h : F33_b3 v4 v5 = some x3 := h
      unfold F33_b3 at h
      refine IWp_seqF fun cb hc15 => ?_
      refine IWp_seqF fun cb hc16 => ?_
      refine vcK ?_
      try simp -implicitDefEqProofs (maxSteps := 1000000) (disch := omega) [go_sem, bdP, t0_3, t4_3, or0_3]
      subst hc16
      refine IWp_cond_i h (by first | with_reducible rfl | (simp -implicitDefEqProofs (maxSteps := 1000000) (disch := omega) [go_sem, bdP, t0_3, t4_3, or0_3] <;> omega)) rfl ?_ ?_
      · intro c17 h
        try simp -implicitDefEqProofs (disch := omega) at c17
        refine vcK ?_
        simp -implicitDefEqProofs only [go_sem]
        subst hc15
        refine IWp_block ?_
        refine IWp_seqF fun cb hc18 => ?_
        refine vcK ?_
        try simp -implicitDefEqProofs (maxSteps := 1000000) (disch := omega) [go_sem, bdP, t0_3, t4_3, or0_3]
        obtain ⟨x19, hx19, h⟩ := bind_some' h
        refine ICalls.eqA (args' := [.v (str v4), .v (.int .u8 32)]) (by first | with_reducible rfl | (simp -implicitDefEqProofs (maxSteps := 1000000) (disch := omega) [go_sem, bdP, t0_3, t4_3, or0_3] <;> omega)) (F72_ok v4 32 hx19 ?_)
        try simp -implicitDefEqProofs (maxSteps := 1000000) (disch := omega) [go_sem, bdP, t0_3, t4_3, or0_3]
        subst hc18
        refine IWp_seqF fun cb hc20 => ?_
        refine vcK ?_
        try simp -implicitDefEqProofs (maxSteps := 1000000) (disch := omega) [go_sem, bdP, t0_3, t4_3, or0_3]
        obtain ⟨x21, hx21, h⟩ := bind_some' h
        refine ICalls.eqA (args' := [.v (str x19.2.1), .v (.int .u8 10)]) (by first | with_reducible rfl | (simp -implicitDefEqProofs (maxSteps := 1000000) (disch := omega) [go_sem, bdP, t0_3, t4_3, or0_3] <;> omega)) (F72_ok x19.2.1 10 hx21 ?_)
        try simp -implicitDefEqProofs (maxSteps := 1000000) (disch := omega) [go_sem, bdP, t0_3, t4_3, or0_3]
        subst hc20
        refine IWp_seqF fun cb hc22 => ?_
        refine vcK ?_
        try simp -implicitDefEqProofs (maxSteps := 1000000) (disch := omega) [go_sem, bdP, t0_3, t4_3, or0_3]
        obtain ⟨x23, hx23, h⟩ := bind_some' h
        refine ICalls.eqA (args' := [.v (str x21.1), .v (.int .i64 16)]) (by first | with_reducible rfl | (simp -implicitDefEqProofs (maxSteps := 1000000) (disch := omega) [go_sem, bdP, t0_3, t4_3, or0_3] <;> omega)) (F73_ok x21.1 16 hx23 ?_)
        try simp -implicitDefEqProofs (maxSteps := 1000000) (disch := omega) [go_sem, bdP, t0_3, t4_3, or0_3]
        subst hc22
        refine IWp_seqF fun cb hc24 => ?_
        refine IWp_seqF fun cb hc25 => ?_
        refine vcK ?_
        try simp -implicitDefEqProofs (maxSteps := 1000000) (disch := omega) [go_sem, bdP, t0_3, t4_3, or0_3]
        refine splitG_f h (by first | with_reducible rfl | (simp -implicitDefEqProofs (maxSteps := 1000000) (disch := omega) [go_sem, bdP, t0_3, t4_3, or0_3] <;> omega)) ?_ ?_
        · intro c81 h
          try simp -implicitDefEqProofs (disch := omega) at c81
          try simp -implicitDefEqProofs (maxSteps := 1000000) (disch := omega) [go_sem, bdP, t0_3, t4_3, or0_3]
          subst hc25
          refine IWp_cond_t (by first | with_reducible rfl | (simp -implicitDefEqProofs (maxSteps := 1000000) (disch := omega) [go_sem, bdP, t0_3, t4_3, or0_3] <;> omega)) rfl ?_
          refine IWp_seqF fun cb hc26 => ?_
          refine vcK ?_
          try simp -implicitDefEqProofs (maxSteps := 1000000) (disch := omega) [go_sem, bdP, t0_3, t4_3, or0_3]
          subst hc26
          refine IWp.gh (Gh.slotN 2 2 (by simp -implicitDefEqProofs (maxSteps := 1000000) (disch := omega) [go_sem, bdP, t0_3, t4_3, or0_3])) ?_
          refine vcK ?_
          simp -implicitDefEqProofs only [go_sem]
          have e3 := Option.some.inj h
          subst e3
          have e3 := hret3 _ rfl
          subst e3
          replace h : some ([], false) = some r := hk3
          have er := Option.some.inj h
          subst er
          try simp -implicitDefEqProofs (maxSteps := 1000000) (disch := omega) [go_sem, bdP, t0_3, t4_3, or0_3]
          refine retG_pureA he3 hK (e := by first | with_reducible rfl | (simp -implicitDefEqProofs (maxSteps := 1000000) (disch := omega) [go_sem, bdP, t0_3, t4_3, or0_3] <;> omega))
        · intro c81 h
          try simp -implicitDefEqProofs (disch := omega) at c81
          try simp -implicitDefEqProofs (maxSteps := 1000000) (disch := omega) [go_sem, bdP, t0_3, t4_3, or0_3]
          refine splitG_f h (by first | with_reducible rfl | (simp -implicitDefEqProofs (maxSteps := 1000000) (disch := omega) [go_sem, bdP, t0_3, t4_3, or0_3] <;> omega)) ?_ ?_
          · intro c80 h
            try simp -implicitDefEqProofs (disch := omega) at c80
            try simp -implicitDefEqProofs (maxSteps := 1000000) (disch := omega) [go_sem, bdP, t0_3, t4_3, or0_3]
            subst hc25
            refine IWp_cond_t (by first | with_reducible rfl | (simp -implicitDefEqProofs (maxSteps := 1000000) (disch := omega) [go_sem, bdP, t0_3, t4_3, or0_3] <;> omega)) rfl ?_
            refine IWp_seqF fun cb hc27 => ?_
            refine vcK ?_
            try simp -implicitDefEqProofs (maxSteps := 1000000) (disch := omega) [go_sem, bdP, t0_3, t4_3, or0_3]
            subst hc27
            refine IWp.gh (Gh.slotN 2 2 (by simp -implicitDefEqProofs (maxSteps := 1000000) (disch := omega) [go_sem, bdP, t0_3, t4_3, or0_3])) ?_
            refine vcK ?_
            simp -implicitDefEqProofs only [go_sem]
            have e3 := Option.some.inj h
            subst e3
            have e3 := hret3 _ rfl
            subst e3
            replace h : some ([], false) = some r := hk3
            have er := Option.some.inj h
            subst er
            try simp -implicitDefEqProofs (maxSteps := 1000000) (disch := omega) [go_sem, bdP, t0_3, t4_3, or0_3]
            refine retG_pureA he3 hK (e := by first | with_reducible rfl | (simp -implicitDefEqProofs (maxSteps := 1000000) (disch := omega) [go_sem, bdP, t0_3, t4_3, or0_3] <;> omega))
          · intro c80 h
            try simp -implicitDefEqProofs (disch := omega) at c80
            try simp -implicitDefEqProofs (maxSteps := 1000000) (disch := omega) [go_sem, bdP, t0_3, t4_3, or0_3]
            subst hc25
            refine IWp_cond_i h (by first | with_reducible rfl | (simp -implicitDefEqProofs (maxSteps := 1000000) (disch := omega) [go_sem, bdP, t0_3, t4_3, or0_3] <;> omega)) rfl ?_ ?_
            · intro c28 h
              try simp -implicitDefEqProofs (disch := omega) at c28
              refine IWp_seqF fun cb hc29 => ?_
              refine vcK ?_
              try simp -implicitDefEqProofs (maxSteps := 1000000) (disch := omega) [go_sem, bdP, t0_3, t4_3, or0_3]
              subst hc29
              refine IWp.gh (Gh.slotN 2 2 (by simp -implicitDefEqProofs (maxSteps := 1000000) (disch := omega) [go_sem, bdP, t0_3, t4_3, or0_3])) ?_
              refine vcK ?_
              simp -implicitDefEqProofs only [go_sem]
              have e3 := Option.some.inj h
              subst e3
              have e3 := hret3 _ rfl
              subst e3
              replace h : some ([], false) = some r := hk3
              have er := Option.some.inj h
              subst er
              try simp -implicitDefEqProofs (maxSteps := 1000000) (disch := omega) [go_sem, bdP, t0_3, t4_3, or0_3]
              refine retG_pureA he3 hK (e := by first | with_reducible rfl | (simp -implicitDefEqProofs (maxSteps := 1000000) (disch := omega) [go_sem, bdP, t0_3, t4_3, or0_3] <;> omega))
            · intro c28 h
              try simp -implicitDefEqProofs (disch := omega) at c28
              refine vcK ?_
              simp -implicitDefEqProofs only [go_sem]
              subst hc24
              refine IWp_seqF fun cb hc30 => ?_
              refine vcK ?_
              try simp -implicitDefEqProofs (maxSteps := 1000000) (disch := omega) [go_sem, bdP, t0_3, t4_3, or0_3]
              subst hc30
              refine IWp_seqF fun cb hc31 => ?_
              refine IWp_seqF fun cb hc32 => ?_
              refine vcK ?_
              try simp -implicitDefEqProofs (maxSteps := 1000000) (disch := omega) [go_sem, bdP, t0_3, t4_3, or0_3]
              subst hc32
              obtain ⟨y33, hl33q, hk33⟩ := bind_some' h
              refine IWp_tailC (fun tm' H' => ∃ n42 : Nat, ∃ n46 : Nat, ∃ v41 : List S50, ∃ v43 : List UInt8, ∃ v44 : List UInt8, ∃ v45 : List (List UInt8), .inl (v41, v43, v44, v45) = y33 ∧ Ext H H' ∧ H3.next + 1 ≤ H'.next ∧ H.next ≤ n42 ∧ n42 < H'.next ∧ ¬ H3.next = n42 ∧ H.next ≤ n46 ∧ n46 < H'.next ∧ ¬ H3.next = n46 ∧ ¬ n46 = n42 ∧ tm' 4 = .os n42 v41.length ∧ tm' 9 = .v (str v43) ∧ tm' 12 = .p H3.next 0 ∧ H'.obj H3.next = some (.cells ([.v (str v44), .os n46 v45.length])) ∧ H'.obj n42 = some (.row 2 (v41.map fun x => [.v (str x.fName), .sl 1 (x.fValues.map fun x => [.v (str x)])])) ∧ H'.obj n46 = some (.row 1 (v45.map fun x => [.v (str x)]))) ?_ fun cb hc33 => ?_
              · rintro tm33e H33e ⟨n42, n46, v41, v43, v44, v45, rfl, he33e, hl33e, hr0_33e, hs0_33e, hq74, hr1_33e, hs1_33e, hq75, hq76, t4_33e, t9_33e, t12_33e, ob0_33e, or0_33e, or1_33e⟩
                have h : F33_k33 v41 v43 v44 v45 = some x3 := hk33
                unfold F33_k33 at h
                simp -implicitDefEqProofs only [go_sem]
                subst hc31
                refine IWp_seqF fun cb hc47 => ?_
                refine IWp.gh (Gh.fzBox (k := n46) (kb := H3.next) (cs := [.v (str v44), .os n46 v45.length]) (cs' := [.v (str v44), .sl 1 (v45.map fun x => [.v (str x)])]) (by simp -implicitDefEqProofs (maxSteps := 1000000) (disch := omega) [go_sem, bdP, t4_33e, t9_33e, t12_33e, ob0_33e, or0_33e, or1_33e]) (by first | omega | with_reducible assumption | (simp [go_sem]; done) | (simp [go_sem]; omega)) (by repeat (first | exact FzKL.nil | refine FzKL.cons ?_ ?_ | exact FzK.row _ _ _ (by simp -implicitDefEqProofs (maxSteps := 1000000) (disch := omega) [go_sem, bdP, t4_33e, t9_33e, t12_33e, ob0_33e, or0_33e, or1_33e]) (by simp) | exact FzK.same _))) ?_
                refine vcK ?_
                obtain ⟨g48, h⟩ := gd_some.1 h
                try simp -implicitDefEqProofs (disch := omega) at g48
                try simp -implicitDefEqProofs (maxSteps := 1000000) (disch := omega) [go_sem, bdP, t4_33e, t9_33e, t12_33e, ob0_33e, or0_33e, or1_33e]
                subst hc47
                refine vcK ?_
                try simp -implicitDefEqProofs (maxSteps := 1000000) (disch := omega) [go_sem, bdP, t4_33e, t9_33e, t12_33e, ob0_33e, or0_33e, or1_33e]
                have e3 := Option.some.inj h
                subst e3
                refine loopN_mk hI3 ((v43, v41 ++ ([(⟨v44, v45⟩ : S50)]))) ?_
                refine .same ⟨n42, by repeat (first | exact he33e | refine Ext.new ?_ _ | refine Ext.set ?_ (by first | omega | (simp [go_sem]; done) | (simp [go_sem]; omega)) _ | refine Ext.del ?_ (by first | omega | (simp [go_sem]; done) | (simp [go_sem]; omega))), by first | with_reducible rfl | with_reducible assumption | omega | (simp -implicitDefEqProofs (maxSteps := 1000000) (disch := omega) [go_sem, bdP, t4_33e, t9_33e, t12_33e, ob0_33e, or0_33e, or1_33e] <;> omega), by first | with_reducible rfl | with_reducible assumption | omega | (simp -implicitDefEqProofs (maxSteps := 1000000) (disch := omega) [go_sem, bdP, t4_33e, t9_33e, t12_33e, ob0_33e, or0_33e, or1_33e] <;> omega), by first | with_reducible rfl | with_reducible assumption | omega | (simp -implicitDefEqProofs (maxSteps := 1000000) (disch := omega) [go_sem, bdP, t4_33e, t9_33e, t12_33e, ob0_33e, or0_33e, or1_33e] <;> omega), by first | with_reducible rfl | with_reducible assumption | (simp -implicitDefEqProofs (maxSteps := 1000000) (disch := omega) [go_sem, bdP, t4_33e, t9_33e, t12_33e, ob0_33e, or0_33e, or1_33e] <;> omega), by first | with_reducible rfl | with_reducible assumption | (simp -implicitDefEqProofs (maxSteps := 1000000) (disch := omega) [go_sem, bdP, t4_33e, t9_33e, t12_33e, ob0_33e, or0_33e, or1_33e] <;> omega), by first | with_reducible rfl | with_reducible assumption | (simp -implicitDefEqProofs (maxSteps := 1000000) (disch := omega) [go_sem, bdP, t4_33e, t9_33e, t12_33e, ob0_33e, or0_33e, or1_33e] <;> omega)⟩
              · refine IWp_block ?_
                refine IWp_loopF (fun (s : (List S50) × (List UInt8) × Int × (List UInt8) × (List (List UInt8))) tm' H' => ∃ n35 : Nat, ∃ n40 : Nat, Ext H H' ∧ H3.next + 1 ≤ H'.next ∧ H.next ≤ n35 ∧ n35 < H'.next ∧ ¬ H3.next = n35 ∧ H.next ≤ n40 ∧ n40 < H'.next ∧ ¬ H3.next = n40 ∧ ¬ n40 = n35 ∧ tm' 4 = .os n35 s.1.length ∧ tm' 9 = .v (str s.2.1) ∧ tm' 11 = .v (.int .i64 x23) ∧ tm' 12 = .p H3.next 0 ∧ tm' 13 = .v (.int .i64 s.2.2.1) ∧ H'.obj H3.next = some (.cells ([.v (str s.2.2.2.1), .os n40 s.2.2.2.2.length])) ∧ H'.obj n35 = some (.row 2 (s.1.map fun x => [.v (str x.fName), .sl 1 (x.fValues.map fun x => [.v (str x)])])) ∧ H'.obj n40 = some (.row 1 (s.2.2.2.2.map fun x => [.v (str x)]))) hl33q ?_ ?_
                · refine UpI.gh (Gh.nilrowBox (kb := H3.next) (sz := 1) (cs := [.v (str x19.1), .v (.slice none 0 0)]) (cs' := [.v (str x19.1), .os (H3.next + 1) 0]) (by omega) (by (simp -implicitDefEqProofs (maxSteps := 1000000) (disch := omega) [go_sem, bdP, t0_3, t4_3, or0_3] <;> omega)) (by repeat (first | exact NzL.nil | exact NzL.same _ NzL.nil | refine NzL.row ?_ | refine NzL.same _ ?_))) ?_
                  refine .same ⟨n6, H3.next + 1, by repeat (first | exact he3 | refine Ext.new ?_ _ | refine Ext.set ?_ (by first | omega | (simp [go_sem]; done) | (simp [go_sem]; omega)) _ | refine Ext.del ?_ (by first | omega | (simp [go_sem]; done) | (simp [go_sem]; omega))), by first | with_reducible rfl | with_reducible assumption | omega | (simp -implicitDefEqProofs (maxSteps := 1000000) (disch := omega) [go_sem, bdP, t0_3, t4_3, or0_3] <;> omega), by first | with_reducible rfl | with_reducible assumption | omega | (simp -implicitDefEqProofs (maxSteps := 1000000) (disch := omega) [go_sem, bdP, t0_3, t4_3, or0_3] <;> omega), by first | with_reducible rfl | with_reducible assumption | omega | (simp -implicitDefEqProofs (maxSteps := 1000000) (disch := omega) [go_sem, bdP, t0_3, t4_3, or0_3] <;> omega), by first | with_reducible rfl | with_reducible assumption | omega | (simp -implicitDefEqProofs (maxSteps := 1000000) (disch := omega) [go_sem, bdP, t0_3, t4_3, or0_3] <;> omega), by first | with_reducible rfl | with_reducible assumption | omega | (simp -implicitDefEqProofs (maxSteps := 1000000) (disch := omega) [go_sem, bdP, t0_3, t4_3, or0_3] <;> omega), by first | with_reducible rfl | with_reducible assumption | omega | (simp -implicitDefEqProofs (maxSteps := 1000000) (disch := omega) [go_sem, bdP, t0_3, t4_3, or0_3] <;> omega), by first | with_reducible rfl | with_reducible assumption | omega | (simp -implicitDefEqProofs (maxSteps := 1000000) (disch := omega) [go_sem, bdP, t0_3, t4_3, or0_3] <;> omega), by first | with_reducible rfl | with_reducible assumption | omega | (simp -implicitDefEqProofs (maxSteps := 1000000) (disch := omega) [go_sem, bdP, t0_3, t4_3, or0_3] <;> omega), by first | with_reducible rfl | with_reducible assumption | (simp -implicitDefEqProofs (maxSteps := 1000000) (disch := omega) [go_sem, bdP, t0_3, t4_3, or0_3] <;> omega), by first | with_reducible rfl | with_reducible assumption | (simp -implicitDefEqProofs (maxSteps := 1000000) (disch := omega) [go_sem, bdP, t0_3, t4_3, or0_3] <;> omega), by first | with_reducible rfl | with_reducible assumption | (simp -implicitDefEqProofs (maxSteps := 1000000) (disch := omega) [go_sem, bdP, t0_3, t4_3, or0_3] <;> omega), by first | with_reducible rfl | with_reducible assumption | (simp -implicitDefEqProofs (maxSteps := 1000000) (disch := omega) [go_sem, bdP, t0_3, t4_3, or0_3] <;> omega), by first | with_reducible rfl | with_reducible assumption | (simp -implicitDefEqProofs (maxSteps := 1000000) (disch := omega) [go_sem, bdP, t0_3, t4_3, or0_3] <;> omega), by first | with_reducible rfl | with_reducible assumption | (simp -implicitDefEqProofs (maxSteps := 1000000) (disch := omega) [go_sem, bdP, t0_3, t4_3, or0_3] <;> omega), by first | with_reducible rfl | with_reducible assumption | (simp -implicitDefEqProofs (maxSteps := 1000000) (disch := omega) [go_sem, bdP, t0_3, t4_3, or0_3] <;> omega), by first | with_reducible rfl | with_reducible assumption | (simp -implicitDefEqProofs (maxSteps := 1000000) (disch := omega) [go_sem, bdP, t0_3, t4_3, or0_3] <;> omega)⟩
                · rintro I33 hI33 ⟨v34, v36, v37, v38, v39⟩ x33 tm33 H33 ⟨n35, n40, he33, hl33, hr0_33, hs0_33, hq77, hr1_33, hs1_33, hq78, hq79, t4_33, t9_33, t11_33, t12_33, t13_33, ob0_33, or0_33, or1_33⟩ h hret33
                  replace h : F33_b33 x23 v34 v36 v37 v38 v39 = some x33 := h
                  unfold F33_b33 at h
                  refine IWp_seqF fun cb hc49 => ?_
                  refine IWp_seqF fun cb hc50 => ?_
                  refine vcK ?_
                  try simp -implicitDefEqProofs (maxSteps := 1000000) (disch := omega) [go_sem, bdP, t4_33, t9_33, t11_33, t12_33, t13_33, ob0_33, or0_33, or1_33]
                  subst hc50
                  refine IWp_cond_i h (by first | with_reducible rfl | (simp -implicitDefEqProofs (maxSteps := 1000000) (disch := omega) [go_sem, bdP, t4_33, t9_33, t11_33, t12_33, t13_33, ob0_33, or0_33, or1_33] <;> omega)) rfl ?_ ?_
                  · intro c51 h
                    try simp -implicitDefEqProofs (disch := omega) at c51
                    refine vcK ?_
                    simp -implicitDefEqProofs only [go_sem]
                    subst hc49
                    refine IWp_seqF fun cb hc52 => ?_
                    refine IWp_block ?_
                    refine IWp_seqF fun cb hc53 => ?_
                    refine vcK ?_
                    try simp -implicitDefEqProofs (maxSteps := 1000000) (disch := omega) [go_sem, bdP, t4_33, t9_33, t11_33, t12_33, t13_33, ob0_33, or0_33, or1_33]
                    obtain ⟨x54, hx54, h⟩ := bind_some' h
                    refine ICalls.eqA (args' := [.v (str v36), .v (.int .u8 32)]) (by first | with_reducible rfl | (simp -implicitDefEqProofs (maxSteps := 1000000) (disch := omega) [go_sem, bdP, t4_33, t9_33, t11_33, t12_33, t13_33, ob0_33, or0_33, or1_33] <;> omega)) (F72_ok v36 32 hx54 ?_)
                    try simp -implicitDefEqProofs (maxSteps := 1000000) (disch := omega) [go_sem, bdP, t4_33, t9_33, t11_33, t12_33, t13_33, ob0_33, or0_33, or1_33]
                    subst hc53
                    refine IWp_seqF fun cb hc55 => ?_
                    refine vcK ?_
                    try simp -implicitDefEqProofs (maxSteps := 1000000) (disch := omega) [go_sem, bdP, t4_33, t9_33, t11_33, t12_33, t13_33, ob0_33, or0_33, or1_33]
                    obtain ⟨x56, hx56, h⟩ := bind_some' h
                    refine ICalls.eqA (args' := [.v (str x54.1), .v (.int .i64 2048)]) (by first | with_reducible rfl | (simp -implicitDefEqProofs (maxSteps := 1000000) (disch := omega) [go_sem, bdP, t4_33, t9_33, t11_33, t12_33, t13_33, ob0_33, or0_33, or1_33] <;> omega)) (F73_ok x54.1 2048 hx56 ?_)
                    try simp -implicitDefEqProofs (maxSteps := 1000000) (disch := omega) [go_sem, bdP, t4_33, t9_33, t11_33, t12_33, t13_33, ob0_33, or0_33, or1_33]
                    subst hc55
                    refine IWp_seqF fun cb hc57 => ?_
                    refine IWp_seqF fun cb hc58 => ?_
                    refine vcK ?_
                    try simp -implicitDefEqProofs (maxSteps := 1000000) (disch := omega) [go_sem, bdP, t4_33, t9_33, t11_33, t12_33, t13_33, ob0_33, or0_33, or1_33]
                    refine splitG_f h (by first | with_reducible rfl | (simp -implicitDefEqProofs (maxSteps := 1000000) (disch := omega) [go_sem, bdP, t4_33, t9_33, t11_33, t12_33, t13_33, ob0_33, or0_33, or1_33] <;> omega)) ?_ ?_
                    · intro c73 h
                      try simp -implicitDefEqProofs (disch := omega) at c73
                      try simp -implicitDefEqProofs (maxSteps := 1000000) (disch := omega) [go_sem, bdP, t4_33, t9_33, t11_33, t12_33, t13_33, ob0_33, or0_33, or1_33]
                      subst hc58
                      refine IWp_cond_t (by first | with_reducible rfl | (simp -implicitDefEqProofs (maxSteps := 1000000) (disch := omega) [go_sem, bdP, t4_33, t9_33, t11_33, t12_33, t13_33, ob0_33, or0_33, or1_33] <;> omega)) rfl ?_
                      refine IWp_seqF fun cb hc59 => ?_
                      refine vcK ?_
                      try simp -implicitDefEqProofs (maxSteps := 1000000) (disch := omega) [go_sem, bdP, t4_33, t9_33, t11_33, t12_33, t13_33, ob0_33, or0_33, or1_33]
                      subst hc59
                      refine IWp.gh (Gh.slotN 2 2 (by simp -implicitDefEqProofs (maxSteps := 1000000) (disch := omega) [go_sem, bdP, t4_33, t9_33, t11_33, t12_33, t13_33, ob0_33, or0_33, or1_33])) ?_
                      refine vcK ?_
                      simp -implicitDefEqProofs only [go_sem]
                      have e33 := Option.some.inj h
                      subst e33
                      have e33 := hret33 _ rfl
                      subst e33
                      replace h : some (.inr (.inr ([], false))) = some x3 := hk33
                      have e3 := Option.some.inj h
                      subst e3
                      have e3 := hret3 _ rfl
                      subst e3
                      replace h : some ([], false) = some r := hk3
                      have er := Option.some.inj h
                      subst er
                      try simp -implicitDefEqProofs (maxSteps := 1000000) (disch := omega) [go_sem, bdP, t4_33, t9_33, t11_33, t12_33, t13_33, ob0_33, or0_33, or1_33]
                      refine retG_pureA he33 hK (e := by first | with_reducible rfl | (simp -implicitDefEqProofs (maxSteps := 1000000) (disch := omega) [go_sem, bdP, t4_33, t9_33, t11_33, t12_33, t13_33, ob0_33, or0_33, or1_33] <;> omega))
                    · intro c73 h
                      try simp -implicitDefEqProofs (disch := omega) at c73
                      try simp -implicitDefEqProofs (maxSteps := 1000000) (disch := omega) [go_sem, bdP, t4_33, t9_33, t11_33, t12_33, t13_33, ob0_33, or0_33, or1_33]
                      refine splitG_f h (by first | with_reducible rfl | (simp -implicitDefEqProofs (maxSteps := 1000000) (disch := omega) [go_sem, bdP, t4_33, t9_33, t11_33, t12_33, t13_33, ob0_33, or0_33, or1_33] <;> omega)) ?_ ?_
                      · intro c72 h
                        try simp -implicitDefEqProofs (disch := omega) at c72
                        try simp -implicitDefEqProofs (maxSteps := 1000000) (disch := omega) [go_sem, bdP, t4_33, t9_33, t11_33, t12_33, t13_33, ob0_33, or0_33, or1_33]
                        subst hc58
                        refine IWp_cond_t (by first | with_reducible rfl | (simp -implicitDefEqProofs (maxSteps := 1000000) (disch := omega) [go_sem, bdP, t4_33, t9_33, t11_33, t12_33, t13_33, ob0_33, or0_33, or1_33] <;> omega)) rfl ?_
                        refine IWp_seqF fun cb hc60 => ?_
                        refine vcK ?_
                        try simp -implicitDefEqProofs (maxSteps := 1000000) (disch := omega) [go_sem, bdP, t4_33, t9_33, t11_33, t12_33, t13_33, ob0_33, or0_33, or1_33]
                        subst hc60
                        refine IWp.gh (Gh.slotN 2 2 (by simp -implicitDefEqProofs (maxSteps := 1000000) (disch := omega) [go_sem, bdP, t4_33, t9_33, t11_33, t12_33, t13_33, ob0_33, or0_33, or1_33])) ?_
                        refine vcK ?_
                        simp -implicitDefEqProofs only [go_sem]
                        have e33 := Option.some.inj h
                        subst e33
                        have e33 := hret33 _ rfl
                        subst e33
                        replace h : some (.inr (.inr ([], false))) = some x3 := hk33
                        have e3 := Option.some.inj h
                        subst e3
                        have e3 := hret3 _ rfl
                        subst e3
                        replace h : some ([], false) = some r := hk3
                        have er := Option.some.inj h
                        subst er
                        try simp -implicitDefEqProofs (maxSteps := 1000000) (disch := omega) [go_sem, bdP, t4_33, t9_33, t11_33, t12_33, t13_33, ob0_33, or0_33, or1_33]
                        refine retG_pureA he33 hK (e := by first | with_reducible rfl | (simp -implicitDefEqProofs (maxSteps := 1000000) (disch := omega) [go_sem, bdP, t4_33, t9_33, t11_33, t12_33, t13_33, ob0_33, or0_33, or1_33] <;> omega))
                      · intro c72 h
                        try simp -implicitDefEqProofs (disch := omega) at c72
                        try simp -implicitDefEqProofs (maxSteps := 1000000) (disch := omega) [go_sem, bdP, t4_33, t9_33, t11_33, t12_33, t13_33, ob0_33, or0_33, or1_33]
                        refine splitG_f h (by first | with_reducible rfl | (simp -implicitDefEqProofs (maxSteps := 1000000) (disch := omega) [go_sem, bdP, t4_33, t9_33, t11_33, t12_33, t13_33, ob0_33, or0_33, or1_33] <;> omega)) ?_ ?_
                        · intro c71 h
                          try simp -implicitDefEqProofs (disch := omega) at c71
                          try simp -implicitDefEqProofs (maxSteps := 1000000) (disch := omega) [go_sem, bdP, t4_33, t9_33, t11_33, t12_33, t13_33, ob0_33, or0_33, or1_33]
                          subst hc58
                          refine IWp_cond_t (by first | with_reducible rfl | (simp -implicitDefEqProofs (maxSteps := 1000000) (disch := omega) [go_sem, bdP, t4_33, t9_33, t11_33, t12_33, t13_33, ob0_33, or0_33, or1_33] <;> omega)) rfl ?_
                          refine IWp_seqF fun cb hc61 => ?_
                          refine vcK ?_
                          try simp -implicitDefEqProofs (maxSteps := 1000000) (disch := omega) [go_sem, bdP, t4_33, t9_33, t11_33, t12_33, t13_33, ob0_33, or0_33, or1_33]
                          subst hc61
                          refine IWp.gh (Gh.slotN 2 2 (by simp -implicitDefEqProofs (maxSteps := 1000000) (disch := omega) [go_sem, bdP, t4_33, t9_33, t11_33, t12_33, t13_33, ob0_33, or0_33, or1_33])) ?_
                          refine vcK ?_
                          simp -implicitDefEqProofs only [go_sem]
                          have e33 := Option.some.inj h
                          subst e33
                          have e33 := hret33 _ rfl
                          subst e33
                          replace h : some (.inr (.inr ([], false))) = some x3 := hk33
                          have e3 := Option.some.inj h
                          subst e3
                          have e3 := hret3 _ rfl
                          subst e3
                          replace h : some ([], false) = some r := hk3
                          have er := Option.some.inj h
                          subst er
                          try simp -implicitDefEqProofs (maxSteps := 1000000) (disch := omega) [go_sem, bdP, t4_33, t9_33, t11_33, t12_33, t13_33, ob0_33, or0_33, or1_33]
                          refine retG_pureA he33 hK (e := by first | with_reducible rfl | (simp -implicitDefEqProofs (maxSteps := 1000000) (disch := omega) [go_sem, bdP, t4_33, t9_33, t11_33, t12_33, t13_33, ob0_33, or0_33, or1_33] <;> omega))
                        · intro c71 h
                          try simp -implicitDefEqProofs (disch := omega) at c71
                          obtain ⟨g62, h⟩ := gd_some.1 h
                          try simp -implicitDefEqProofs (disch := omega) at g62
                          try simp -implicitDefEqProofs (maxSteps := 1000000) (disch := omega) [go_sem, bdP, t4_33, t9_33, t11_33, t12_33, t13_33, ob0_33, or0_33, or1_33]
                          subst hc58
                          refine IWp_cond_i h (by first | with_reducible rfl | (simp -implicitDefEqProofs (maxSteps := 1000000) (disch := omega) [go_sem, bdP, t4_33, t9_33, t11_33, t12_33, t13_33, ob0_33, or0_33, or1_33] <;> omega)) rfl ?_ ?_
                          · intro c63 h
                            try simp -implicitDefEqProofs (disch := omega) at c63
                            refine IWp_seqF fun cb hc64 => ?_
                            refine vcK ?_
                            try simp -implicitDefEqProofs (maxSteps := 1000000) (disch := omega) [go_sem, bdP, t4_33, t9_33, t11_33, t12_33, t13_33, ob0_33, or0_33, or1_33]
                            subst hc64
                            refine IWp.gh (Gh.slotN 2 2 (by simp -implicitDefEqProofs (maxSteps := 1000000) (disch := omega) [go_sem, bdP, t4_33, t9_33, t11_33, t12_33, t13_33, ob0_33, or0_33, or1_33])) ?_
                            refine vcK ?_
                            simp -implicitDefEqProofs only [go_sem]
                            have e33 := Option.some.inj h
                            subst e33
                            have e33 := hret33 _ rfl
                            subst e33
                            replace h : some (.inr (.inr ([], false))) = some x3 := hk33
                            have e3 := Option.some.inj h
                            subst e3
                            have e3 := hret3 _ rfl
                            subst e3
                            replace h : some ([], false) = some r := hk3
                            have er := Option.some.inj h
                            subst er
                            try simp -implicitDefEqProofs (maxSteps := 1000000) (disch := omega) [go_sem, bdP, t4_33, t9_33, t11_33, t12_33, t13_33, ob0_33, or0_33, or1_33]
                            refine retG_pureA he33 hK (e := by first | with_reducible rfl | (simp -implicitDefEqProofs (maxSteps := 1000000) (disch := omega) [go_sem, bdP, t4_33, t9_33, t11_33, t12_33, t13_33, ob0_33, or0_33, or1_33] <;> omega))
                          · intro c63 h
                            try simp -implicitDefEqProofs (disch := omega) at c63
                            refine vcK ?_
                            simp -implicitDefEqProofs only [go_sem]
                            subst hc57
                            refine IWp_seqF fun cb hc65 => ?_
                            refine IWp_drawP [] [0, 1, 2, 3, 4, 5, 6, 7, 8] (by kernel_rfl) (by kernel_rfl) (fun _ _ _ _ h => h) ?_
                            obtain ⟨g66, h⟩ := gd_some.1 h
                            try simp -implicitDefEqProofs (disch := omega) at g66
                            obtain ⟨g67, h⟩ := gd_some.1 h
                            try simp -implicitDefEqProofs (disch := omega) at g67
                            obtain ⟨g68, h⟩ := gd_some.1 h
                            try simp -implicitDefEqProofs (disch := omega) at g68
                            try simp -implicitDefEqProofs (maxSteps := 1000000) (disch := omega) [go_sem, bdP, t4_33, t9_33, t11_33, t12_33, t13_33, ob0_33, or0_33, or1_33]
                            subst hc65
                            refine vcK ?_
                            obtain ⟨g69, h⟩ := gd_some.1 h
                            try simp -implicitDefEqProofs (disch := omega) at g69
                            obtain ⟨g70, h⟩ := gd_some.1 h
                            try simp -implicitDefEqProofs (disch := omega) at g70
                            try simp -implicitDefEqProofs (maxSteps := 1000000) (disch := omega) [go_sem, bdP, t4_33, t9_33, t11_33, t12_33, t13_33, ob0_33, or0_33, or1_33]
                            subst hc52
                            refine vcK ?_
                            try simp -implicitDefEqProofs (maxSteps := 1000000) (disch := omega) [go_sem, bdP, t4_33, t9_33, t11_33, t12_33, t13_33, ob0_33, or0_33, or1_33]
                            have e33 := Option.some.inj h
                            subst e33
                            refine loopN_mk hI33 ((v34, x54.2.1.drop (IntKind.i64.wrap (x56 + 1)).toNat, IntKind.i64.wrap (v37 + 1), v38, v39 ++ ([(x54.2.1.take x56.toNat)]))) ?_
                            refine .same ⟨n35, n40, by repeat (first | exact he33 | refine Ext.new ?_ _ | refine Ext.set ?_ (by first | omega | (simp [go_sem]; done) | (simp [go_sem]; omega)) _ | refine Ext.del ?_ (by first | omega | (simp [go_sem]; done) | (simp [go_sem]; omega))), by first | with_reducible rfl | with_reducible assumption | omega | (simp -implicitDefEqProofs (maxSteps := 1000000) (disch := omega) [go_sem, bdP, t4_33, t9_33, t11_33, t12_33, t13_33, ob0_33, or0_33, or1_33] <;> omega), by first | with_reducible rfl | with_reducible assumption | omega | (simp -implicitDefEqProofs (maxSteps := 1000000) (disch := omega) [go_sem, bdP, t4_33, t9_33, t11_33, t12_33, t13_33, ob0_33, or0_33, or1_33] <;> omega), by first | with_reducible rfl | with_reducible assumption | omega | (simp -implicitDefEqProofs (maxSteps := 1000000) (disch := omega) [go_sem, bdP, t4_33, t9_33, t11_33, t12_33, t13_33, ob0_33, or0_33, or1_33] <;> omega), by first | with_reducible rfl | with_reducible assumption | omega | (simp -implicitDefEqProofs (maxSteps := 1000000) (disch := omega) [go_sem, bdP, t4_33, t9_33, t11_33, t12_33, t13_33, ob0_33, or0_33, or1_33] <;> omega), by first | with_reducible rfl | with_reducible assumption | omega | (simp -implicitDefEqProofs (maxSteps := 1000000) (disch := omega) [go_sem, bdP, t4_33, t9_33, t11_33, t12_33, t13_33, ob0_33, or0_33, or1_33] <;> omega), by first | with_reducible rfl | with_reducible assumption | omega | (simp -implicitDefEqProofs (maxSteps := 1000000) (disch := omega) [go_sem, bdP, t4_33, t9_33, t11_33, t12_33, t13_33, ob0_33, or0_33, or1_33] <;> omega), by first | with_reducible rfl | with_reducible assumption | omega | (simp -implicitDefEqProofs (maxSteps := 1000000) (disch := omega) [go_sem, bdP, t4_33, t9_33, t11_33, t12_33, t13_33, ob0_33, or0_33, or1_33] <;> omega), by first | with_reducible rfl | with_reducible assumption | omega | (simp -implicitDefEqProofs (maxSteps := 1000000) (disch := omega) [go_sem, bdP, t4_33, t9_33, t11_33, t12_33, t13_33, ob0_33, or0_33, or1_33] <;> omega), by first | with_reducible rfl | with_reducible assumption | (simp -implicitDefEqProofs (maxSteps := 1000000) (disch := omega) [go_sem, bdP, t4_33, t9_33, t11_33, t12_33, t13_33, ob0_33, or0_33, or1_33] <;> omega), by first | with_reducible rfl | with_reducible assumption | (simp -implicitDefEqProofs (maxSteps := 1000000) (disch := omega) [go_sem, bdP, t4_33, t9_33, t11_33, t12_33, t13_33, ob0_33, or0_33, or1_33] <;> omega), by first | with_reducible rfl | with_reducible assumption | (simp -implicitDefEqProofs (maxSteps := 1000000) (disch := omega) [go_sem, bdP, t4_33, t9_33, t11_33, t12_33, t13_33, ob0_33, or0_33, or1_33] <;> omega), by first | with_reducible rfl | with_reducible assumption | (simp -implicitDefEqProofs (maxSteps := 1000000) (disch := omega) [go_sem, bdP, t4_33, t9_33, t11_33, t12_33, t13_33, ob0_33, or0_33, or1_33] <;> omega), by first | with_reducible rfl | with_reducible assumption | (simp -implicitDefEqProofs (maxSteps := 1000000) (disch := omega) [go_sem, bdP, t4_33, t9_33, t11_33, t12_33, t13_33, ob0_33, or0_33, or1_33] <;> omega), by first | with_reducible rfl | with_reducible assumption | (simp -implicitDefEqProofs (maxSteps := 1000000) (disch := omega) [go_sem, bdP, t4_33, t9_33, t11_33, t12_33, t13_33, ob0_33, or0_33, or1_33] <;> omega), by first | with_reducible rfl | with_reducible assumption | (simp -implicitDefEqProofs (maxSteps := 1000000) (disch := omega) [go_sem, bdP, t4_33, t9_33, t11_33, t12_33, t13_33, ob0_33, or0_33, or1_33] <;> omega), by first | with_reducible rfl | with_reducible assumption | (simp -implicitDefEqProofs (maxSteps := 1000000) (disch := omega) [go_sem, bdP, t4_33, t9_33, t11_33, t12_33, t13_33, ob0_33, or0_33, or1_33] <;> omega)⟩
                  · intro c51 h
                    try simp -implicitDefEqProofs (disch := omega) at c51
                    refine vcK ?_
                    simp -implicitDefEqProofs only [go_sem]
                    have e33 := Option.some.inj h
                    subst e33
                    have hy33 := hret33 _ rfl
                    refine hc33 _ _ ?_
                    refine .same ⟨n35, n40, v34, v36, v38, v39, hy33, by repeat (first | exact he33 | refine Ext.new ?_ _ | refine Ext.set ?_ (by first | omega | (simp [go_sem]; done) | (simp [go_sem]; omega)) _ | refine Ext.del ?_ (by first | omega | (simp [go_sem]; done) | (simp [go_sem]; omega))), by first | with_reducible rfl | with_reducible assumption | omega | (simp -implicitDefEqProofs (maxSteps := 1000000) (disch := omega) [go_sem, bdP, t4_33, t9_33, t11_33, t12_33, t13_33, ob0_33, or0_33, or1_33] <;> omega), by first | with_reducible rfl | with_reducible assumption | omega | (simp -implicitDefEqProofs (maxSteps := 1000000) (disch := omega) [go_sem, bdP, t4_33, t9_33, t11_33, t12_33, t13_33, ob0_33, or0_33, or1_33] <;> omega), by first | with_reducible rfl | with_reducible assumption | omega | (simp -implicitDefEqProofs (maxSteps := 1000000) (disch := omega) [go_sem, bdP, t4_33, t9_33, t11_33, t12_33, t13_33, ob0_33, or0_33, or1_33] <;> omega), by first | with_reducible rfl | with_reducible assumption | omega | (simp -implicitDefEqProofs (maxSteps := 1000000) (disch := omega) [go_sem, bdP, t4_33, t9_33, t11_33, t12_33, t13_33, ob0_33, or0_33, or1_33] <;> omega), by first | with_reducible rfl | with_reducible assumption | omega | (simp -implicitDefEqProofs (maxSteps := 1000000) (disch := omega) [go_sem, bdP, t4_33, t9_33, t11_33, t12_33, t13_33, ob0_33, or0_33, or1_33] <;> omega), by first | with_reducible rfl | with_reducible assumption | omega | (simp -implicitDefEqProofs (maxSteps := 1000000) (disch := omega) [go_sem, bdP, t4_33, t9_33, t11_33, t12_33, t13_33, ob0_33, or0_33, or1_33] <;> omega), by first | with_reducible rfl | with_reducible assumption | omega | (simp -implicitDefEqProofs (maxSteps := 1000000) (disch := omega) [go_sem, bdP, t4_33, t9_33, t11_33, t12_33, t13_33, ob0_33, or0_33, or1_33] <;> omega), by first | with_reducible rfl | with_reducible assumption | omega | (simp -implicitDefEqProofs (maxSteps := 1000000) (disch := omega) [go_sem, bdP, t4_33, t9_33, t11_33, t12_33, t13_33, ob0_33, or0_33, or1_33] <;> omega), by first | with_reducible rfl | with_reducible assumption | (simp -implicitDefEqProofs (maxSteps := 1000000) (disch := omega) [go_sem, bdP, t4_33, t9_33, t11_33, t12_33, t13_33, ob0_33, or0_33, or1_33] <;> omega), by first | with_reducible rfl | with_reducible assumption | (simp -implicitDefEqProofs (maxSteps := 1000000) (disch := omega) [go_sem, bdP, t4_33, t9_33, t11_33, t12_33, t13_33, ob0_33, or0_33, or1_33] <;> omega), by first | with_reducible rfl | with_reducible assumption | (simp -implicitDefEqProofs (maxSteps := 1000000) (disch := omega) [go_sem, bdP, t4_33, t9_33, t11_33, t12_33, t13_33, ob0_33, or0_33, or1_33] <;> omega), by first | with_reducible rfl | with_reducible assumption | (simp -implicitDefEqProofs (maxSteps := 1000000) (disch := omega) [go_sem, bdP, t4_33, t9_33, t11_33, t12_33, t13_33, ob0_33, or0_33, or1_33] <;> omega), by first | with_reducible rfl | with_reducible assumption | (simp -implicitDefEqProofs (maxSteps := 1000000) (disch := omega) [go_sem, bdP, t4_33, t9_33, t11_33, t12_33, t13_33, ob0_33, or0_33, or1_33] <;> omega), by first | with_reducible rfl | with_reducible assumption | (simp -implicitDefEqProofs (maxSteps := 1000000) (disch := omega) [go_sem, bdP, t4_33, t9_33, t11_33, t12_33, t13_33, ob0_33, or0_33, or1_33] <;> omega)⟩
      · intro c17 h
        try simp -implicitDefEqProofs (disch := omega) at c17
        refine vcK ?_
        simp -implicitDefEqProofs only [go_sem]
        have e3 := Option.some.inj h
        subst e3
        have hy3 := hret3 _ rfl
        refine hc3 _ _ ?_
        refine .same ⟨n6, v5, hy3, by repeat (first | exact he3 | refine Ext.new ?_ _ | refine Ext.set ?_ (by first | omega | (simp [go_sem]; done) | (simp [go_sem]; omega)) _ | refine Ext.del ?_ (by first | omega | (simp [go_sem]; done) | (simp [go_sem]; omega))), by first | with_reducible rfl | with_reducible assumption | omega | (simp -implicitDefEqProofs (maxSteps := 1000000) (disch := omega) [go_sem, bdP, t0_3, t4_3, or0_3] <;> omega), by first | with_reducible rfl | with_reducible assumption | omega | (simp -implicitDefEqProofs (maxSteps := 1000000) (disch := omega) [go_sem, bdP, t0_3, t4_3, or0_3] <;> omega), by first | with_reducible rfl | with_reducible assumption | omega | (simp -implicitDefEqProofs (maxSteps := 1000000) (disch := omega) [go_sem, bdP, t0_3, t4_3, or0_3] <;> omega), by first | with_reducible rfl | with_reducible assumption | (simp -implicitDefEqProofs (maxSteps := 1000000) (disch := omega) [go_sem, bdP, t0_3, t4_3, or0_3] <;> omega), by first | with_reducible rfl | with_reducible assumption | (simp -implicitDefEqProofs (maxSteps := 1000000) (disch := omega) [go_sem, bdP, t0_3, t4_3, or0_3] <;> omega)⟩

/-! (*cardcase/entry.reader).until -/

noncomputable def F68 (a0 : S102) (a1 : Int) : Option ((List UInt8) × S102) :=
  gd (0 ≤ a1 ∧ a1 ≤ 255) ((F96 a0.ftext.fs ([UInt8.ofNat a1.toNat])).bind fun (x4 : (List UInt8) × (List UInt8) × Bool) => if a0.fbad = true then (some ((x4.1, (⟨(⟨x4.2.1⟩ : S100), true⟩ : S102)))) else (some ((x4.1, (⟨(⟨x4.2.1⟩ : S100), !x4.2.2⟩ : S102)))))

set_option maxHeartbeats 8000000 in
set_option pp.deepTerms false in
set_option maxRecDepth 60000 in
theorem F68_ok {H : IHeap} {K : IEnd → IHeap → Prop} (a0 : S102) (a1 : Int) (ka0 : Nat) (oka0 : H.obj ka0 = some (.cells ([.v (str a0.ftext.fs), .v (.bool a0.fbad)]))) (hV : VOK prog H) {r : (List UInt8) × S102} (h : F68 a0 a1 = some r) (hK : K (.ret (.v (str r.1))) (setL H [(ka0, .cells ([.v (str r.2.ftext.fs), .v (.bool r.2.fbad)]))])) : ICalls prog 68 [.p ka0 0, .v (.int .u8 a1)] H K := by
  refine ICalls_iwp (N := 38) func68 (by kernel_rfl) rfl (by kernel_rfl) (by kernel_rfl) fun cb hcb hw hbd hnb => ?_
  clear hbd hnb
  subst hcb
  unfold F68 at h
  have hka0 : ka0 < H.next := Nat.lt_of_not_le fun q => by rw [hw _ q] at oka0; cases oka0
  refine IWp_seqF fun cb hc1 => ?_
  refine vcK ?_
  try simp -implicitDefEqProofs (maxSteps := 1000000) (disch := omega) [go_sem, oka0]
  subst hc1
  refine IWp_seqF fun cb hc2 => ?_
  refine IWp_drawP [8] [0, 1, 2, 3, 4, 5, 6, 7, 8, 9, 10, 11, 12, 13, 14, 15] (by kernel_rfl) (by kernel_rfl) (fun _ _ _ _ h => h) ?_
  obtain ⟨g3, h⟩ := gd_some.1 h
  try simp -implicitDefEqProofs (disch := omega) at g3
  try simp -implicitDefEqProofs (maxSteps := 1000000) (disch := omega) [go_sem, oka0]
  obtain ⟨x4, hx4, h⟩ := bind_some' h
  refine PureC.mkT (fun H0 => VOK prog H0) _ (by first | exact hV.of rfl | exact hV.of ((Ext.delB (Ext.refl hw) ka0)).sn) (fun H0 K0 hT hK => ICalls.eqA (args' := [.v (str a0.ftext.fs), .v (str ([UInt8.ofNat a1.toNat]))]) (by first | with_reducible rfl | (simp -implicitDefEqProofs (maxSteps := 1000000) (disch := omega) [go_sem, oka0] <;> omega)) (F96_ok a0.ftext.fs ([UInt8.ofNat a1.toNat]) hT hx4 hK)) ?_
  try simp -implicitDefEqProofs (maxSteps := 1000000) (disch := omega) [go_sem, oka0]
  subst hc2
  refine IWp_seqF fun cb hc5 => ?_
  refine vcK ?_
  try simp -implicitDefEqProofs (maxSteps := 1000000) (disch := omega) [go_sem, oka0]
  refine splitG_f h (by first | with_reducible rfl | (simp -implicitDefEqProofs (maxSteps := 1000000) (disch := omega) [go_sem, oka0] <;> omega)) ?_ ?_
  · intro c10 h
    try simp -implicitDefEqProofs (disch := omega) at c10
    try simp -implicitDefEqProofs (maxSteps := 1000000) (disch := omega) [go_sem, oka0]
    subst hc5
    refine IWp_seqF fun cb hc6 => ?_
    refine vcK ?_
    try simp -implicitDefEqProofs (maxSteps := 1000000) (disch := omega) [go_sem, oka0]
    subst hc6
    refine IWp_seqF fun cb hc7 => ?_
    refine vcK ?_
    try simp -implicitDefEqProofs (maxSteps := 1000000) (disch := omega) [go_sem, oka0]
    subst hc7
    refine vcK ?_
    simp -implicitDefEqProofs only [go_sem]
    have er := Option.some.inj h
    subst er
    try simp -implicitDefEqProofs (maxSteps := 1000000) (disch := omega) [go_sem, oka0]
    refine retG_fzE (J := setL H [(ka0, .cells ([.v (str x4.2.1), .v (.bool true)]))]) (r' := .v (str x4.1)) (EndH.ioL [(ka0, .cells ([.v (str x4.2.1), .v (.bool true)]))] (by simp only [delL_cons, delL_nil]; repeat (first | exact (Ext.delB (Ext.refl hw) ka0) | refine Ext.new ?_ _ | refine Ext.set ?_ (by first | omega | (simp [go_sem]; done) | (simp [go_sem]; omega)) _ | refine Ext.del ?_ (by first | omega | (simp [go_sem]; done) | (simp [go_sem]; omega)) | refine Ext.setN ?_ (by simp [go_sem]) _)) (by intro p hp; simp only [List.mem_cons, List.not_mem_nil, or_false] at hp; (try rcases hp with hp); all_goals (subst hp; refine ⟨by omega, by first | with_reducible assumption | rfl | simp -implicitDefEqProofs (maxSteps := 1000000) (disch := omega) [go_sem, oka0], by repeat (first | exact .v _ | exact NBL.nil | refine NBL.cons ?_ ?_ | refine NB_slm fun _ => ?_ | refine NB_agL ?_ | refine NB_tuL ?_ | refine NBL.app ?_ ?_ | refine NBL.map fun _ => ?_ | exact NB_errI | refine NBo_cL ?_ | refine NBo_mEL fun _ => ?_ | refine NBo_mIL fun _ => ?_ | exact NB_mpL (by omega) | exact NB_pL (by omega))⟩))) (by first | with_reducible rfl | (simp -implicitDefEqProofs (maxSteps := 1000000) (disch := omega) [go_sem, oka0] <;> omega)) (.same (by repeat (first | exact .v _ | exact NBL.nil | refine NBL.cons ?_ ?_ | refine NB_slm fun _ => ?_ | refine NB_agL ?_ | refine NB_tuL ?_ | refine NBL.app ?_ ?_ | refine NBL.map fun _ => ?_ | exact NB_errI | refine NBo_cL ?_ | refine NBo_mEL fun _ => ?_ | refine NBo_mIL fun _ => ?_ | exact NB_mpL (by omega) | exact NB_pL (by omega)))) hK
  · intro c10 h
    try simp -implicitDefEqProofs (disch := omega) at c10
    try simp -implicitDefEqProofs (maxSteps := 1000000) (disch := omega) [go_sem, oka0]
    subst hc5
    refine IWp_seqF fun cb hc8 => ?_
    refine vcK ?_
    try simp -implicitDefEqProofs (maxSteps := 1000000) (disch := omega) [go_sem, oka0]
    subst hc8
    refine IWp_seqF fun cb hc9 => ?_
    refine vcK ?_
    try simp -implicitDefEqProofs (maxSteps := 1000000) (disch := omega) [go_sem, oka0]
    subst hc9
    refine vcK ?_
    simp -implicitDefEqProofs only [go_sem]
    have er := Option.some.inj h
    subst er
    try simp -implicitDefEqProofs (maxSteps := 1000000) (disch := omega) [go_sem, oka0]
    refine retG_fzE (J := setL H [(ka0, .cells ([.v (str x4.2.1), .v (.bool (!x4.2.2))]))]) (r' := .v (str x4.1)) (EndH.ioL [(ka0, .cells ([.v (str x4.2.1), .v (.bool (!x4.2.2))]))] (by simp only [delL_cons, delL_nil]; repeat (first | exact (Ext.delB (Ext.refl hw) ka0) | refine Ext.new ?_ _ | refine Ext.set ?_ (by first | omega | (simp [go_sem]; done) | (simp [go_sem]; omega)) _ | refine Ext.del ?_ (by first | omega | (simp [go_sem]; done) | (simp [go_sem]; omega)) | refine Ext.setN ?_ (by simp [go_sem]) _)) (by intro p hp; simp only [List.mem_cons, List.not_mem_nil, or_false] at hp; (try rcases hp with hp); all_goals (subst hp; refine ⟨by omega, by first | with_reducible assumption | rfl | simp -implicitDefEqProofs (maxSteps := 1000000) (disch := omega) [go_sem, oka0], by repeat (first | exact .v _ | exact NBL.nil | refine NBL.cons ?_ ?_ | refine NB_slm fun _ => ?_ | refine NB_agL ?_ | refine NB_tuL ?_ | refine NBL.app ?_ ?_ | refine NBL.map fun _ => ?_ | exact NB_errI | refine NBo_cL ?_ | refine NBo_mEL fun _ => ?_ | refine NBo_mIL fun _ => ?_ | exact NB_mpL (by omega) | exact NB_pL (by omega))⟩))) (by first | with_reducible rfl | (simp -implicitDefEqProofs (maxSteps := 1000000) (disch := omega) [go_sem, oka0] <;> omega)) (.same (by repeat (first | exact .v _ | exact NBL.nil | refine NBL.cons ?_ ?_ | refine NB_slm fun _ => ?_ | refine NB_agL ?_ | refine NB_tuL ?_ | refine NBL.app ?_ ?_ | refine NBL.map fun _ => ?_ | exact NB_errI | refine NBo_cL ?_ | refine NBo_mEL fun _ => ?_ | refine NBo_mIL fun _ => ?_ | exact NB_mpL (by omega) | exact NB_pL (by omega)))) hK

end Go.Idl
