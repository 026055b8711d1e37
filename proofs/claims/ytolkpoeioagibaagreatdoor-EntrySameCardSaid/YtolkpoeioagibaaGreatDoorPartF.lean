/- Whether two entries are the same; copies are apart. Part 6. Conditions: none. -/
import Derived.Test.YtolkpoeioagibaaGreatDoorPartE
import Derived.Sort.Walk0
import Derived.ProofKit
import Derived.OpenShut
import Derived.ChangeSame
import Derived.Test.YtolkpoeioagibaaGreatDoorRows
import Derived.Test.YtolkpoeioagibaaGreatDoorTie
import Derived.Test.YtolkpoeioagibaaGreatDoorCards
import Derived.LaidMore
import Derived.Carry
import Derived.Stop.Joined
import Derived.SevenTiedAt
import Derived.SizedLaws
set_option linter.unusedSimpArgs false
set_option linter.unusedVariables false

namespace Go.Idl

open Go Go.Proofs.Tryz

/-! cardcase/cardcaseref07.one -/

/-! cardcase/cardcaseref07.Do -/

/-! cardcase/cardcaseref07.Texts -/

noncomputable def F21_k8  : Option Bool :=
 some true

noncomputable def F21_b8 (a0 : List (List UInt8)) (a1 : List (List UInt8)) (v9 : Int) : Option (Int ⊕ (Unit ⊕ Bool)) :=
 if v9 < (a0.length : Int) then (gd (0 ≤ v9 ∧ v9 < a0.length) (gd (0 ≤ v9 ∧ v9 < a1.length) (if ¬ (a0.getD v9.toNat []) = (a1.getD v9.toNat []) then (some (.inr (.inr false))) else (some (.inl (IntKind.i64.wrap (v9 + 1))))))) else (some (.inr (.inl ())))

noncomputable def F21 (a0 : List (List UInt8)) (a1 : List (List UInt8)) : Option Bool :=
 if ¬ (a0.length : Int) = (a1.length : Int) then (some false) else ((loopO (fun (s : Int) => F21_b8 a0 a1 s) 0).bind fun y => Sum.elim (fun (e : Unit) => F21_k8) (fun (q : Bool) => some q) y)

set_option maxHeartbeats 8000000 in
set_option pp.deepTerms false in
set_option maxRecDepth 60000 in
theorem F21_ok {H : IHeap} {K : IEnd → IHeap → Prop} (a0 : List (List UInt8)) (a1 : List (List UInt8)) {r : Bool} (h : F21 a0 a1 = some r) (hK : K (.ret (.v (.bool r))) H) : ICalls prog 21 [.sl 1 (a0.map fun x => [.v (str x)]), .sl 1 (a1.map fun x => [.v (str x)])] H K := by
 refine ICalls_iwp (N := 26) func21 (by kernel_rfl) rfl (by kernel_rfl) (by kernel_rfl) fun cb hcb hw hbd hnb => ?_
 clear hbd hnb
 subst hcb
 unfold F21 at h
 refine IWp_seqF fun cb hc1 => ?_
 refine vcK ?_
 try simp -implicitDefEqProofs (maxSteps := 1000000) (disch := omega) [go_sem]
 subst hc1
 refine IWp_seqF fun cb hc2 => ?_
 refine IWp_seqF fun cb hc3 => ?_
 refine vcK ?_
 try simp -implicitDefEqProofs (maxSteps := 1000000) (disch := omega) [go_sem]
 subst hc3
 refine IWp_cond_i h (by first | with_reducible rfl | (simp -implicitDefEqProofs (maxSteps := 1000000) (disch := omega) [go_sem] <;> omega)) rfl ?_ ?_
 ·intro c4 h
  try simp -implicitDefEqProofs (disch := omega) at c4
  refine IWp_seqF fun cb hc5 => ?_
  refine vcK ?_
  try simp -implicitDefEqProofs (maxSteps := 1000000) (disch := omega) [go_sem]
  subst hc5
  refine vcK ?_
  simp -implicitDefEqProofs only [go_sem]
  have er := Option.some.inj h
  subst er
  try simp -implicitDefEqProofs (maxSteps := 1000000) (disch := omega) [go_sem]
  refine retG_pureA (Ext.refl hw) hK (e := by first | with_reducible rfl | (simp -implicitDefEqProofs (maxSteps := 1000000) (disch := omega) [go_sem] <;> omega))
 ·intro c4 h
  try simp -implicitDefEqProofs (disch := omega) at c4
  refine vcK ?_
  simp -implicitDefEqProofs only [go_sem]
  subst hc2
  refine IWp_seqF fun cb hc6 => ?_
  refine IWp_seqF fun cb hc7 => ?_
  refine vcK ?_
  try simp -implicitDefEqProofs (maxSteps := 1000000) (disch := omega) [go_sem]
  subst hc7
  obtain ⟨y8, hl8q, hk8⟩ := bind_some' h
  refine IWp_tailC (fun tm' H' => .inl () = y8 ∧ H = H') ?_ fun cb hc8 => ?_
  ·rintro tm8e H8e ⟨rfl, rfl⟩
   have h : F21_k8 = some r := hk8
   unfold F21_k8 at h
   simp -implicitDefEqProofs only [go_sem]
   subst hc6
   refine IWp_seqF fun cb hc10 => ?_
   refine vcK ?_
   try simp -implicitDefEqProofs (maxSteps := 1000000) (disch := omega) [go_sem]
   subst hc10
   refine vcK ?_
   simp -implicitDefEqProofs only [go_sem]
   have er := Option.some.inj h
   subst er
   try simp -implicitDefEqProofs (maxSteps := 1000000) (disch := omega) [go_sem]
   refine retG_pureA (Ext.refl hw) hK (e := by first | with_reducible rfl | (simp -implicitDefEqProofs (maxSteps := 1000000) (disch := omega) [go_sem] <;> omega))
  ·refine IWp_block ?_
   refine IWp_loopF (fun (s : Int) tm' H' => H = H' ∧ tm' 0 = .sl 1 (a0.map fun x => [.v (str x)]) ∧ tm' 1 = .sl 1 (a1.map fun x => [.v (str x)]) ∧ tm' 5 = .v (.int .i64 s)) hl8q ?_ ?_
   ·refine .same ⟨rfl, ?_, ?_, ?_⟩ <;> first | with_reducible rfl | with_reducible assumption | (simp -implicitDefEqProofs (maxSteps := 1000000) (disch := omega) [go_sem] <;> omega)
   ·rintro I8 hI8 v9 x8 tm8 H8 ⟨rfl, t0_8, t1_8, t5_8⟩ h hret8
    replace h : F21_b8 a0 a1 v9 = some x8 := h
    unfold F21_b8 at h
    refine IWp_seqF fun cb hc11 => ?_
    refine IWp_seqF fun cb hc12 => ?_
    refine vcK ?_
    try simp -implicitDefEqProofs (maxSteps := 1000000) (disch := omega) [go_sem, t0_8, t1_8, t5_8]
    subst hc12
    refine IWp_cond_i h (by first | with_reducible rfl | (simp -implicitDefEqProofs (maxSteps := 1000000) (disch := omega) [go_sem, t0_8, t1_8, t5_8] <;> omega)) rfl ?_ ?_
    ·intro c13 h
     try simp -implicitDefEqProofs (disch := omega) at c13
     refine vcK ?_
     simp -implicitDefEqProofs only [go_sem]
     subst hc11
     refine IWp_seqF fun cb hc14 => ?_
     refine IWp_block ?_
     refine IWp_seqF fun cb hc15 => ?_
     refine IWp_drawP [] [0, 1, 2, 3, 4, 5, 6, 7, 8] (by kernel_rfl) (by kernel_rfl) (fun _ _ _ _ h => h) ?_
     obtain ⟨g16, h⟩ := gd_some.1 h
     try simp -implicitDefEqProofs (disch := omega) at g16
     obtain ⟨g17, h⟩ := gd_some.1 h
     try simp -implicitDefEqProofs (disch := omega) at g17
     try simp -implicitDefEqProofs (maxSteps := 1000000) (disch := omega) [go_sem, t0_8, t1_8, t5_8]
     subst hc15
     refine IWp_cond_i h (by first | with_reducible rfl | (simp -implicitDefEqProofs (maxSteps := 1000000) (disch := omega) [go_sem, t0_8, t1_8, t5_8] <;> omega)) rfl ?_ ?_
     ·intro c18 h
      try simp -implicitDefEqProofs (disch := omega) at c18
      refine IWp_seqF fun cb hc19 => ?_
      refine vcK ?_
      try simp -implicitDefEqProofs (maxSteps := 1000000) (disch := omega) [go_sem, t0_8, t1_8, t5_8]
      subst hc19
      refine vcK ?_
      simp -implicitDefEqProofs only [go_sem]
      have e8 := Option.some.inj h
      subst e8
      have e8 := hret8 _ rfl
      subst e8
      replace h : some false = some r := hk8
      have er := Option.some.inj h
      subst er
      try simp -implicitDefEqProofs (maxSteps := 1000000) (disch := omega) [go_sem, t0_8, t1_8, t5_8]
      refine retG_pureA (Ext.refl hw) hK (e := by first | with_reducible rfl | (simp -implicitDefEqProofs (maxSteps := 1000000) (disch := omega) [go_sem, t0_8, t1_8, t5_8] <;> omega))
     ·intro c18 h
      try simp -implicitDefEqProofs (disch := omega) at c18
      refine vcK ?_
      simp -implicitDefEqProofs only [go_sem]
      subst hc14
      refine vcK ?_
      try simp -implicitDefEqProofs (maxSteps := 1000000) (disch := omega) [go_sem, t0_8, t1_8, t5_8]
      have e8 := Option.some.inj h
      subst e8
      refine loopN_mk hI8 (IntKind.i64.wrap (v9 + 1)) ?_
      refine .same ⟨rfl, ?_, ?_, ?_⟩ <;> first | with_reducible rfl | with_reducible assumption | (simp -implicitDefEqProofs (maxSteps := 1000000) (disch := omega) [go_sem, t0_8, t1_8, t5_8] <;> omega)
    ·intro c13 h
     try simp -implicitDefEqProofs (disch := omega) at c13
     refine vcK ?_
     simp -implicitDefEqProofs only [go_sem]
     have e8 := Option.some.inj h
     subst e8
     have hy8 := hret8 _ rfl
     refine hc8 _ _ ?_
     refine .same ⟨hy8, rfl⟩

end Go.Idl

namespace Go.Idl

open Go Go.Proofs.Tryz

/-! cardcase/cardcaseref07.Same -/

noncomputable def F16_k8  : Option Bool :=
 some true

noncomputable def F16_b8 (a0 : List S50) (a1 : List S50) (v9 : Int) : Option (Int ⊕ (Unit ⊕ Bool)) :=
 if v9 < (a0.length : Int) then (gd (0 ≤ v9 ∧ v9 < a0.length) (gd (0 ≤ v9 ∧ v9 < a1.length) (if ¬ ((a0.getD v9.toNat S50.zero).fName) = ((a1.getD v9.toNat S50.zero).fName) then (some (.inr (.inr false))) else ((F21 ((a0.getD v9.toNat S50.zero).fValues) ((a1.getD v9.toNat S50.zero).fValues)).bind fun (x19 : Bool) => if ¬ (x19 = true) then (some (.inr (.inr false))) else (some (.inl (IntKind.i64.wrap (v9 + 1)))))))) else (some (.inr (.inl ())))

noncomputable def F16 (a0 : List S50) (a1 : List S50) : Option Bool :=
 if ¬ (a0.length : Int) = (a1.length : Int) then (some false) else ((loopO (fun (s : Int) => F16_b8 a0 a1 s) 0).bind fun y => Sum.elim (fun (e : Unit) => F16_k8) (fun (q : Bool) => some q) y)

set_option maxHeartbeats 8000000 in
set_option pp.deepTerms false in
set_option maxRecDepth 60000 in
theorem F16_ok {H : IHeap} {K : IEnd → IHeap → Prop} (a0 : List S50) (a1 : List S50) {r : Bool} (h : F16 a0 a1 = some r) (hK : K (.ret (.v (.bool r))) H) : ICalls prog 16 [.sl 2 (a0.map fun x => [.v (str x.fName), .sl 1 (x.fValues.map fun x => [.v (str x)])]), .sl 2 (a1.map fun x => [.v (str x.fName), .sl 1 (x.fValues.map fun x => [.v (str x)])])] H K := by
 refine ICalls_iwp (N := 42) func16 (by kernel_rfl) rfl (by kernel_rfl) (by kernel_rfl) fun cb hcb hw hbd hnb => ?_
 clear hbd hnb
 subst hcb
 unfold F16 at h
 refine IWp_seqF fun cb hc1 => ?_
 refine vcK ?_
 try simp -implicitDefEqProofs (maxSteps := 1000000) (disch := omega) [go_sem]
 subst hc1
 refine IWp_seqF fun cb hc2 => ?_
 refine IWp_seqF fun cb hc3 => ?_
 refine vcK ?_
 try simp -implicitDefEqProofs (maxSteps := 1000000) (disch := omega) [go_sem]
 subst hc3
 refine IWp_cond_i h (by first | with_reducible rfl | (simp -implicitDefEqProofs (maxSteps := 1000000) (disch := omega) [go_sem] <;> omega)) rfl ?_ ?_
 ·intro c4 h
  try simp -implicitDefEqProofs (disch := omega) at c4
  refine IWp_seqF fun cb hc5 => ?_
  refine vcK ?_
  try simp -implicitDefEqProofs (maxSteps := 1000000) (disch := omega) [go_sem]
  subst hc5
  refine vcK ?_
  simp -implicitDefEqProofs only [go_sem]
  have er := Option.some.inj h
  subst er
  try simp -implicitDefEqProofs (maxSteps := 1000000) (disch := omega) [go_sem]
  refine retG_pureA (Ext.refl hw) hK (e := by first | with_reducible rfl | (simp -implicitDefEqProofs (maxSteps := 1000000) (disch := omega) [go_sem] <;> omega))
 ·intro c4 h
  try simp -implicitDefEqProofs (disch := omega) at c4
  refine vcK ?_
  simp -implicitDefEqProofs only [go_sem]
  subst hc2
  refine IWp_seqF fun cb hc6 => ?_
  refine IWp_seqF fun cb hc7 => ?_
  refine vcK ?_
  try simp -implicitDefEqProofs (maxSteps := 1000000) (disch := omega) [go_sem]
  subst hc7
  obtain ⟨y8, hl8q, hk8⟩ := bind_some' h
  refine IWp_tailC (fun tm' H' => .inl () = y8 ∧ H = H') ?_ fun cb hc8 => ?_
  ·rintro tm8e H8e ⟨rfl, rfl⟩
   have h : F16_k8 = some r := hk8
   unfold F16_k8 at h
   simp -implicitDefEqProofs only [go_sem]
   subst hc6
   refine IWp_seqF fun cb hc10 => ?_
   refine vcK ?_
   try simp -implicitDefEqProofs (maxSteps := 1000000) (disch := omega) [go_sem]
   subst hc10
   refine vcK ?_
   simp -implicitDefEqProofs only [go_sem]
   have er := Option.some.inj h
   subst er
   try simp -implicitDefEqProofs (maxSteps := 1000000) (disch := omega) [go_sem]
   refine retG_pureA (Ext.refl hw) hK (e := by first | with_reducible rfl | (simp -implicitDefEqProofs (maxSteps := 1000000) (disch := omega) [go_sem] <;> omega))
  ·refine IWp_block ?_
   refine IWp_loopF (fun (s : Int) tm' H' => H = H' ∧ tm' 0 = .sl 2 (a0.map fun x => [.v (str x.fName), .sl 1 (x.fValues.map fun x => [.v (str x)])]) ∧ tm' 1 = .sl 2 (a1.map fun x => [.v (str x.fName), .sl 1 (x.fValues.map fun x => [.v (str x)])]) ∧ tm' 5 = .v (.int .i64 s)) hl8q ?_ ?_
   ·refine .same ⟨rfl, ?_, ?_, ?_⟩ <;> first | with_reducible rfl | with_reducible assumption | (simp -implicitDefEqProofs (maxSteps := 1000000) (disch := omega) [go_sem] <;> omega)
   ·rintro I8 hI8 v9 x8 tm8 H8 ⟨rfl, t0_8, t1_8, t5_8⟩ h hret8
    replace h : F16_b8 a0 a1 v9 = some x8 := h
    unfold F16_b8 at h
    refine IWp_seqF fun cb hc11 => ?_
    refine IWp_seqF fun cb hc12 => ?_
    refine vcK ?_
    try simp -implicitDefEqProofs (maxSteps := 1000000) (disch := omega) [go_sem, t0_8, t1_8, t5_8]
    subst hc12
    refine IWp_cond_i h (by first | with_reducible rfl | (simp -implicitDefEqProofs (maxSteps := 1000000) (disch := omega) [go_sem, t0_8, t1_8, t5_8] <;> omega)) rfl ?_ ?_
    ·intro c13 h
     try simp -implicitDefEqProofs (disch := omega) at c13
     refine vcK ?_
     simp -implicitDefEqProofs only [go_sem]
     subst hc11
     refine IWp_seqF fun cb hc14 => ?_
     refine IWp_block ?_
     refine IWp_seqF fun cb hc15 => ?_
     refine IWp_drawP [22] [0, 1, 2, 3, 4, 5, 6, 7, 8, 9, 10, 11, 12, 13, 14, 15, 16, 17, 18, 19, 20, 21, 22, 23, 24] (by kernel_rfl) (by kernel_rfl) (fun _ _ _ _ h => h) ?_
     obtain ⟨g16, h⟩ := gd_some.1 h
     try simp -implicitDefEqProofs (disch := omega) at g16
     obtain ⟨g17, h⟩ := gd_some.1 h
     try simp -implicitDefEqProofs (disch := omega) at g17
     try simp -implicitDefEqProofs (maxSteps := 1000000) (disch := omega) [go_sem, t0_8, t1_8, t5_8]
     refine splitG_f h (by first | with_reducible rfl | (simp -implicitDefEqProofs (maxSteps := 1000000) (disch := omega) [go_sem, t0_8, t1_8, t5_8] <;> omega)) ?_ ?_
     ·intro c22 h
      try simp -implicitDefEqProofs (disch := omega) at c22
      try simp -implicitDefEqProofs (maxSteps := 1000000) (disch := omega) [go_sem, t0_8, t1_8, t5_8]
      subst hc15
      refine IWp_cond_t (by first | with_reducible rfl | (simp -implicitDefEqProofs (maxSteps := 1000000) (disch := omega) [go_sem, t0_8, t1_8, t5_8] <;> omega)) rfl ?_
      refine IWp_seqF fun cb hc18 => ?_
      refine vcK ?_
      try simp -implicitDefEqProofs (maxSteps := 1000000) (disch := omega) [go_sem, t0_8, t1_8, t5_8]
      subst hc18
      refine vcK ?_
      simp -implicitDefEqProofs only [go_sem]
      have e8 := Option.some.inj h
      subst e8
      have e8 := hret8 _ rfl
      subst e8
      replace h : some false = some r := hk8
      have er := Option.some.inj h
      subst er
      try simp -implicitDefEqProofs (maxSteps := 1000000) (disch := omega) [go_sem, t0_8, t1_8, t5_8]
      refine retG_pureA (Ext.refl hw) hK (e := by first | with_reducible rfl | (simp -implicitDefEqProofs (maxSteps := 1000000) (disch := omega) [go_sem, t0_8, t1_8, t5_8] <;> omega))
     ·intro c22 h
      try simp -implicitDefEqProofs (disch := omega) at c22
      try simp -implicitDefEqProofs (maxSteps := 1000000) (disch := omega) [go_sem, t0_8, t1_8, t5_8]
      obtain ⟨x19, hx19, h⟩ := bind_some' h
      refine PureC.mk _ (fun _ _ hK => ICalls.eqA (args' := [.sl 1 (((a0.getD v9.toNat S50.zero).fValues).map fun x => [.v (str x)]), .sl 1 (((a1.getD v9.toNat S50.zero).fValues).map fun x => [.v (str x)])]) (by first | with_reducible rfl | (simp -implicitDefEqProofs (maxSteps := 1000000) (disch := omega) [go_sem, t0_8, t1_8, t5_8] <;> omega)) (F21_ok ((a0.getD v9.toNat S50.zero).fValues) ((a1.getD v9.toNat S50.zero).fValues) hx19 hK)) ?_
      try simp -implicitDefEqProofs (maxSteps := 1000000) (disch := omega) [go_sem, t0_8, t1_8, t5_8]
      subst hc15
      refine IWp_cond_i h (by first | with_reducible rfl | (simp -implicitDefEqProofs (maxSteps := 1000000) (disch := omega) [go_sem, t0_8, t1_8, t5_8] <;> omega)) rfl ?_ ?_
      ·intro c20 h
       try simp -implicitDefEqProofs (disch := omega) at c20
       refine IWp_seqF fun cb hc21 => ?_
       refine vcK ?_
       try simp -implicitDefEqProofs (maxSteps := 1000000) (disch := omega) [go_sem, t0_8, t1_8, t5_8]
       subst hc21
       refine vcK ?_
       simp -implicitDefEqProofs only [go_sem]
       have e8 := Option.some.inj h
       subst e8
       have e8 := hret8 _ rfl
       subst e8
       replace h : some false = some r := hk8
       have er := Option.some.inj h
       subst er
       try simp -implicitDefEqProofs (maxSteps := 1000000) (disch := omega) [go_sem, t0_8, t1_8, t5_8]
       refine retG_pureA (Ext.refl hw) hK (e := by first | with_reducible rfl | (simp -implicitDefEqProofs (maxSteps := 1000000) (disch := omega) [go_sem, t0_8, t1_8, t5_8] <;> omega))
      ·intro c20 h
       try simp -implicitDefEqProofs (disch := omega) at c20
       refine vcK ?_
       simp -implicitDefEqProofs only [go_sem]
       subst hc14
       refine vcK ?_
       try simp -implicitDefEqProofs (maxSteps := 1000000) (disch := omega) [go_sem, t0_8, t1_8, t5_8]
       have e8 := Option.some.inj h
       subst e8
       refine loopN_mk hI8 (IntKind.i64.wrap (v9 + 1)) ?_
       refine .same ⟨rfl, ?_, ?_, ?_⟩ <;> first | with_reducible rfl | with_reducible assumption | (simp -implicitDefEqProofs (maxSteps := 1000000) (disch := omega) [go_sem, t0_8, t1_8, t5_8] <;> omega)
    ·intro c13 h
     try simp -implicitDefEqProofs (disch := omega) at c13
     refine vcK ?_
     simp -implicitDefEqProofs only [go_sem]
     have e8 := Option.some.inj h
     subst e8
     have hy8 := hret8 _ rfl
     refine hc8 _ _ ?_
     refine .same ⟨hy8, rfl⟩

/-! cardcase/cardcaselaw07.EntryDoes -/

/-! cardcase/cardcaseref07.Order -/

/-! cardcase/cardcaselaw07.EntryOrder -/

end Go.Idl

namespace Go.Idl

open Go Go.Proofs.Tryz

/-! cardcase/cardcaseref07.Diff -/

/-! cardcase/cardcaseref07.SameMods -/

/-! cardcase/cardcaselaw07.EntryDiffs -/

end Go.Idl

namespace Go.Idl

open Go Go.Proofs.Tryz

/-! cardcase/cardcaselaw07.EntryBackAgain -/

/-! cardcase/cardcaselaw07.ordered -/

/-! cardcase/cardcaselaw07.EntryOne -/

end Go.Idl

namespace Go.Idl

open Go

def findI {α ρ : Type} (f : Nat → α → Option ρ) (d : ρ) : Nat → List α → ρ
  | _, [] => d
  | i, x :: l => match f i x with
    | none => findI f d (i + 1) l
    | some r => r

def runI {α σ ρ : Type} (f : Nat → σ → α → σ ⊕ ρ) (fin : σ → ρ) : Nat → σ → List α → ρ
  | _, a, [] => fin a
  | i, a, x :: l => match f i a x with
    | .inl a' => runI f fin (i + 1) a' l
    | .inr r => r

theorem findI_cons {α ρ : Type} {f : Nat → α → Option ρ} {d : ρ} {i : Nat} {x : α} {l : List α} : findI f d i (x :: l) = match f i x with
    | none => findI f d (i + 1) l
    | some r => r := rfl

theorem runI_cons {α σ ρ : Type} {f : Nat → σ → α → σ ⊕ ρ} {fin : σ → ρ} {i : Nat} {a : σ} {x : α} {l : List α} : runI f fin i a (x :: l) = match f i a x with
    | .inl a' => runI f fin (i + 1) a' l
    | .inr r => r := rfl

theorem loopO_find {α ρ : Type} (l : List α) {step : Int → Option (Int ⊕ ρ)} (f : Nat → α → Option ρ) (d : ρ) (hl : l.length ≤ 1000000000)
    (hs : ∀ (i : Nat) (h : i < l.length), step (i : Int) = some (match f i l[i] with | none => .inl (IntKind.i64.wrap ((i : Int) + 1)) | some r => .inr r))
    (hf : step (l.length : Int) = some (.inr d)) : loopO step 0 = some (findI f d 0 l) := by
  obtain ⟨r, h1, h2⟩ := loopO_for (step := step) (Post := fun r => r = findI f d 0 l) l.length (fun i => findI f d i (l.drop i) = findI f d 0 l) (by simp)
    (fun i hi hI => by
      rw [hs i hi]
      rw [List.drop_eq_getElem_cons hi] at hI
      rw [findI_cons] at hI
      cases hfi : f i l[i] with
      | none =>
        rw [hfi] at hI
        rw [wrap_nat (by omega)]
        exact .inl ⟨rfl, hI⟩
      | some r =>
        rw [hfi] at hI
        exact .inr ⟨r, rfl, hI⟩)
    (fun hI => ⟨d, hf, by rw [List.drop_length] at hI; exact hI⟩)
  rw [h1, h2]

theorem loopO_run {α σ ρ : Type} (l : List α) {step : σ × Int → Option ((σ × Int) ⊕ ρ)} (f : Nat → σ → α → σ ⊕ ρ) (fin : σ → ρ) (Inv : Nat → σ → Prop) {a : σ} (hl : l.length ≤ 1000000000) (h0 : Inv 0 a)
    (hs : ∀ (i : Nat) (h : i < l.length) (a : σ), Inv i a → step (a, (i : Int)) = some (match f i a l[i] with | .inl a' => .inl (a', IntKind.i64.wrap ((i : Int) + 1)) | .inr r => .inr r))
    (hn : ∀ (i : Nat) (h : i < l.length) (a a' : σ), Inv i a → f i a l[i] = .inl a' → Inv (i + 1) a')
    (hf : ∀ a, Inv l.length a → step (a, (l.length : Int)) = some (.inr (fin a))) : loopO step (a, 0) = some (runI f fin 0 a l) := by
  obtain ⟨r, h1, h2⟩ := loopO_for2 (step := step) (Post := fun r => r = runI f fin 0 a l) l.length (fun i a' => Inv i a' ∧ runI f fin i a' (l.drop i) = runI f fin 0 a l) (a := a) ⟨h0, by simp⟩
    (fun i a' hi hI => by
      obtain ⟨hI, hR⟩ := hI
      rw [hs i hi a' hI]
      rw [List.drop_eq_getElem_cons hi] at hR
      rw [runI_cons] at hR
      cases hfi : f i a' l[i] with
      | inl a2 =>
        rw [hfi] at hR
        rw [wrap_nat (by omega)]
        exact .inl ⟨a2, rfl, hn i hi a' a2 hI hfi, hR⟩
      | inr r =>
        rw [hfi] at hR
        exact .inr ⟨r, rfl, hR⟩)
    (fun a' hI => ⟨_, hf a' hI.1, by have := hI.2; rw [List.drop_length] at this; exact this⟩)
  rw [h1, h2]

end Go.Idl

namespace Go.Idl

open Go

def letterB (b : UInt8) : Bool := decide (65 ≤ b.toNat ∧ b.toNat ≤ 90 ∨ 97 ≤ b.toNat ∧ b.toNat ≤ 122)

def restB (b : UInt8) : Bool := letterB b || decide (48 ≤ b.toNat ∧ b.toNat ≤ 57) || decide (b.toNat = 45)

def nameB (s : Str) : Bool := decide (1 ≤ s.length ∧ s.length ≤ 64) && letterB (s.getD 0 0) && s.all restB

abbrev smallS (s : Str) : Str := s.map lowB

theorem lowB_nat (b : UInt8) : (lowB b).toNat = if 65 ≤ b.toNat ∧ b.toNat ≤ 90 then b.toNat + 32 else b.toNat := by
  have h := lowB_int b
  split
  · rename_i c; have := h.1 (by omega); omega
  · rename_i c; rw [h.2 (by omega)]

theorem letter_low (b : UInt8) : letterB (lowB b) = letterB b := by
  have h := lowB_nat b
  simp only [letterB, decide_eq_decide]
  split at h <;> omega

theorem rest_low (b : UInt8) : restB (lowB b) = restB b := by
  have h := lowB_nat b
  simp only [restB, letter_low]
  congr 1
  · congr 1
    simp only [decide_eq_decide]
    split at h <;> omega
  · simp only [decide_eq_decide]
    split at h <;> omega

theorem low_low (b : UInt8) : lowB (lowB b) = lowB b := by
  refine UInt8.toNat_inj.1 ?_
  have h := lowB_nat b
  have h2 := lowB_nat (lowB b)
  split at h <;> split at h2 <;> omega

theorem small_small (s : Str) : smallS (smallS s) = smallS s := by
  simp [smallS, low_low]

theorem name_small (s : Str) : nameB (smallS s) = nameB s := by
  unfold nameB
  congr 1
  · congr 1
    · simp [smallS]
    · cases s with
      | nil => rfl
      | cons b s => simp [smallS, letter_low]
  · simp only [smallS, List.all_map]
    congr 1
    funext b
    exact rest_low b

theorem F41_eq (s : Str) (h : s.length ≤ 1000000) : F41 s = some (smallS s) := gd_pos (by omega)

theorem F113_eq (a b c : Int) : F113 a b c = some (decide (b ≤ a ∧ a ≤ c)) := by
  unfold F113
  by_cases h : b ≤ a
  · rw [if_pos h]; simp [h]
  · rw [if_neg h]; simp [h]

theorem F50_eq (s : Str) (hl : s.length ≤ 1000000) : F50 s = some (smallS s) := by
  unfold F50
  rw [loopO_run s (fun _ a b => .inl (a ++ [lowB b])) id (fun i a => a.length = i) (by omega) rfl
    (fun i hi a hI => by
      simp only [F50_b5]
      rw [if_pos (by omega), gd_pos (by omega), Int.toNat_natCast, getD_some hi]
      have hb := UInt8.toNat_lt s[i]
      have hlb := lowB_nat s[i]
      by_cases h1 : 65 ≤ (s[i].toNat : Int)
      · rw [if_pos h1]
        by_cases h2 : (s[i].toNat : Int) ≤ 90
        · have hw : IntKind.u8.wrap ((s[i].toNat : Int) + 32) = ((lowB s[i]).toNat : Int) := by
            rw [if_pos (by omega)] at hlb
            rw [hlb]
            simp only [IntKind.wrap, IntKind.signed, IntKind.bits, Bool.false_and, Bool.false_eq_true, if_false]
            omega
          have hb2 := UInt8.toNat_lt (lowB s[i])
          rw [if_pos h2, hw, gd_pos (by omega), gd_pos (by simp only [List.length_cons, List.length_nil]; omega)]
          simp
        · rw [if_neg (by omega)] at hlb
          rw [if_neg h2, gd_pos (by omega), gd_pos (by simp only [List.length_cons, List.length_nil]; omega)]
          have : lowB s[i] = s[i] := UInt8.toNat_inj.1 hlb
          simp [this]
      · rw [if_neg (by omega)] at hlb
        rw [if_neg h1, gd_pos (by omega), gd_pos (by simp only [List.length_cons, List.length_nil]; omega)]
        have : lowB s[i] = s[i] := UInt8.toNat_inj.1 hlb
        simp [this])
    (fun i hi a a' hI h => by simp only [Sum.inl.injEq] at h; subst h; simp [hI])
    (fun a hI => by simp only [F50_b5]; rw [if_neg (by omega)]; rfl)]
  have : ∀ (l : Str) (i : Nat) (a : Str), runI (fun _ a b => (.inl (a ++ [lowB b]) : Str ⊕ Str)) id i a l = a ++ smallS l := by
    intro l
    induction l with
    | nil => intro i a; simp [runI]
    | cons x l ih => intro i a; rw [runI_cons]; simp only [ih]; simp
  rw [this]
  simp [F50_k5]

end Go.Idl

namespace Go.Idl

open Go

theorem F103_eq (s : Str) (hl : s.length ≤ 1000000) : F103 s = some (nameB s) := by
  unfold F103
  rw [gd_pos (by omega)]
  rw [loopO_find s (fun i b => if letterB b = true then none else if i = 0 then some (.inr false) else if restB b = true then none else some (.inr false)) (.inl ()) (by omega)
    (fun i hi => by
      simp only [F103_b5]
      rw [if_pos (by omega), gd_pos (by omega), Int.toNat_natCast, getD_some hi, F113_eq, F113_eq, F113_eq]
      simp only [Option.bind_some]
      by_cases h1 : letterB s[i] = true
      · rw [if_pos h1]
        have h1' := h1
        simp only [letterB, decide_eq_true_eq] at h1'
        by_cases h2 : 97 ≤ (s[i].toNat : Int) ∧ (s[i].toNat : Int) ≤ 122
        · rw [if_neg (by simp [h2])]
        · rw [if_pos (by simpa using h2), if_neg (by simp; omega)]
      · rw [if_neg h1]
        have h1' := h1
        simp only [letterB, decide_eq_true_eq] at h1'
        rw [if_pos (by simp; omega), if_pos (by simp; omega)]
        by_cases h3 : i = 0
        · rw [if_pos (by omega), if_pos h3]
        · rw [if_neg (by omega), if_neg h3]
          by_cases h4 : 48 ≤ (s[i].toNat : Int) ∧ (s[i].toNat : Int) ≤ 57
          · rw [if_neg (by simp [h4])]
            have : restB s[i] = true := by simp [restB]; omega
            rw [if_pos this]
          · rw [if_pos (by simpa using h4)]
            by_cases h5 : (s[i].toNat : Int) = 45
            · have : restB s[i] = true := by simp [restB]; omega
              rw [if_neg (by simpa using h5), if_pos this]
            · have : ¬ restB s[i] = true := by simp [restB, h1]; omega
              rw [if_pos h5, if_neg this])
    (by simp only [F103_b5]; rw [if_neg (by omega)])]
  have htl : ∀ (l : Str) (i : Nat), findI (fun i b => if letterB b = true then none else if i = 0 then some (.inr false) else if restB b = true then none else some (.inr false)) (.inl ()) (i + 1) l = if l.all restB = true then (.inl () : Unit ⊕ Bool) else .inr false := by
    intro l
    induction l with
    | nil => intro i; simp [findI]
    | cons x l ih =>
      intro i
      rw [findI_cons]
      by_cases h1 : letterB x = true
      · have h2 : restB x = true := by simp [restB, h1]
        simp only [h1, if_true, ih, List.all_cons, h2, Bool.true_and]
      · rw [if_neg h1, if_neg (by omega)]
        by_cases h2 : restB x = true
        · simp only [h2, if_true, ih, List.all_cons, Bool.true_and]
        · rw [if_neg h2]
          simp [List.all_cons, Bool.eq_false_iff.2 h2]
  cases s with
  | nil => simp [findI, F103_k5, nameB]
  | cons x l =>
    rw [findI_cons]
    by_cases h1 : letterB x = true
    · have h2 : restB x = true := by simp [restB, h1]
      rw [if_pos h1]
      simp only [htl l 0]
      by_cases h3 : l.all restB = true
      · simp only [h3, if_true, Option.bind_some, Sum.elim_inl, F103_k5, nameB, List.getD_cons_zero, h1, List.all_cons, h2, Bool.and_true]
        by_cases h4 : 1 ≤ ((x :: l).length : Int)
        · rw [if_pos h4]
          simp only [Option.some.injEq, decide_eq_decide]
          omega
        · simp at h4; omega
      · simp [h3, nameB, h1, h2]
    · rw [if_neg h1, if_pos rfl]
      simp only [Option.bind_some, Sum.elim_inr, nameB, List.getD_cons_zero]
      rw [Bool.eq_false_iff.2 h1]
      simp

theorem F45_eq (s : Str) (hl : s.length ≤ 1000000) : F45 s = some (nameB s) := by
  unfold F45
  rw [F41_eq s hl]
  simp only [Option.bind_some]
  have hl2 : (smallS s).length ≤ 1000000 := by simpa using hl
  have h102 : F102 ⟨smallS s, [120]⟩ = some (nameB s) := by
    simp only [F102, F103_eq _ hl2, Option.bind_some, name_small]
    cases h : nameB s with
    | false => rfl
    | true =>
      rw [if_pos rfl, F41_eq _ hl2]
      simp only [Option.bind_some, small_small, if_true, List.length_cons, List.length_nil]
      rfl
  have h129 : F129 [⟨smallS s, [120]⟩] = some (if nameB s = true then -1 else 0) := by
    unfold F129
    rw [loopO_find [(⟨smallS s, [120]⟩ : S112)] (fun i _ => if nameB s = true then none else some (.inr (i : Int))) (.inl ()) (by simp)
      (fun i hi => by
        simp only [F129_b4]
        have h0 : i = 0 := by simpa using hi
        subst h0
        rw [if_pos (by simp), gd_pos (by simp)]
        simp only [F115, Int.toNat_natCast, getD_some hi, List.getElem_cons_zero, h102, Option.bind_some]
        cases nameB s <;> simp)
      (by simp only [F129_b4]; rw [if_neg (by simp)])]
    cases nameB s <;> simp [findI, F129_k4]
  simp only [F84, F104, F114, h129, Option.bind_some, List.length_cons, List.length_nil]
  cases nameB s <;> simp

def valB (s : Str) : Bool := decide (1 ≤ s.length ∧ s.length ≤ 2048)

theorem F47_eq (s : Str) : F47 s = some (valB s) := by
  unfold F47 valB
  by_cases h : 1 ≤ (s.length : Int)
  · rw [if_pos h]
    simp only [Option.some.injEq, decide_eq_decide]
    omega
  · rw [if_neg h]
    symm
    simp; omega

theorem findI_place {α : Type} (p : α → Bool) : ∀ (l : List α) (i : Nat), (l.all p = true ∧ findI (fun i x => if p x = true then none else some (.inr (i : Int))) (.inl ()) i l = (.inl () : Unit ⊕ Int)) ∨ (l.all p = false ∧ ∃ j : Nat, findI (fun i x => if p x = true then none else some (.inr (i : Int))) (.inl ()) i l = (.inr (j : Int) : Unit ⊕ Int))
  | [], _ => .inl ⟨rfl, rfl⟩
  | x :: l, i => by
    rw [findI_cons]
    by_cases h : p x = true
    · rw [if_pos h]
      rcases findI_place p l (i + 1) with ⟨h1, h2⟩ | ⟨h1, j, h2⟩
      · exact .inl ⟨by simp only [List.all_cons, h, h1, Bool.true_and], h2⟩
      · exact .inr ⟨by simp only [List.all_cons, h, h1, Bool.true_and], j, h2⟩
    · rw [if_neg h]
      exact .inr ⟨by simp only [List.all_cons, Bool.eq_false_iff.2 h, Bool.false_and], i, rfl⟩

theorem F46_eq (l : List Str) (hl : l.length ≤ 1000000) : F46 l = some (l.all valB) := by
  have h100 : ∃ j : Int, F100 l = some j ∧ decide (0 ≤ j) = !l.all valB := by
    unfold F100
    rw [loopO_find l (fun i x => if valB x = true then none else some (.inr (i : Int))) (.inl ()) (by omega)
      (fun i hi => by
        simp only [F100_b4]
        rw [if_pos (by omega), gd_pos (by omega), Int.toNat_natCast, getD_some hi]
        simp only [F86, F47_eq, Option.bind_some]
        cases valB l[i] <;> simp)
      (by simp only [F100_b4]; rw [if_neg (by omega)])]
    rcases findI_place valB l 0 with ⟨h1, h2⟩ | ⟨h1, j, h2⟩
    · rw [h2, h1]; exact ⟨-1, rfl, rfl⟩
    · rw [h2, h1]; exact ⟨j, rfl, by simp⟩
  obtain ⟨j, h1, h2⟩ := h100
  simp only [F46, F85, h1, Option.bind_some, h2, Bool.not_not]

end Go.Idl

namespace Go.Idl

open Go

def lt8 (a b : Str) : Prop := Op.bytesLess a b = true

instance (a b : Str) : Decidable (lt8 a b) := inferInstanceAs (Decidable (Op.bytesLess a b = true))

theorem lt8_iff (a b : Str) : lt8 a b ↔ a < b := by rw [lt8, Go.Proofs.bytesLess_eq, decide_eq_true_eq]

theorem lt8_irrefl (a : Str) : ¬ lt8 a a := by rw [lt8_iff]; exact List.lt_irrefl a

theorem lt8_trans {a b c : Str} (h : lt8 a b) (k : lt8 b c) : lt8 a c := by rw [lt8_iff] at *; exact List.lt_trans h k

theorem lt8_tri {a b : Str} (h : ¬ lt8 a b) (hne : ¬ a = b) : lt8 b a := by
  rw [lt8_iff] at *
  have h1 : b ≤ a := List.not_lt.1 h
  rcases List.le_iff_lt_or_eq.1 h1 with h2 | h2
  · exact h2
  · exact absurd h2.symm hne

abbrev Rise (l : List Str) : Prop := l.Pairwise lt8

theorem rise_uniq : ∀ {l m : List Str}, Rise l → Rise m → (∀ x, x ∈ l ↔ x ∈ m) → l = m
  | [], [], _, _, _ => rfl
  | [], y :: m, _, _, h => by have := (h y).2 (by simp); simp at this
  | x :: l, [], _, _, h => by have := (h x).1 (by simp); simp at this
  | x :: l, y :: m, hl, hm, h => by
    rw [Rise, List.pairwise_cons] at hl hm
    have hxy : x = y := by
      have h1 := (h x).1 (by simp)
      have h2 := (h y).2 (by simp)
      rcases List.mem_cons.1 h1 with h1 | h1
      · exact h1
      · rcases List.mem_cons.1 h2 with h2 | h2
        · exact h2.symm
        · exact absurd (lt8_trans (hm.1 x h1) (hl.1 y h2)) (lt8_irrefl y)
    subst hxy
    rw [rise_uniq hl.2 hm.2 fun z => ?_]
    constructor
    · intro hz
      have := (h z).1 (by simp [hz])
      rcases List.mem_cons.1 this with e | e
      · exact absurd (e ▸ hl.1 z hz) (lt8_irrefl _)
      · exact e
    · intro hz
      have := (h z).2 (by simp [hz])
      rcases List.mem_cons.1 this with e | e
      · exact absurd (e ▸ hm.1 z hz) (lt8_irrefl _)
      · exact e

theorem compT_mem' : ∀ (t : List Str) (p x : Str), x ∈ t → x = p ∨ x ∈ compT p t
  | [], _, _, h => by simp at h
  | y :: t, p, x, h => by
    simp only [compT]
    rcases List.mem_cons.1 h with h | h
    · by_cases e : y = p
      · exact .inl (h.trans e)
      · rw [if_neg e]; exact .inr (by simp [h])
    · rcases compT_mem' t y x h with h | h
      · by_cases e : y = p
        · exact .inl (h.trans e)
        · rw [if_neg e]; exact .inr (by simp [h])
      · split
        · exact .inr h
        · exact .inr (by simp [h])

theorem compT_rise : ∀ (t : List Str) (p : Str), (p :: t).Pairwise (fun a b => a ≤ b) → Rise (compT p t) ∧ ∀ x ∈ compT p t, lt8 p x
  | [], p, _ => by simp [compT, Rise]
  | y :: t, p, h => by
    rw [List.pairwise_cons] at h
    obtain ⟨h1, h2⟩ := compT_rise t y h.2
    have hpy := h.1 y (by simp)
    simp only [compT]
    by_cases e : y = p
    · rw [if_pos e]
      exact ⟨h1, fun x hx => e ▸ h2 x hx⟩
    · rw [if_neg e]
      have hlt : lt8 p y := by
        rw [lt8_iff]
        rcases List.le_iff_lt_or_eq.1 hpy with h | h
        · exact h
        · exact absurd h.symm e
      rw [Rise, List.pairwise_cons]
      refine ⟨⟨h2, h1⟩, fun x hx => ?_⟩
      rcases List.mem_cons.1 hx with hx | hx
      · exact hx ▸ hlt
      · exact lt8_trans hlt (h2 x hx)

theorem compT_mem : ∀ (t : List (List UInt8)) (p x : List UInt8), x ∈ compT p t → x ∈ t
  | [], _, _, h => by simp [compT] at h
  | y :: t, p, x, h => by
    simp only [compT] at h
    split at h
    · exact List.mem_cons_of_mem _ (compT_mem t y x h)
    · rcases List.mem_cons.1 h with h | h
      · rw [h]; exact List.mem_cons_self
      · exact List.mem_cons_of_mem _ (compT_mem t y x h)

theorem compact_mem {l : List (List UInt8)} {x : List UInt8} (h : x ∈ compactS l) : x ∈ l := by
  cases l with
  | nil => simp [compactS] at h
  | cons y t =>
    rcases List.mem_cons.1 h with h | h
    · rw [h]; exact List.mem_cons_self
    · exact List.mem_cons_of_mem _ (compT_mem t y x h)

theorem compact_sort (l : List Str) : Rise (compactS (sortS l)) ∧ ∀ x, x ∈ compactS (sortS l) ↔ x ∈ l := by
  have hs : (sortS l).Pairwise (fun a b => a ≤ b) := by
    have := List.pairwise_mergeSort (le := fun (x y : Str) => decide (x ≤ y)) (fun a b c h1 h2 => by simp only [decide_eq_true_eq] at *; exact List.le_trans h1 h2) (fun a b => by simp only [Bool.or_eq_true, decide_eq_true_eq]; exact List.le_total a b) l
    exact this.imp fun h => by simpa using h
  have hm : ∀ x, x ∈ sortS l ↔ x ∈ l := fun x => by simp [sortS]
  generalize sortS l = m at hs hm
  cases m with
  | nil =>
    refine ⟨by simp [compactS, Rise], fun x => ?_⟩
    rw [← hm x]; simp [compactS]
  | cons p t =>
    obtain ⟨h1, h2⟩ := compT_rise t p hs
    refine ⟨by rw [compactS, Rise, List.pairwise_cons]; exact ⟨h2, h1⟩, fun x => ?_⟩
    rw [← hm x]
    constructor
    · exact fun h => compact_mem h
    · intro h
      rw [compactS, List.mem_cons]
      rcases List.mem_cons.1 h with h | h
      · exact .inl h
      · exact compT_mem' t p x h

/-! ### In order, each once -/

def U (l : List Str) : List Str := compactS (sortS l)

theorem U_rise (l : List Str) : Rise (U l) := (compact_sort l).1

theorem U_mem (l : List Str) (x : Str) : x ∈ U l ↔ x ∈ l := (compact_sort l).2 x

theorem U_of_rise {l : List Str} (h : Rise l) : U l = l := rise_uniq (U_rise l) h fun x => U_mem l x

theorem U_congr {l m : List Str} (h : ∀ x, x ∈ l ↔ x ∈ m) : U l = U m := rise_uniq (U_rise l) (U_rise m) fun x => by rw [U_mem, U_mem, h]

theorem U_nil : U [] = [] := U_of_rise (by simp [Rise])

theorem rise_nodup {l : List Str} (h : Rise l) : l.Nodup := h.imp fun {a b} hab e => by subst e; exact lt8_irrefl _ hab

theorem U_perm {l : List Str} (h : l.Nodup) : (U l).Perm l := (List.perm_ext_iff_of_nodup (rise_nodup (U_rise l)) h).2 fun x => U_mem l x

theorem nodup_len : ∀ {l m : List Str}, l.Nodup → (∀ x, x ∈ l → x ∈ m) → l.length ≤ m.length
  | [], _, _, _ => Nat.zero_le _
  | x :: l, m, hd, hs => by
    rw [List.nodup_cons] at hd
    have hx := hs x (by simp)
    have h1 := List.length_erase_of_mem hx
    have h2 : 0 < m.length := List.length_pos_of_mem hx
    have h3 := nodup_len (m := m.erase x) hd.2 fun y hy => (List.mem_erase_of_ne (by rintro rfl; exact hd.1 hy)).2 (hs y (by simp [hy]))
    simp only [List.length_cons]
    omega

theorem U_len_le (l : List Str) : (U l).length ≤ l.length := nodup_len (rise_nodup (U_rise l)) fun x hx => (U_mem l x).1 hx

theorem not_nodup : ∀ {l : List Str}, ¬ l.Nodup → ∃ m : List Str, m.length < l.length ∧ ∀ x, x ∈ l → x ∈ m
  | [], h => absurd List.nodup_nil h
  | x :: l, h => by
    by_cases hx : x ∈ l
    · exact ⟨l, by simp, fun y hy => by rcases List.mem_cons.1 hy with rfl | hy <;> assumption⟩
    · obtain ⟨m, h1, h2⟩ := not_nodup (l := l) fun hn => h (List.nodup_cons.2 ⟨hx, hn⟩)
      exact ⟨x :: m, by simp; omega, fun y hy => by
        rcases List.mem_cons.1 hy with rfl | hy
        · simp
        · exact List.mem_cons_of_mem _ (h2 y hy)⟩

theorem U_len_nodup (l : List Str) : (U l).length < l.length ↔ ¬ l.Nodup := by
  constructor
  · intro h hn
    have := (U_perm hn).length_eq
    omega
  · intro h
    obtain ⟨m, h1, h2⟩ := not_nodup h
    have := nodup_len (rise_nodup (U_rise l)) fun x hx => h2 x ((U_mem l x).1 hx)
    omega

theorem rise_adj (l : List Str) : Rise l ↔ ∀ i, 1 ≤ i → (h : i < l.length) → lt8 (l[i - 1]'(by omega)) l[i] := by
  constructor
  · intro h i h1 h2
    exact List.pairwise_iff_getElem.1 h (i - 1) i (by omega) h2 (by omega)
  · intro h
    rw [Rise, List.pairwise_iff_getElem]
    intro i j hi hj hij
    obtain ⟨d, rfl⟩ : ∃ d, j = i + 1 + d := ⟨j - i - 1, by omega⟩
    induction d with
    | zero => have := h (i + 1) (by omega) (by omega); simpa using this
    | succ d ih =>
      have h1 := ih (by omega) (by omega)
      have h2 := h (i + 1 + (d + 1)) (by omega) hj
      exact lt8_trans h1 (by simpa using h2)

theorem loopO_allI {ρ : Type} {step : Int → Option (Int ⊕ ρ)} (k n : Nat) (p : Nat → Prop) [∀ i, Decidable (p i)] (bad good : ρ) (hn : n ≤ 1000000000)
    (hs : ∀ i : Nat, k ≤ i → i < n → step (i : Int) = some (if p i then .inl (IntKind.i64.wrap ((i : Int) + 1)) else .inr bad))
    (hf : ∀ i : Nat, n ≤ i → step (i : Int) = some (.inr good)) : ∃ r, loopO step (k : Int) = some r ∧ ((∀ i, k ≤ i → i < n → p i) ∧ r = good ∨ (¬ ∀ i, k ≤ i → i < n → p i) ∧ r = bad) := by
  refine loopO_inv (fun s : Int => ∃ i : Nat, k ≤ i ∧ s = (i : Int) ∧ ∀ j, k ≤ j → j < i → j < n → p j) (fun s : Int => n - s.toNat) ?_ ⟨k, Nat.le_refl _, rfl, fun j h1 h2 => by omega⟩
  rintro s ⟨i, hi, rfl, hI⟩
  by_cases h : i < n
  · rw [hs i hi h]
    by_cases hp : p i
    · rw [if_pos hp, wrap_nat (by omega)]
      refine .inl ⟨_, rfl, ⟨i + 1, by omega, rfl, fun j h1 h2 h3 => ?_⟩, by simp; omega⟩
      rcases Nat.lt_or_ge j i with h4 | h4
      · exact hI j h1 h4 h3
      · have : j = i := by omega
        subst this; exact hp
    · rw [if_neg hp]
      exact .inr ⟨_, rfl, .inr ⟨fun h' => hp (h' i hi h), rfl⟩⟩
  · rw [hf i (by omega)]
    exact .inr ⟨_, rfl, .inl ⟨fun j h1 h2 => hI j h1 (by omega) h2, rfl⟩⟩

instance (l : List Str) : Decidable (Rise l) := inferInstanceAs (Decidable (l.Pairwise lt8))

end Go.Idl

namespace Go.Idl

open Go

theorem F48_eq (l : List Str) (hl : l.length ≤ 1000000) : F48 l = some (decide (Rise l)) := by
  unfold F48
  obtain ⟨r, h1, h2⟩ := loopO_allI (step := fun (s : Int) => F48_b4 l s) 1 l.length (fun i => lt8 (l.getD (i - 1) []) (l.getD i [])) (.inr false) (.inl ()) (by omega)
    (fun i hi1 hi => by
      simp only [F48_b4]
      have hw : IntKind.i64.wrap ((i : Int) - 1) = ((i - 1 : Nat) : Int) := by rw [wrap_i64 (by omega) (by omega)]; omega
      rw [if_pos (by omega), hw, gd_pos (by omega), gd_pos (by omega), Int.toNat_natCast, Int.toNat_natCast]
      by_cases h : lt8 (l.getD (i - 1) []) (l.getD i [])
      · rw [if_pos h]
        simp only [lt8] at h
        rw [if_neg (fun hh => hh h)]
      · rw [if_neg h]
        simp only [lt8] at h
        rw [if_pos h])
    (fun i hi => by simp only [F48_b4]; rw [if_neg (by omega)])
  rw [show ((1 : Nat) : Int) = 1 from rfl] at h1
  rw [h1]
  have hr : Rise l ↔ ∀ i, 1 ≤ i → i < l.length → lt8 (l.getD (i - 1) []) (l.getD i []) := by
    rw [rise_adj]
    constructor
    · intro h i a b
      have := h i a b
      rwa [getD_some b, getD_some (by omega)]
    · intro h i a b
      have := h i a b
      rwa [getD_some b, getD_some (by omega)] at this
  rcases h2 with ⟨h, rfl⟩ | ⟨h, rfl⟩
  · rw [← hr] at h
    simp [F48_k4, h]
  · rw [← hr] at h
    simp [h]

def okA (a : S50) : Bool := nameB a.fName && decide (smallS a.fName = a.fName) && decide (1 ≤ a.fValues.length ∧ a.fValues.length ≤ 16) && a.fValues.all valB && decide (Rise a.fValues)

def rightB (e : List S50) : Bool := decide (e.length ≤ 24) && e.all okA && decide (Rise (e.map (·.fName)))

structure SzE (e : List S50) : Prop where
  len : e.length ≤ 1000000
  name : ∀ a, a ∈ e → a.fName.length ≤ 1000000
  vals : ∀ a, a ∈ e → a.fValues.length ≤ 1000000

theorem runI_all {α β : Type} (p : α → Bool) (g : α → β) (bad : Int) (fin : List β → (List β) ⊕ Int) : ∀ (l : List α) (i : Nat) (a : List β),
    runI (fun _ a x => if p x = true then .inl (a ++ [g x]) else .inr (.inr bad)) fin i a l = if l.all p = true then fin (a ++ l.map g) else .inr bad
  | [], _, a => by simp [runI]
  | x :: l, i, a => by
    rw [runI_cons]
    by_cases h : p x = true
    · rw [if_pos h]
      simp only [runI_all p g bad fin l (i + 1), List.all_cons, h, Bool.true_and, List.append_assoc, List.map_cons]
      rfl
    · rw [if_neg h]
      simp only [List.all_cons, Bool.eq_false_iff.2 h, Bool.false_and, Bool.false_eq_true, if_false]

theorem F17_eq (e : List S50) (hs : SzE e) : F17 e = some (if rightB e = true then 0 else 2) := by
  have h1 := hs.len
  unfold F17
  rw [loopO_run e (fun _ a x => if okA x = true then .inl (a ++ [x.fName]) else .inr (.inr 2)) .inl (fun i a => a.length = i) (by omega) rfl
    (fun i hi a hI => by
      have hm := List.getElem_mem hi
      have hn := hs.name _ hm
      have hv := hs.vals _ hm
      simp only [F17_b5]
      rw [if_pos (by omega), gd_pos (by omega), gd_pos (by simp only [List.length_cons, List.length_nil]; omega), Int.toNat_natCast, getD_some hi, F45_eq _ hn]
      simp only [Option.bind_some]
      by_cases g1 : nameB e[i].fName = true
      · rw [if_neg (by simp [g1]), F41_eq _ hn]
        simp only [Option.bind_some]
        by_cases g2 : smallS e[i].fName = e[i].fName
        · rw [if_neg (by simp only [g2, not_true, not_false_eq_true])]
          by_cases g3 : (e[i].fValues.length : Int) < 1
          · rw [if_pos g3]
            have : ¬ okA e[i] = true := by simp [okA]; omega
            rw [if_neg this]
          · rw [if_neg g3]
            by_cases g4 : 16 < (e[i].fValues.length : Int)
            · rw [if_pos g4]
              have : ¬ okA e[i] = true := by simp [okA]; omega
              rw [if_neg this]
            · rw [if_neg g4, F46_eq _ hv]
              simp only [Option.bind_some]
              by_cases g5 : e[i].fValues.all valB = true
              · rw [if_neg (by simp only [g5, not_true, not_false_eq_true]), F48_eq _ hv]
                simp only [Option.bind_some]
                by_cases g6 : Rise e[i].fValues
                · rw [if_neg (by simp only [g6, decide_true, not_true, not_false_eq_true])]
                  have g34 : 1 ≤ e[i].fValues.length ∧ e[i].fValues.length ≤ 16 := by omega
                  have : okA e[i] = true := by simp only [okA, g1, g2, g5, g6, g34, decide_true, Bool.true_and, and_self]
                  rw [if_pos this]
                · rw [if_pos (by simp only [g6, decide_false, Bool.false_eq_true, not_false_eq_true])]
                  have : ¬ okA e[i] = true := by simp only [okA, g6, decide_false, Bool.and_false, Bool.false_eq_true, not_false_eq_true]
                  rw [if_neg this]
              · rw [if_pos g5]
                have : ¬ okA e[i] = true := by simp only [okA, Bool.eq_false_iff.2 g5, Bool.and_false, Bool.false_and, Bool.false_eq_true, not_false_eq_true]
                rw [if_neg this]
        · rw [if_pos g2]
          have : ¬ okA e[i] = true := by simp only [okA, g2, decide_false, Bool.and_false, Bool.false_and, Bool.false_eq_true, not_false_eq_true]
          rw [if_neg this]
      · rw [if_pos g1]
        have : ¬ okA e[i] = true := by simp only [okA, Bool.eq_false_iff.2 g1, Bool.false_and, Bool.false_eq_true, not_false_eq_true]
        rw [if_neg this])
    (fun i hi a a' hI h => by
      split at h
      · simp only [Sum.inl.injEq] at h; subst h; simp [hI]
      · cases h)
    (fun a hI => by simp only [F17_b5]; rw [if_neg (by omega)])]
  rw [runI_all]
  simp only [List.nil_append]
  cases g : e.all okA with
  | false => simp [rightB, g]
  | true =>
    simp only [if_true, Option.bind_some, Sum.elim_inl, F17_k5]
    by_cases g2 : 24 < (e.length : Int)
    · have : rightB e = false := by simp [rightB]; omega
      rw [if_pos g2, this]; rfl
    · rw [if_neg g2, F48_eq _ (by simpa using hs.len)]
      simp only [Option.bind_some]
      have g3 : decide (e.length ≤ 24) = true := by simp; omega
      by_cases g4 : Rise (e.map (·.fName))
      · simp [rightB, g, g3, g4]
      · simp [rightB, g, g3, g4]

end Go.Idl

namespace Go.Idl

open Go

end Go.Idl

namespace Go.Idl

open Go

section

variable {α : Type} (key : α → Str) (k : Str) (new : α)

def insG : List α → List α
  | [] => [new]
  | x :: l => if lt8 (key x) k then x :: insG l else if key x = k then new :: l else new :: x :: l

def stepG (s : List α × Bool) (x : α) : List α × Bool :=
  let s1 := if s.2 = false ∧ ¬ lt8 (key x) k then (s.1 ++ [new], true) else s
  if key x = k then s1 else (s1.1 ++ [x], s1.2)

end

theorem runI_inl {α σ ρ : Type} (g : σ → α → σ) (fin : σ → ρ) : ∀ (l : List α) (i : Nat) (a : σ), runI (fun _ a x => .inl (g a x)) fin i a l = fin (l.foldl g a)
  | [], _, _ => rfl
  | x :: l, i, a => by rw [runI_cons, List.foldl_cons]; exact runI_inl g fin l (i + 1) (g a x)

def setE (e : List S50) (n : Str) (v : List Str) : List S50 := if v = [] then e.filter (fun x => !decide (x.fName = n)) else insG (·.fName) n ⟨n, v⟩ e

end Go.Idl

namespace Go.Idl

open Go

def getE : List S50 → Str → List Str
  | [], _ => []
  | a :: e, n => if a.fName = n then a.fValues else getE e n

theorem F23_eq (e : List S50) (n : Str) (hl : e.length ≤ 1000000) (hn : n.length ≤ 1000000) : F23 e n = some (getE e (smallS n)) := by
  unfold F23
  rw [loopO_find e (fun _ x => if x.fName = smallS n then some (.inr x.fValues) else none) (.inl ()) (by omega)
    (fun i hi => by
      simp only [F23_b4]
      rw [if_pos (by omega), gd_pos (by omega), Int.toNat_natCast, getD_some hi, F50_eq n hn]
      simp only [Option.bind_some]
      by_cases h : e[i].fName = smallS n
      · rw [if_pos h, if_pos h]
      · rw [if_neg h, if_neg h])
    (by simp only [F23_b4]; rw [if_neg (by omega)])]
  have : ∀ (l : List S50) (i : Nat), (Sum.elim (fun (_ : Unit) => F23_k4) (fun (q : List Str) => some q) (findI (fun _ x => if x.fName = smallS n then some (.inr x.fValues) else none) (.inl ()) i l)) = some (getE l (smallS n)) := by
    intro l
    induction l with
    | nil => intro i; rfl
    | cons x l ih =>
      intro i
      rw [findI_cons]
      by_cases h : x.fName = smallS n
      · simp [getE, h]
      · simp only [getE, h, if_false]
        exact ih (i + 1)
  exact this e 0

theorem F22_eq (e : List S50) (n : Str) (hs : SzE e) (hn : n.length ≤ 1000000) : F22 e n = some (getE e (smallS n)) := by
  have hl := hs.len
  unfold F22
  rw [loopO_find e (fun _ x => if x.fName = smallS n then some (.inr x.fValues) else none) (.inl ()) (by omega)
    (fun i hi => by
      have hv := hs.vals _ (List.getElem_mem hi)
      simp only [F22_b4]
      rw [if_pos (by omega), gd_pos (by omega), Int.toNat_natCast, getD_some hi, F41_eq n hn]
      simp only [Option.bind_some]
      by_cases h : e[i].fName = smallS n
      · rw [if_pos h, if_pos h, F56, gd_pos (by omega)]
        rfl
      · rw [if_neg h, if_neg h])
    (by simp only [F22_b4]; rw [if_neg (by omega)])]
  have : ∀ (l : List S50) (i : Nat), (Sum.elim (fun (_ : Unit) => F22_k4) (fun (q : List Str) => some q) (findI (fun _ x => if x.fName = smallS n then some (.inr x.fValues) else none) (.inl ()) i l)) = some (getE l (smallS n)) := by
    intro l
    induction l with
    | nil => intro i; rfl
    | cons x l ih =>
      intro i
      rw [findI_cons]
      by_cases h : x.fName = smallS n
      · simp [getE, h]
      · simp only [getE, h, if_false]
        exact ih (i + 1)
  exact this e 0

theorem eq_getD {α : Type} {a b : List α} (d : α) (hl : a.length = b.length) : a = b ↔ ∀ i, 0 ≤ i → i < a.length → a.getD i d = b.getD i d := by
  constructor
  · rintro rfl i _ _; rfl
  · intro h
    refine List.ext_getElem hl fun i h1 h2 => ?_
    have := h i (by omega) h1
    rwa [getD_some h1, getD_some h2] at this

theorem F21_eq (a b : List Str) (ha : a.length ≤ 1000000) : F21 a b = some (decide (a = b)) := by
  unfold F21
  by_cases hc : (a.length : Int) = b.length
  · rw [if_neg (by simpa using hc)]
    obtain ⟨r, q1, q2⟩ := loopO_allI (step := fun (s : Int) => F21_b8 a b s) 0 a.length (fun i => a.getD i [] = b.getD i []) (.inr false) (.inl ()) (by omega)
      (fun i _ hi => by
        simp only [F21_b8]
        rw [if_pos (by omega), gd_pos (by omega), gd_pos (by omega), Int.toNat_natCast]
        by_cases h : a.getD i [] = b.getD i []
        · rw [if_neg (fun hh => hh h), if_pos h]
        · rw [if_pos h, if_neg h])
      (fun i hi => by simp only [F21_b8]; rw [if_neg (by omega)])
    rw [show ((0 : Nat) : Int) = 0 from rfl] at q1
    rw [q1]
    have he := eq_getD (a := a) (b := b) [] (by omega)
    rcases q2 with ⟨h, rfl⟩ | ⟨h, rfl⟩
    · rw [← he] at h; simp [F21_k8, h]
    · rw [← he] at h; simp [h]
  · rw [if_pos hc]
    have : ¬ a = b := by rintro rfl; exact hc rfl
    simp [this]

theorem F60_eq (a b : List Str) (ha : a.length ≤ 1000000) : F60 a b = some (decide (a = b)) := by
  unfold F60
  by_cases hc : (a.length : Int) = b.length
  · rw [if_neg (by simpa using hc)]
    obtain ⟨r, q1, q2⟩ := loopO_allI (step := fun (s : Int) => F60_b8 a b s) 0 a.length (fun i => a.getD i [] = b.getD i []) (.inr false) (.inl ()) (by omega)
      (fun i _ hi => by
        simp only [F60_b8]
        rw [if_pos (by omega), gd_pos (by omega), gd_pos (by omega), Int.toNat_natCast]
        by_cases h : a.getD i [] = b.getD i []
        · rw [if_neg (fun hh => hh h), if_pos h]
        · rw [if_pos h, if_neg h])
      (fun i hi => by simp only [F60_b8]; rw [if_neg (by omega)])
    rw [show ((0 : Nat) : Int) = 0 from rfl] at q1
    rw [q1]
    have he := eq_getD (a := a) (b := b) [] (by omega)
    rcases q2 with ⟨h, rfl⟩ | ⟨h, rfl⟩
    · rw [← he] at h; simp [F60_k8, h]
    · rw [← he] at h; simp [h]
  · rw [if_pos hc]
    have : ¬ a = b := by rintro rfl; exact hc rfl
    simp [this]

theorem S50_eq {x y : S50} : x = y ↔ x.fName = y.fName ∧ x.fValues = y.fValues := by cases x; cases y; simp

theorem F16_eq (a b : List S50) (hs : SzE a) : F16 a b = some (decide (a = b)) := by
  have ha := hs.len
  unfold F16
  by_cases hc : (a.length : Int) = b.length
  · rw [if_neg (by simpa using hc)]
    obtain ⟨r, q1, q2⟩ := loopO_allI (step := fun (s : Int) => F16_b8 a b s) 0 a.length (fun i => a.getD i S50.zero = b.getD i S50.zero) (.inr false) (.inl ()) (by omega)
      (fun i _ hi => by
        have hv := hs.vals _ (List.getElem_mem hi)
        simp only [F16_b8]
        rw [if_pos (by omega), gd_pos (by omega), gd_pos (by omega), Int.toNat_natCast]
        by_cases h1 : (a.getD i S50.zero).fName = (b.getD i S50.zero).fName
        · rw [if_neg (fun hh => hh h1), F21_eq _ _ (by rw [getD_some hi]; exact hv)]
          simp only [Option.bind_some]
          by_cases h2 : (a.getD i S50.zero).fValues = (b.getD i S50.zero).fValues
          · rw [if_neg (by simp only [h2, decide_true, not_true, not_false_eq_true]), if_pos (S50_eq.2 ⟨h1, h2⟩)]
          · rw [if_pos (by simp only [h2, decide_false, Bool.false_eq_true, not_false_eq_true]), if_neg (fun hh => h2 (S50_eq.1 hh).2)]
        · rw [if_pos h1, if_neg (fun hh => h1 (S50_eq.1 hh).1)])
      (fun i hi => by simp only [F16_b8]; rw [if_neg (by omega)])
    rw [show ((0 : Nat) : Int) = 0 from rfl] at q1
    rw [q1]
    have he := eq_getD (a := a) (b := b) S50.zero (by omega)
    rcases q2 with ⟨h, rfl⟩ | ⟨h, rfl⟩
    · rw [← he] at h; simp [F16_k8, h]
    · rw [← he] at h; simp [h]
  · rw [if_pos hc]
    have : ¬ a = b := by rintro rfl; exact hc rfl
    simp [this]

/-! ### Entries in order -/

structure SrtE (e : List S50) : Prop where
  names : Rise (e.map (·.fName))
  vals : ∀ a, a ∈ e → a.fValues ≠ [] ∧ Rise a.fValues

theorem getE_mem {e : List S50} (h : Rise (e.map (·.fName))) {a : S50} (ha : a ∈ e) : getE e a.fName = a.fValues := by
  induction e with
  | nil => simp at ha
  | cons x e ih =>
    rw [List.map_cons, Rise, List.pairwise_cons] at h
    rcases List.mem_cons.1 ha with rfl | ha
    · simp [getE]
    · have h1 := h.1 a.fName (List.mem_map_of_mem ha)
      have : ¬ x.fName = a.fName := fun e => lt8_irrefl _ (e ▸ h1)
      simp only [getE, this, if_false]
      exact ih h.2 ha

theorem getE_none {e : List S50} {n : Str} (h : ∀ a, a ∈ e → a.fName ≠ n) : getE e n = [] := by
  induction e with
  | nil => rfl
  | cons x e ih =>
    simp only [getE, h x (by simp), if_false]
    exact ih fun a ha => h a (by simp [ha])

theorem mem_names {e : List S50} (hs : SrtE e) (n : Str) : n ∈ e.map (·.fName) ↔ getE e n ≠ [] := by
  constructor
  · intro h
    obtain ⟨a, ha, rfl⟩ := List.mem_map.1 h
    rw [getE_mem hs.names ha]
    exact (hs.vals a ha).1
  · intro h
    rcases Classical.em (n ∈ e.map (·.fName)) with h' | h'
    · exact h'
    · exfalso
      exact h (getE_none fun a ha e => h' (e ▸ List.mem_map_of_mem ha))

theorem e_form {e : List S50} (h : Rise (e.map (·.fName))) : e = (e.map (·.fName)).map fun n => ⟨n, getE e n⟩ := by
  rw [List.map_map]
  symm
  calc e.map ((fun n => (⟨n, getE e n⟩ : S50)) ∘ fun x => x.fName) = e.map id := List.map_congr_left fun a ha => by
        simp only [Function.comp, getE_mem h ha, id]
    _ = e := List.map_id e

theorem srt_uniq {e f : List S50} (he : SrtE e) (hf : SrtE f) (h : ∀ n, getE e n = getE f n) : e = f := by
  have hn : e.map (·.fName) = f.map (·.fName) := rise_uniq he.names hf.names fun n => by rw [mem_names he, mem_names hf, h]
  rw [e_form he.names, e_form hf.names, hn]
  exact List.map_congr_left fun n _ => by rw [h]

theorem insG_mem {e : List S50} {n : Str} {v : List Str} {a : S50} (h : a ∈ insG (·.fName) n ⟨n, v⟩ e) : a = ⟨n, v⟩ ∨ a ∈ e := by
  induction e with
  | nil => simpa [insG] using h
  | cons x e ih =>
    simp only [insG] at h
    split at h
    · rcases List.mem_cons.1 h with h | h
      · exact .inr (by simp [h])
      · rcases ih h with h | h
        · exact .inl h
        · exact .inr (by simp [h])
    · split at h
      · rcases List.mem_cons.1 h with h | h
        · exact .inl h
        · exact .inr (by simp [h])
      · rcases List.mem_cons.1 h with h | h
        · exact .inl h
        · exact .inr h

theorem insG_rise {e : List S50} {n : Str} {v : List Str} (h : Rise (e.map (·.fName))) : Rise ((insG (·.fName) n ⟨n, v⟩ e).map (·.fName)) := by
  induction e with
  | nil => simp [insG, Rise]
  | cons x e ih =>
    rw [List.map_cons, Rise, List.pairwise_cons] at h
    simp only [insG]
    split
    · rename_i hlt
      rw [List.map_cons, Rise, List.pairwise_cons]
      refine ⟨fun m hm => ?_, ih h.2⟩
      obtain ⟨a, ha, rfl⟩ := List.mem_map.1 hm
      rcases insG_mem ha with rfl | ha
      · exact hlt
      · exact h.1 _ (List.mem_map_of_mem ha)
    · rename_i hlt
      split
      · rename_i he
        rw [List.map_cons, Rise, List.pairwise_cons]
        exact ⟨he ▸ h.1, h.2⟩
      · rename_i hne
        have hnx : lt8 n x.fName := lt8_tri hlt hne
        rw [List.map_cons, List.map_cons, Rise, List.pairwise_cons, List.pairwise_cons]
        refine ⟨fun m hm => ?_, h⟩
        rcases List.mem_cons.1 hm with rfl | hm
        · exact hnx
        · exact lt8_trans hnx (h.1 m hm)

theorem insG_get {e : List S50} {n : Str} {v : List Str} (h : Rise (e.map (·.fName))) (m : Str) : getE (insG (·.fName) n ⟨n, v⟩ e) m = if m = n then v else getE e m := by
  induction e with
  | nil =>
    simp only [insG, getE]
    by_cases hm : m = n
    · simp [hm]
    · rw [if_neg (fun e => hm e.symm), if_neg hm]
  | cons x e ih =>
    rw [List.map_cons, Rise, List.pairwise_cons] at h
    simp only [insG]
    split
    · rename_i hlt
      simp only [getE, ih h.2]
      by_cases hx : x.fName = m
      · subst hx
        have : ¬ x.fName = n := fun e => lt8_irrefl n (e ▸ hlt)
        rw [if_pos rfl, if_neg this, if_pos rfl]
      · rw [if_neg hx, if_neg hx]
    · split
      · rename_i he
        simp only [getE]
        by_cases hm : m = n
        · simp [hm]
        · rw [if_neg (fun e => hm e.symm), if_neg hm, if_neg (fun e => hm (e.symm.trans he))]
      · simp only [getE]
        by_cases hm : m = n
        · simp [hm]
        · rw [if_neg (fun e => hm e.symm), if_neg hm]

theorem setE_srt {e : List S50} {n : Str} {v : List Str} (he : SrtE e) (hv : Rise v) : SrtE (setE e n v) := by
  unfold setE
  split
  · refine ⟨?_, fun a ha => he.vals a (List.mem_filter.1 ha).1⟩
    exact (he.names.sublist (List.filter_sublist.map _))
  · rename_i hne
    refine ⟨insG_rise he.names, fun a ha => ?_⟩
    rcases insG_mem ha with rfl | ha
    · exact ⟨hne, hv⟩
    · exact he.vals a ha

theorem setE_get {e : List S50} {n : Str} {v : List Str} (he : SrtE e) (m : Str) : getE (setE e n v) m = if m = n then v else getE e m := by
  unfold setE
  split
  · rename_i hv
    subst hv
    have key : ∀ (e : List S50), getE (e.filter fun x => !decide (x.fName = n)) m = if m = n then [] else getE e m := by
      intro e
      induction e with
      | nil => simp [getE]
      | cons x e ih =>
        by_cases hx : x.fName = n
        · rw [List.filter_cons_of_neg (by simp [hx]), ih]
          by_cases hm : m = n
          · simp [hm]
          · rw [if_neg hm, if_neg hm]
            simp only [getE]
            rw [if_neg (fun e => hm (e.symm.trans hx))]
        · rw [List.filter_cons_of_pos (by simp [hx])]
          simp only [getE]
          by_cases hxm : x.fName = m
          · rw [if_pos hxm, if_pos hxm, if_neg (fun e => hx (hxm.trans e))]
          · rw [if_neg hxm, if_neg hxm, ih]
    exact key e
  · exact insG_get he.names m

end Go.Idl

namespace Go.Idl

open Go

abbrev Tab := List (Str × List Str)

def keysT (t : Tab) : List Str := t.map (·.1)

def gT (t : Tab) (n : Str) : List Str := (mget t n).getD []

def vT (t : Tab) (n : Str) : List Str := U (gT t n)

def entT (t : Tab) : List S50 := ((U (keysT t)).map fun n => (⟨n, vT t n⟩ : S50)).filter fun a => !decide (a.fValues = [])

def fitT (t : Tab) : Bool := (U (keysT t)).all (fun n => decide ((vT t n).length ≤ 16)) && decide ((entT t).length ≤ 24)

theorem mget_keys {t : Tab} {n : Str} : n ∈ keysT t ↔ (mget t n).isSome = true := by
  induction t with
  | nil => simp [keysT, mget]
  | cons p t ih =>
    simp only [keysT, List.map_cons, List.mem_cons, mget] at ih ⊢
    by_cases h : p.1 = n
    · simp [h]
    · rw [if_neg h, ← ih]
      constructor
      · rintro (e | e)
        · exact absurd e.symm h
        · exact e
      · exact .inr

theorem gT_none {t : Tab} {n : Str} (h : ¬ n ∈ keysT t) : gT t n = [] := by
  rw [mget_keys] at h
  unfold gT
  cases hm : mget t n with
  | none => rfl
  | some v => rw [hm] at h; simp at h

theorem get_filter (g : Str → List Str) (n : Str) : ∀ (L : List Str), getE ((L.map fun n => (⟨n, g n⟩ : S50)).filter fun a => !decide (a.fValues = [])) n = if n ∈ L then g n else []
  | [] => by simp [getE]
  | x :: L => by
    rw [List.map_cons]
    by_cases hg : g x = []
    · rw [List.filter_cons_of_neg (by simp [hg]), get_filter g n L]
      by_cases hx : n = x
      · subst hx
        simp [hg]
      · simp [hx]
    · rw [List.filter_cons_of_pos (by simp [hg])]
      simp only [getE]
      by_cases hx : x = n
      · subst hx
        simp
      · rw [if_neg hx, get_filter g n L]
        have : ¬ n = x := fun e => hx e.symm
        simp [this]

theorem entT_get (t : Tab) (n : Str) : getE (entT t) n = vT t n := by
  unfold entT
  rw [get_filter]
  by_cases h : n ∈ U (keysT t)
  · rw [if_pos h]
  · rw [if_neg h]
    rw [U_mem] at h
    rw [vT, gT_none h, U_nil]

theorem entT_srt (t : Tab) : SrtE (entT t) := by
  constructor
  · have h1 : ((entT t).map (·.fName)).Sublist (((U (keysT t)).map fun n => (⟨n, vT t n⟩ : S50)).map (·.fName)) := List.filter_sublist.map _
    have h2 : ((U (keysT t)).map fun n => (⟨n, vT t n⟩ : S50)).map (·.fName) = U (keysT t) := by rw [List.map_map]; exact List.map_id _
    rw [h2] at h1
    exact (U_rise _).sublist h1
  · intro a ha
    obtain ⟨h1, h2⟩ := List.mem_filter.1 ha
    obtain ⟨n, _, rfl⟩ := List.mem_map.1 h1
    exact ⟨by simpa using h2, U_rise _⟩

structure SzT (t : Tab) : Prop where
  len : t.length ≤ 1000000
  key : ∀ n, n ∈ keysT t → n.length ≤ 1000000
  vals : ∀ n, (gT t n).length ≤ 1000000

theorem F58v_eq (l : List Str) (h : l.length ≤ 1000000) : F58v l = some (U l) := gd_pos (by omega)

theorem F42_eq (t : Tab) (hs : SzT t) : F42 t = some (if fitT t = true then (entT t, 0) else ([], 3)) := by
  have h1 := hs.len
  have hul : (U (keysT t)).length ≤ 1000000 := Nat.le_trans (U_len_le _) (by simpa [keysT] using h1)
  unfold F42
  have h58 : F58k t = some (U (keysT t)) := gd_pos ⟨by omega, fun p hp => by have := hs.key p.1 (List.mem_map_of_mem hp); omega⟩
  rw [h58]
  simp only [Option.bind_some]
  rw [loopO_run (U (keysT t)) (fun _ a n => if (vT t n).length ≤ 16 then .inl (if vT t n = [] then a else a ++ [⟨n, vT t n⟩]) else .inr (.inr ([], 3))) .inl (fun i a => a.length ≤ i) (by omega) (by simp)
    (fun i hi a hI => by
      simp only [F42_b7]
      rw [if_pos (by omega), gd_pos (by omega), Int.toNat_natCast, getD_some hi, F58v_eq _ (by exact hs.vals (U (keysT t))[i])]
      simp only [Option.bind_some]
      rw [show U ((mget t (U (keysT t))[i]).getD []) = vT t (U (keysT t))[i] from rfl]
      by_cases g1 : 16 < ((vT t (U (keysT t))[i]).length : Int)
      · rw [if_pos g1, if_neg (by omega)]
      · rw [if_neg g1, if_pos (show (vT t (U (keysT t))[i]).length ≤ 16 by omega)]
        by_cases g2 : 0 < ((vT t (U (keysT t))[i]).length : Int)
        · have g3 : ¬ vT t (U (keysT t))[i] = [] := by intro e; rw [e] at g2; simp at g2
          rw [if_pos g2, gd_pos (by simp only [List.length_cons, List.length_nil]; omega), if_neg g3]
        · have g3 : vT t (U (keysT t))[i] = [] := List.eq_nil_of_length_eq_zero (by omega)
          rw [if_neg g2, if_pos g3])
    (fun i hi a a' hI h => by
      split at h
      · simp only [Sum.inl.injEq] at h
        subst h
        split
        · omega
        · simp; omega
      · cases h)
    (fun a hI => by simp only [F42_b7]; rw [if_neg (by omega)])]
  have key : ∀ (L : List Str) (i : Nat) (a : List S50), runI (fun _ (a : List S50) n => if (vT t n).length ≤ 16 then .inl (if vT t n = [] then a else a ++ [⟨n, vT t n⟩]) else .inr (.inr (([] : List S50), (3 : Int)))) (.inl : List S50 → List S50 ⊕ (List S50 × Int)) i a L = if L.all (fun n => decide ((vT t n).length ≤ 16)) = true then .inl (a ++ (L.map fun n => (⟨n, vT t n⟩ : S50)).filter fun a => !decide (a.fValues = [])) else .inr ([], 3) := by
    intro L
    induction L with
    | nil => intro i a; simp [runI]
    | cons n L ih =>
      intro i a
      rw [runI_cons]
      by_cases g1 : (vT t n).length ≤ 16
      · rw [if_pos g1]
        simp only [ih, List.all_cons, g1, decide_true, Bool.true_and, List.map_cons]
        by_cases g2 : vT t n = []
        · rw [if_pos g2, List.filter_cons_of_neg (by simp [g2])]
        · rw [if_neg g2, List.filter_cons_of_pos (by simp [g2])]
          simp
      · rw [if_neg g1]
        simp [g1]
  rw [key]
  unfold fitT
  cases g : (U (keysT t)).all fun n => decide ((vT t n).length ≤ 16) with
  | false => simp
  | true =>
    simp only [if_true, Option.bind_some, Sum.elim_inl, F42_k7, List.nil_append, Bool.true_and, decide_eq_true_eq]
    have : ((U (keysT t)).map fun n => (⟨n, vT t n⟩ : S50)).filter (fun a => !decide (a.fValues = [])) = entT t := rfl
    rw [this]
    by_cases g2 : 24 < ((entT t).length : Int)
    · rw [if_pos g2, if_neg (by omega)]
    · rw [if_neg g2, if_pos (by omega)]

theorem fitT_iff (t : Tab) : fitT t = true ↔ (∀ n, (vT t n).length ≤ 16) ∧ (entT t).length ≤ 24 := by
  simp only [fitT, Bool.and_eq_true, List.all_eq_true, decide_eq_true_eq]
  constructor
  · rintro ⟨h1, h2⟩
    refine ⟨fun n => ?_, h2⟩
    by_cases h : n ∈ keysT t
    · exact h1 n ((U_mem _ _).2 h)
    · rw [vT, gT_none h, U_nil]; simp
  · rintro ⟨h1, h2⟩
    exact ⟨fun n _ => h1 n, h2⟩

/-! ### Tables -/

theorem gT_set (t : Tab) (k : Str) (v : List Str) (n : Str) : gT (mset t k v) n = if n = k then v else gT t n := by
  induction t with
  | nil =>
    simp only [mset, gT, mget]
    by_cases h : k = n
    · simp [h]
    · rw [if_neg h, if_neg (fun e => h e.symm)]
  | cons p t ih =>
    simp only [mset]
    by_cases h : p.1 = k
    · rw [if_pos h]
      simp only [gT, mget]
      by_cases hn : k = n
      · simp [hn]
      · rw [if_neg hn, if_neg (fun e => hn e.symm), h, if_neg hn]
    · rw [if_neg h]
      simp only [gT, mget] at ih ⊢
      by_cases hn : p.1 = n
      · rw [if_pos hn, if_pos hn, if_neg (fun e => h (hn.trans e))]
      · rw [if_neg hn, if_neg hn]
        exact ih

theorem keys_set (t : Tab) (k : Str) (v : List Str) (n : Str) : n ∈ keysT (mset t k v) ↔ n = k ∨ n ∈ keysT t := by
  induction t with
  | nil => simp [mset, keysT]
  | cons p t ih =>
    simp only [mset, keysT] at ih ⊢
    by_cases h : p.1 = k
    · rw [if_pos h]
      simp [h]
    · rw [if_neg h]
      simp only [List.map_cons, List.mem_cons, ih]
      constructor
      · rintro (h | h | h)
        · exact .inr (.inl h)
        · exact .inl h
        · exact .inr (.inr h)
      · rintro (h | h | h)
        · exact .inr (.inl h)
        · exact .inl h
        · exact .inr (.inr h)

theorem set_len (t : Tab) (k : Str) (v : List Str) : (mset t k v).length ≤ t.length + 1 := by
  induction t with
  | nil => simp [mset]
  | cons p t ih =>
    simp only [mset]
    split
    · simp
    · simp; omega

theorem gT_del {t : Tab} (hd : (keysT t).Nodup) (k n : Str) : gT (mdel t k) n = if n = k then [] else gT t n := by
  induction t with
  | nil => simp [mdel, gT, mget]
  | cons p t ih =>
    simp only [keysT, List.map_cons, List.nodup_cons] at hd
    simp only [mdel]
    by_cases h : p.1 = k
    · rw [if_pos h]
      by_cases hn : n = k
      · subst hn
        rw [if_pos rfl]
        exact gT_none (h ▸ hd.1)
      · rw [if_neg hn]
        simp only [gT, mget]
        rw [if_neg (fun e => hn (e.symm.trans h))]
    · rw [if_neg h]
      have := ih hd.2
      simp only [gT, mget] at this ⊢
      by_cases hn : p.1 = n
      · rw [if_pos hn, if_pos hn, if_neg (fun e => h (hn.trans e))]
      · rw [if_neg hn, if_neg hn]
        exact this

theorem keys_nodup {t : Tab} (h : (keysT t).Nodup) (k : Str) (v : List Str) : (keysT (mset t k v)).Nodup := by
  induction t with
  | nil => simp [mset, keysT]
  | cons p t ih =>
    simp only [keysT, List.map_cons, List.nodup_cons] at h
    simp only [mset]
    by_cases hp : p.1 = k
    · rw [if_pos hp]
      simp only [keysT, List.map_cons, List.nodup_cons]
      exact ⟨hp ▸ h.1, h.2⟩
    · rw [if_neg hp]
      simp only [keysT, List.map_cons, List.nodup_cons]
      refine ⟨fun hm => ?_, ih h.2⟩
      rcases (keys_set t k v p.1).1 hm with e | e
      · exact hp e
      · exact h.1 e

end Go.Idl

namespace Go.Idl

open Go

def okR (a : S50) : Bool := nameB a.fName && a.fValues.all valB

structure SzO (l : List S50) : Prop where
  len : l.length ≤ 1000000
  name : ∀ a, a ∈ l → a.fName.length ≤ 1000000
  tot : (l.map (·.fValues)).flatten.length ≤ 1000000

theorem SzO.sz {l : List S50} (h : SzO l) : SzE l := ⟨h.len, h.name, fun a ha => by
  have h1 := h.tot
  clear h
  induction l with
  | nil => simp at ha
  | cons x l ih =>
    rw [List.map_cons, List.flatten_cons, List.length_append] at h1
    rcases List.mem_cons.1 ha with rfl | ha
    · omega
    · exact ih ha (by omega)⟩

theorem F52_eq (l : List S50) (hs : SzE l) : F52 l = some (l.all okR) := by
  have hl := hs.len
  have h105 : ∃ j : Int, F105 l = some j ∧ decide (0 ≤ j) = !l.all okR := by
    unfold F105
    rw [loopO_find l (fun i x => if okR x = true then none else some (.inr (i : Int))) (.inl ()) (by omega)
      (fun i hi => by
        have hm := List.getElem_mem hi
        simp only [F105_b4]
        rw [if_pos (by omega), gd_pos (by omega), Int.toNat_natCast, getD_some hi]
        simp only [F89, F53, F45_eq _ (hs.name _ hm), Option.bind_some]
        by_cases h1 : nameB l[i].fName = true
        · rw [if_pos h1, F46_eq _ (hs.vals _ hm)]
          simp only [Option.bind_some]
          have : okR l[i] = l[i].fValues.all valB := by simp only [okR, h1, Bool.true_and]
          rw [this]
          cases l[i].fValues.all valB <;> simp
        · rw [if_neg h1]
          have : okR l[i] = false := by simp only [okR, Bool.eq_false_iff.2 h1, Bool.false_and]
          rw [this]
          simp)
      (by simp only [F105_b4]; rw [if_neg (by omega)])]
    rcases findI_place okR l 0 with ⟨h1, h2⟩ | ⟨h1, j, h2⟩
    · rw [h2, h1]; exact ⟨-1, rfl, rfl⟩
    · rw [h2, h1]; exact ⟨j, rfl, by simp⟩
  obtain ⟨j, h1, h2⟩ := h105
  simp only [F52, F88, h1, Option.bind_some, h2, Bool.not_not]

theorem tabS_snoc (l : List S50) (a : S50) : tabS (l ++ [a]) = mset (tabS l) (smallS a.fName) (gT (tabS l) (smallS a.fName) ++ a.fValues) := by
  unfold tabS
  rw [List.foldl_append]
  rfl

theorem list_snoc_ind {α : Type} {p : List α → Prop} (h0 : p []) (h1 : ∀ l x, p l → p (l ++ [x])) (l : List α) : p l := by
  rw [← List.reverse_reverse l]
  induction l.reverse with
  | nil => exact h0
  | cons x m ih => rw [List.reverse_cons]; exact h1 _ _ ih

theorem tabS_get (n : Str) (l : List S50) : gT (tabS l) n = (l.filter fun a => decide (smallS a.fName = n)).flatMap (·.fValues) := by
  induction l using list_snoc_ind with
  | h0 => rfl
  | h1 l a ih =>
    rw [tabS_snoc, gT_set, List.filter_append, List.flatMap_append]
    by_cases h : n = smallS a.fName
    · rw [if_pos h, ← h, ih]
      rw [List.filter_cons_of_pos (by simp [h])]
      simp
    · rw [if_neg h, ih, List.filter_cons_of_neg (by simpa using fun e => h e.symm)]
      simp

theorem tabS_keys (n : Str) (l : List S50) : n ∈ keysT (tabS l) ↔ ∃ a, a ∈ l ∧ smallS a.fName = n := by
  induction l using list_snoc_ind with
  | h0 => simp [tabS, keysT]
  | h1 l a ih =>
    rw [tabS_snoc, keys_set, ih]
    constructor
    · rintro (h | ⟨b, h1, h2⟩)
      · exact ⟨a, by simp, h.symm⟩
      · exact ⟨b, by simp [h1], h2⟩
    · rintro ⟨b, h1, h2⟩
      rcases List.mem_append.1 h1 with h1 | h1
      · exact .inr ⟨b, h1, h2⟩
      · simp at h1; subst h1; exact .inl h2.symm

theorem tabS_nodup (l : List S50) : (keysT (tabS l)).Nodup := by
  induction l using list_snoc_ind with
  | h0 => simp [tabS, keysT]
  | h1 l a ih => rw [tabS_snoc]; exact keys_nodup ih _ _

theorem tabS_len (l : List S50) : (tabS l).length ≤ l.length := by
  induction l using list_snoc_ind with
  | h0 => simp [tabS]
  | h1 l a ih => rw [tabS_snoc]; have := set_len (tabS l) (smallS a.fName) (gT (tabS l) (smallS a.fName) ++ a.fValues); simp; omega

theorem gT_le (n : Str) (l : List S50) : (gT (tabS l) n).length ≤ (l.map (·.fValues)).flatten.length := by
  rw [tabS_get]
  induction l with
  | nil => simp
  | cons x l ih =>
    rw [List.map_cons, List.flatten_cons, List.length_append]
    by_cases hx : smallS x.fName = n
    · rw [List.filter_cons_of_pos (by simp [hx])]
      simp only [List.flatMap_cons, List.length_append]
      omega
    · rw [List.filter_cons_of_neg (by simp [hx])]
      omega

theorem tabS_sz {l : List S50} (h : SzO l) : SzT (tabS l) := by
  refine ⟨Nat.le_trans (tabS_len l) h.len, fun n hn => ?_, fun n => Nat.le_trans (gT_le n l) h.tot⟩
  obtain ⟨a, h1, rfl⟩ := (tabS_keys n l).1 hn
  simpa using h.name a h1

theorem F40_eq {l : List S50} (h : SzO l) : F40 l = some (tabS l) := gd_pos ⟨by have := h.len; omega, fun a ha => by have := h.name a ha; omega, by have := h.tot; omega⟩

def orderS (l : List S50) : List S50 × Int := if l.all okR = true then (if fitT (tabS l) = true then (entT (tabS l), 0) else ([], 3)) else ([], 2)

theorem F19_eq (l : List S50) (h : SzO l) : F19 l = some (orderS l) := by
  unfold F19 orderS
  rw [F52_eq l h.sz]
  simp only [Option.bind_some]
  cases g : l.all okR with
  | false => simp
  | true =>
    rw [if_neg (by simp), F40_eq h]
    simp only [Option.bind_some, F42_eq _ (tabS_sz h), if_true]

theorem getE_len {e : List S50} {B : Nat} (h : ∀ a, a ∈ e → a.fValues.length ≤ B) (n : Str) : (getE e n).length ≤ B := by
  induction e with
  | nil => simp [getE]
  | cons x e ih =>
    simp only [getE]
    split
    · exact h x (by simp)
    · exact ih fun a ha => h a (by simp [ha])

end Go.Idl

namespace Go.Idl

open Go

/-! ### Which changes may be -/

def mayB (m : S48) : Bool := decide (1 ≤ m.fKind ∧ m.fKind ≤ 3) && nameB m.fName && decide (m.fValues.length ≤ 16) && m.fValues.all valB && (!decide (m.fKind = 1) || decide (0 < m.fValues.length))

structure SzM (l : List S48) : Prop where
  len : l.length ≤ 1000000
  name : ∀ a, a ∈ l → a.fName.length ≤ 1000000
  vals : ∀ a, a ∈ l → a.fValues.length ≤ 1000000

theorem F36_eq (m : S48) (hn : m.fName.length ≤ 1000000) (hv : m.fValues.length ≤ 1000000) : F36 m = some (mayB m) := by
  unfold F36 mayB
  by_cases h1 : 1 ≤ m.fKind
  · rw [if_pos h1]
    by_cases h2 : m.fKind ≤ 3
    · rw [if_pos h2, F45_eq _ hn]
      have h12 : decide (1 ≤ m.fKind ∧ m.fKind ≤ 3) = true := by simp [h1, h2]
      simp only [Option.bind_some, h12, Bool.true_and]
      by_cases h3 : nameB m.fName = true
      · rw [if_pos h3, h3]
        by_cases h4 : (m.fValues.length : Int) ≤ 16
        · rw [if_pos h4, F46_eq _ hv]
          have h4' : decide (m.fValues.length ≤ 16) = true := by simp; omega
          simp only [Option.bind_some, h4', Bool.true_and]
          by_cases h5 : m.fValues.all valB = true
          · rw [if_pos h5, h5]
            by_cases h6 : m.fKind = 1
            · rw [if_neg (by simp [h6])]
              simp [h6]
            · rw [if_pos h6]
              simp [h6]
          · rw [if_neg h5]
            simp [Bool.eq_false_iff.2 h5]
        · rw [if_neg h4]
          have h4' : decide (m.fValues.length ≤ 16) = false := by simp; omega
          simp [h4']
      · rw [if_neg h3]
        simp [Bool.eq_false_iff.2 h3]
    · rw [if_neg h2]
      simp [h2]
  · rw [if_neg h1]
    simp [h1]

theorem F35_eq (l : List S48) (hs : SzM l) : F35 l = some (l.all mayB) := by
  have hl := hs.len
  have h98 : ∃ j : Int, F98 l = some j ∧ decide (0 ≤ j) = !l.all mayB := by
    unfold F98
    rw [loopO_find l (fun i x => if mayB x = true then none else some (.inr (i : Int))) (.inl ()) (by omega)
      (fun i hi => by
        have hm := List.getElem_mem hi
        simp only [F98_b4]
        rw [if_pos (by omega), gd_pos (by omega), Int.toNat_natCast, getD_some hi]
        simp only [F75, F36_eq _ (hs.name _ hm) (hs.vals _ hm), Option.bind_some]
        cases mayB l[i] <;> simp)
      (by simp only [F98_b4]; rw [if_neg (by omega)])]
    rcases findI_place mayB l 0 with ⟨h1, h2⟩ | ⟨h1, j, h2⟩
    · rw [h2, h1]; exact ⟨-1, rfl, rfl⟩
    · rw [h2, h1]; exact ⟨j, rfl, by simp⟩
  obtain ⟨j, h1, h2⟩ := h98
  simp only [F35, F74, h1, Option.bind_some, h2, Bool.not_not]

/-! ### One change -/

def chS (k : Int) (has v : List Str) : List Str ⊕ Int :=
  if k = 1 then (if ¬ (has ++ v).Nodup then .inr 170 else .inl (has ++ v))
  else if k = 2 then (if (v = [] ∧ has = []) ∨ ¬ v.Nodup ∨ ¬ ∀ s, s ∈ v → s ∈ has then .inr 171 else .inl (if v = [] then [] else has.filter fun s => !decide (s ∈ v)))
  else .inl v

theorem F76_eq (l : List Str) (h : l.length ≤ 1000000) : F76 l = some (decide (¬ l.Nodup)) := by
  unfold F76
  rw [F58v_eq l h]
  simp only [Option.bind_some, Option.some.injEq, decide_eq_decide]
  rw [← U_len_nodup]
  omega

theorem F46s2_eq (v has : List Str) (hv : v.length ≤ 1000000) (hh : has.length ≤ 1000000) : F46s2 v has = some (decide (∀ s, s ∈ v → s ∈ has)) := by
  have hall : decide (∀ s, s ∈ v → s ∈ has) = v.all (fun s => decide (s ∈ has)) := by
    rw [Bool.eq_iff_iff]
    simp [List.all_eq_true]
  have h100 : ∃ j : Int, F100s2 v has = some j ∧ decide (0 ≤ j) = !v.all (fun s => decide (s ∈ has)) := by
    unfold F100s2
    have key : ∃ r, loopO (fun (s : Int × List Str) => F100s2_b4 v s.1 s.2) (0, has) = some r ∧ ((v.all (fun s => decide (s ∈ has)) = true ∧ r = .inl has) ∨ (v.all (fun s => decide (s ∈ has)) = false ∧ ∃ j : Nat, r = .inr (j : Int))) := by
      refine loopO_for3 (step := fun (s : Int × List Str) => F100s2_b4 v s.1 s.2) v.length (fun i a => a = has ∧ (v.take i).all (fun s => decide (s ∈ has)) = true) ⟨rfl, by simp⟩ ?_ ?_
      · rintro i a hi ⟨rfl, hI⟩
        simp only [F100s2_b4]
        rw [if_pos (by omega), gd_pos (by omega), Int.toNat_natCast, getD_some hi]
        simp only [F86s2, F77, Q78_eq _ _ hh, Option.bind_some]
        by_cases h : v[i] ∈ a
        · rw [if_neg (by simp [h]), wrap_nat (by omega)]
          refine .inl ⟨a, rfl, rfl, ?_⟩
          rw [List.take_succ_eq_append_getElem hi, List.all_append, hI]
          simp [h]
        · rw [if_pos (by simp [h])]
          refine .inr ⟨_, rfl, .inr ⟨?_, i, rfl⟩⟩
          rw [Bool.eq_false_iff]
          intro h'
          have := List.all_eq_true.1 h' v[i] (List.getElem_mem _)
          simp [h] at this
      · rintro a ⟨rfl, hI⟩
        simp only [F100s2_b4]
        rw [if_neg (by omega)]
        rw [List.take_length] at hI
        exact ⟨_, rfl, .inl ⟨hI, rfl⟩⟩
    obtain ⟨r, h1, h2⟩ := key
    rw [h1]
    rcases h2 with ⟨h2, rfl⟩ | ⟨h2, j, rfl⟩
    · rw [h2]; exact ⟨-1, rfl, rfl⟩
    · rw [h2]; exact ⟨j, rfl, by simp⟩
  obtain ⟨j, h1, h2⟩ := h100
  simp only [F46s2, F85s2, h1, Option.bind_some, h2, Bool.not_not, hall]

def chT (t : Tab) (k : Int) (n : Str) (v : List Str) : Int × Tab :=
  match chS k (gT t n) v with
  | .inr w => (w, t)
  | .inl x => (0, if k = 2 ∧ v = [] then mdel t n else mset t n x)

theorem F37_eq (t : Tab) (n : Str) (v : List Str) (ht : (gT t n).length ≤ 500000) (hv : v.length ≤ 500000) : F37 t n v = some (chT t 1 n v) := by
  unfold F37 chT chS
  have h56 : F56 ((mget t n).getD []) = some (gT t n) := gd_pos (by show ((gT t n).length : Int) ≤ 1000000; omega)
  rw [h56]
  simp only [Option.bind_some]
  rw [gd_pos (by omega), F76_eq _ (by rw [List.length_append]; omega)]
  simp only [Option.bind_some, if_true]
  by_cases h : (gT t n ++ v).Nodup
  · rw [if_neg (by simp [h])]
    simp only [h, not_true, if_false]
    rw [gd_pos (by omega)]
    rfl
  · rw [if_pos (by simp [h])]
    simp only [h, not_false_eq_true, if_true]

theorem F39_eq (t : Tab) (n : Str) (v : List Str) (hv : v.length ≤ 500000) : F39 t n v = some (chT t 3 n v) := by
  unfold F39 chT chS
  rw [F56, gd_pos (by omega)]
  rfl

theorem F38_eq (t : Tab) (n : Str) (v : List Str) (ht : (gT t n).length ≤ 500000) (hv : v.length ≤ 500000) : F38 t n v = some (chT t 2 n v) := by
  have hg : (mget t n).getD [] = gT t n := rfl
  have h56 : F56 (gT t n) = some (gT t n) := gd_pos (by omega)
  have hk4 : ∀ b : Bool, (b = false → v ≠ [] → ∃ s, s ∈ v ∧ s ∈ gT t n) → F38_k4 t n v b = some (if b = true then (171, t) else (0, if v = [] then mdel t n else mset t n ((gT t n).filter fun s => !decide (s ∈ v)))) := by
    intro b hb
    unfold F38_k4
    cases b with
    | true => simp
    | false =>
      rw [if_neg (by simp)]
      by_cases h : (v.length : Int) = 0
      · have : v = [] := List.eq_nil_of_length_eq_zero (by omega)
        rw [if_pos h]
        simp [this]
      · have hne : v ≠ [] := by rintro rfl; simp at h
        obtain ⟨s, _, hs⟩ := hb rfl hne
        rw [if_neg h, hg, h56]
        simp only [Option.bind_some]
        have h79 : F79 (gT t n) v = some ((gT t n).filter fun s => !decide (s ∈ v)) := gd_pos ⟨by intro e; rw [e] at hs; simp at hs, by omega, by omega⟩
        rw [h79]
        simp [hne]
  have hall := F46s2_eq v (gT t n) (by omega) (by omega)
  have h76 := F76_eq v (by omega)
  unfold F38
  rw [hg]
  have hgoal : chT t 2 n v = if (v = [] ∧ gT t n = []) ∨ ¬ v.Nodup ∨ ¬ (∀ s, s ∈ v → s ∈ gT t n) then (171, t) else (0, if v = [] then mdel t n else mset t n ((gT t n).filter fun s => !decide (s ∈ v))) := by
    unfold chT chS
    rw [if_neg (by decide), if_pos rfl]
    by_cases hc : (v = [] ∧ gT t n = []) ∨ ¬ v.Nodup ∨ ¬ (∀ s, s ∈ v → s ∈ gT t n)
    · rw [if_pos hc, if_pos hc]
    · rw [if_neg hc, if_neg hc]
      by_cases hv : v = []
      · simp [hv]
      · simp [hv]
  rw [hgoal]
  have rest : ((F76 v).bind fun (x : Bool) => if x = true then F38_k4 t n v x else (F46s2 v (gT t n)).bind fun (y : Bool) => F38_k4 t n v (!y)) = some (if ¬ v.Nodup ∨ ¬ (∀ s, s ∈ v → s ∈ gT t n) then (171, t) else (0, if v = [] then mdel t n else mset t n ((gT t n).filter fun s => !decide (s ∈ v)))) := by
    rw [h76]
    simp only [Option.bind_some]
    by_cases g1 : v.Nodup
    · rw [if_neg (by simp [g1]), hall]
      simp only [Option.bind_some]
      by_cases g2 : ∀ s, s ∈ v → s ∈ gT t n
      · rw [hk4 _ (fun _ hne => by
          obtain ⟨s, hs⟩ := List.exists_mem_of_ne_nil v hne
          exact ⟨s, hs, g2 s hs⟩)]
        rw [show (!decide (∀ s, s ∈ v → s ∈ gT t n)) = false by simpa using g2, if_neg (by decide : ¬ false = true), if_neg (show ¬ (¬ v.Nodup ∨ ¬ ∀ s, s ∈ v → s ∈ gT t n) from fun h => h.elim (fun h => h g1) fun h => h g2)]
      · rw [hk4 _ (fun h => by simp at h; exact absurd h g2)]
        rw [show (!decide (∀ s, s ∈ v → s ∈ gT t n)) = true by simpa using g2, if_pos rfl, if_pos (show ¬ v.Nodup ∨ ¬ ∀ s, s ∈ v → s ∈ gT t n from .inr g2)]
    · have hd : decide (¬ v.Nodup) = true := by simp [g1]
      rw [hd, if_pos rfl, hk4 true (fun h => by cases h), if_pos rfl, if_pos (show ¬ v.Nodup ∨ ¬ ∀ s, s ∈ v → s ∈ gT t n from .inl g1)]
  by_cases h0 : (v.length : Int) = 0
  · have hv0 : v = [] := List.eq_nil_of_length_eq_zero (by omega)
    rw [if_pos h0]
    by_cases h1 : ((gT t n).length : Int) = 0
    · have hg0 : gT t n = [] := List.eq_nil_of_length_eq_zero (by omega)
      rw [if_pos h1, hk4 _ (fun h => by simp [h1] at h)]
      rw [if_pos (by simpa using h1), if_pos (.inl ⟨hv0, hg0⟩)]
    · have hg0 : ¬ gT t n = [] := fun e => h1 (by simp [e])
      rw [if_neg h1, rest]
      simp only [hg0, and_false, false_or]
  · have hv0 : ¬ v = [] := fun e => h0 (by simp [e])
    rw [if_neg h0, rest]
    simp only [hv0, false_and, false_or]

end Go.Idl

namespace Go.Idl

open Go

structure RightE (e : List S50) : Prop where
  srt : SrtE e
  name : ∀ a, a ∈ e → nameB a.fName = true ∧ smallS a.fName = a.fName
  vals : ∀ a, a ∈ e → a.fValues.length ≤ 16 ∧ a.fValues.all valB = true
  len : e.length ≤ 24

theorem right_iff (e : List S50) : rightB e = true ↔ RightE e := by
  simp only [rightB, okA, Bool.and_eq_true, decide_eq_true_eq, List.all_eq_true]
  constructor
  · rintro ⟨⟨h1, h2⟩, h3⟩
    exact ⟨⟨h3, fun a ha => ⟨fun e => by have := (h2 a ha).1.1.2.1; rw [e] at this; simp at this, (h2 a ha).2⟩⟩, fun a ha => ⟨(h2 a ha).1.1.1.1, (h2 a ha).1.1.1.2⟩, fun a ha => ⟨(h2 a ha).1.1.2.2, List.all_eq_true.2 (h2 a ha).1.2⟩, h1⟩
  · rintro ⟨⟨h1, h2⟩, h3, h4, h5⟩
    exact ⟨⟨h5, fun a ha => ⟨⟨⟨⟨(h3 a ha).1, (h3 a ha).2⟩, List.length_pos_iff.2 (h2 a ha).1, (h4 a ha).1⟩, List.all_eq_true.1 (h4 a ha).2⟩, (h2 a ha).2⟩⟩, h1⟩

theorem name_len {s : Str} (h : nameB s = true) : s.length ≤ 64 := by
  simp only [nameB, Bool.and_eq_true, decide_eq_true_eq] at h
  exact h.1.1.2

theorem tot_le {B : Nat} : ∀ {l : List S50}, (∀ a, a ∈ l → a.fValues.length ≤ B) → (l.map (·.fValues)).flatten.length ≤ l.length * B
  | [], _ => by simp
  | x :: l, h => by
    have h1 := h x (by simp)
    have h2 := tot_le (B := B) (l := l) fun a ha => h a (by simp [ha])
    rw [List.map_cons, List.flatten_cons, List.length_append, List.length_cons, Nat.add_mul, Nat.one_mul]
    omega

theorem RightE.sz {e : List S50} (h : RightE e) : SzO e := by
  refine ⟨by have := h.len; omega, fun a ha => by have := name_len (h.name a ha).1; omega, ?_⟩
  have h1 := tot_le fun a ha => (h.vals a ha).1
  have h2 := h.len
  have : e.length * 16 ≤ 24 * 16 := Nat.mul_le_mul_right _ h2
  omega

theorem gT_right {e : List S50} (hs : Rise (e.map (·.fName))) (hn : ∀ a, a ∈ e → smallS a.fName = a.fName) (n : Str) : gT (tabS e) n = getE e n := by
  rw [tabS_get]
  induction e with
  | nil => rfl
  | cons x e ih =>
    rw [List.map_cons, Rise, List.pairwise_cons] at hs
    have hx := hn x (by simp)
    by_cases h : x.fName = n
    · rw [List.filter_cons_of_pos (by rw [hx, h]; simp)]
      have hnil : e.filter (fun a => decide (smallS a.fName = n)) = [] := List.filter_eq_nil_iff.2 fun a ha => by
        rw [hn a (by simp [ha])]
        have h1 := hs.1 a.fName (List.mem_map_of_mem ha)
        intro h2
        simp only [decide_eq_true_eq] at h2
        rw [h, h2] at h1
        exact lt8_irrefl _ h1
      rw [hnil]
      simp [getE, h]
    · rw [List.filter_cons_of_neg (by rw [hx]; simp [h])]
      simp only [getE, h, if_false]
      exact ih hs.2 fun a ha => hn a (by simp [ha])

theorem getE_rise {e : List S50} (h : SrtE e) (n : Str) : Rise (getE e n) := by
  by_cases hn : getE e n = []
  · rw [hn]; simp [Rise]
  · obtain ⟨a, ha, rfl⟩ := List.mem_map.1 ((mem_names h n).2 hn)
    rw [getE_mem h.names ha]
    exact (h.vals a ha).2

def stepS (e : List S50) (m : S48) : List S50 ⊕ Int :=
  match chS m.fKind (getE e (smallS m.fName)) m.fValues with
  | .inr w => .inr w
  | .inl x => if (U x).length ≤ 16 ∧ (setE e (smallS m.fName) (U x)).length ≤ 24 then .inl (setE e (smallS m.fName) (U x)) else .inr 3

def runS : List S50 → List S48 → List S50 × Int
  | e, [] => (e, 0)
  | e, m :: l => match stepS e m with
    | .inl e' => runS e' l
    | .inr w => ([], w)

def doS (e : List S50) (l : List S48) : List S50 × Int := if rightB e = true ∧ l.all mayB = true then runS e l else ([], 2)

theorem chS_ne (k : Int) (has v : List Str) (w : Int) (h : chS k has v = .inr w) : w ≠ 0 := by
  unfold chS at h
  split at h
  · split at h
    · cases h; decide
    · cases h
  · split at h
    · split at h
      · cases h; decide
      · cases h
    · cases h

theorem chS_nil {has : List Str} {x : List Str} (h : chS 2 has [] = .inl x) : x = [] := by
  simp only [chS] at h
  rw [if_neg (by decide), if_pos trivial] at h
  split at h
  · cases h
  · simpa using h.symm

theorem ch_ent {e : List S50} (hr : RightE e) (k : Int) (n : Str) (v x : List Str) (hk : chS k (getE e n) v = .inl x) :
    entT (chT (tabS e) k n v).2 = setE e n (U x) ∧ (fitT (chT (tabS e) k n v).2 = true ↔ (U x).length ≤ 16 ∧ (setE e n (U x)).length ≤ 24) := by
  have hg := gT_right hr.srt.names fun a ha => (hr.name a ha).2
  have ht : ∀ m, gT (chT (tabS e) k n v).2 m = if m = n then x else getE e m := by
    intro m
    unfold chT
    rw [hg, hk]
    simp only
    by_cases hc : k = 2 ∧ v = []
    · rw [if_pos hc, gT_del (tabS_nodup e), hg]
      obtain ⟨rfl, rfl⟩ := hc
      rw [chS_nil hk]
    · rw [if_neg hc, gT_set, hg]
  have hv : ∀ m, vT (chT (tabS e) k n v).2 m = if m = n then U x else getE e m := by
    intro m
    unfold vT
    rw [ht]
    split
    · rfl
    · exact U_of_rise (getE_rise hr.srt m)
  have he : entT (chT (tabS e) k n v).2 = setE e n (U x) := srt_uniq (entT_srt _) (setE_srt hr.srt (U_rise x)) fun m => by rw [entT_get, hv, setE_get hr.srt]
  refine ⟨he, ?_⟩
  rw [fitT_iff, he]
  constructor
  · rintro ⟨h1, h2⟩
    have := h1 n
    rw [hv, if_pos rfl] at this
    exact ⟨this, h2⟩
  · rintro ⟨h1, h2⟩
    refine ⟨fun m => ?_, h2⟩
    rw [hv]
    split
    · exact h1
    · exact getE_len (fun a ha => (hr.vals a ha).1) m

theorem setE_right {e : List S50} (hr : RightE e) {n : Str} {v : List Str} (hn : nameB n = true) (hs : smallS n = n) (hv : Rise v) (hl : v.length ≤ 16) (hb : v.all valB = true) (hlen : (setE e n v).length ≤ 24) : RightE (setE e n v) := by
  have hmem : ∀ a, a ∈ setE e n v → a = ⟨n, v⟩ ∨ a ∈ e := by
    intro a ha
    unfold setE at ha
    split at ha
    · exact .inr (List.mem_filter.1 ha).1
    · exact insG_mem ha
  refine ⟨setE_srt hr.srt hv, fun a ha => ?_, fun a ha => ?_, hlen⟩
  · rcases hmem a ha with rfl | ha
    · exact ⟨hn, hs⟩
    · exact hr.name a ha
  · rcases hmem a ha with rfl | ha
    · exact ⟨hl, hb⟩
    · exact hr.vals a ha

theorem getE_val {e : List S50} (hr : RightE e) (n : Str) : (getE e n).all valB = true := by
  by_cases hn : getE e n = []
  · rw [hn]; rfl
  · obtain ⟨a, ha, rfl⟩ := List.mem_map.1 ((mem_names hr.srt n).2 hn)
    rw [getE_mem hr.srt.names ha]
    exact (hr.vals a ha).2

theorem chS_sub {k : Int} {has v x : List Str} (h : chS k has v = .inl x) : ∀ s, s ∈ x → s ∈ has ∨ s ∈ v := by
  intro s hs
  unfold chS at h
  split at h
  · split at h
    · cases h
    · cases h; exact List.mem_append.1 hs
  · split at h
    · split at h
      · cases h
      · cases h
        split at hs
        · simp at hs
        · exact .inl (List.mem_filter.1 hs).1
    · cases h; exact .inr hs

theorem stepS_right {e e' : List S50} {m : S48} (hr : RightE e) (hm : mayB m = true) (h : stepS e m = .inl e') : RightE e' := by
  simp only [mayB, Bool.and_eq_true, decide_eq_true_eq, List.all_eq_true] at hm
  obtain ⟨⟨⟨⟨h1, h2⟩, h3⟩, h4⟩, h5⟩ := hm
  unfold stepS at h
  split at h
  · cases h
  · rename_i x hx
    split at h
    · rename_i hc
      cases h
      refine setE_right hr (by rw [name_small]; exact h2) (small_small _) (U_rise x) hc.1 ?_ hc.2
      rw [List.all_eq_true]
      intro s hs
      rcases chS_sub hx s ((U_mem x s).1 hs) with h | h
      · exact List.all_eq_true.1 (getE_val hr _) s h
      · exact h4 s h
    · cases h

theorem may_kind {m : S48} (hm : mayB m = true) : m.fKind = 1 ∨ m.fKind = 2 ∨ m.fKind = 3 := by
  simp only [mayB, Bool.and_eq_true, decide_eq_true_eq] at hm
  omega

theorem may_name {m : S48} (hm : mayB m = true) : m.fName.length ≤ 64 := by
  simp only [mayB, Bool.and_eq_true, decide_eq_true_eq] at hm
  exact name_len hm.1.1.1.2

theorem may_vals {m : S48} (hm : mayB m = true) : m.fValues.length ≤ 16 := by
  simp only [mayB, Bool.and_eq_true, decide_eq_true_eq] at hm
  exact hm.1.1.2

theorem SzT.ch {e : List S50} (hr : RightE e) (k : Int) (n : Str) (v : List Str) (hn : n.length ≤ 1000000) (hv : v.length ≤ 16) : SzT (chT (tabS e) k n v).2 := by
  have hz := tabS_sz hr.sz
  have hg := gT_right hr.srt.names fun a ha => (hr.name a ha).2
  have hgl : ∀ m, (gT (tabS e) m).length ≤ 16 := fun m => by rw [hg]; exact getE_len (fun a ha => (hr.vals a ha).1) m
  have hl := tabS_len e
  have hl2 := hr.len
  have dl : ∀ (t : Tab), (mdel t n).length ≤ t.length ∧ ∀ q, q ∈ keysT (mdel t n) → q ∈ keysT t := by
    intro t
    induction t with
    | nil => simp [mdel, keysT]
    | cons p t ih =>
      simp only [mdel]
      split
      · exact ⟨by simp, fun q hq => by simp only [keysT, List.map_cons, List.mem_cons]; exact .inr hq⟩
      · refine ⟨by simp; exact ih.1, fun q hq => ?_⟩
        simp only [keysT, List.map_cons, List.mem_cons] at hq ⊢
        rcases hq with hq | hq
        · exact .inl hq
        · exact .inr (ih.2 q hq)
  unfold chT
  split
  · exact hz
  · rename_i x hx
    have hxl : x.length ≤ 32 := by
      have := hgl n
      unfold chS at hx
      split at hx
      · split at hx
        · cases hx
        · cases hx; rw [List.length_append]; omega
      · split at hx
        · split at hx
          · cases hx
          · cases hx
            split
            · simp
            · exact Nat.le_trans (List.length_filter_le _ _) (by omega)
        · cases hx; omega
    simp only
    split
    · refine ⟨Nat.le_trans (dl _).1 hz.len, fun q hq => hz.key q ((dl _).2 q hq), fun q => ?_⟩
      rw [gT_del (tabS_nodup e)]
      split
      · simp
      · exact hz.vals q
    · refine ⟨Nat.le_trans (set_len _ _ _) (by omega), fun q hq => ?_, fun q => ?_⟩
      · rcases (keys_set _ _ _ q).1 hq with rfl | hq
        · exact hn
        · exact hz.key q hq
      · rw [gT_set]
        split
        · omega
        · exact hz.vals q

theorem do_loop {step : List S50 × Int → Option ((List S50 × Int) ⊕ (List S50 ⊕ (List S50 × Int)))} (e : List S50) (l : List S48) (hr : RightE e) (hm : l.all mayB = true) (hl : l.length ≤ 1000000)
    (hs : ∀ (i : Nat) (h : i < l.length) (a : List S50), RightE a → mayB l[i] = true → step (a, (i : Int)) = some (match stepS a l[i] with | .inl a' => .inl (a', IntKind.i64.wrap ((i : Int) + 1)) | .inr w => .inr (.inr ([], w))))
    (hf : ∀ a, step (a, (l.length : Int)) = some (.inr (.inl a))) : ∃ y, loopO step (e, 0) = some y ∧ Sum.elim (fun a => (a, (0 : Int))) id y = runS e l := by
  rw [List.all_eq_true] at hm
  rw [loopO_run l (fun _ a m => match stepS a m with | .inl a' => .inl a' | .inr w => .inr (.inr ([], w))) .inl (fun i a => RightE a) (by omega) hr
    (fun i hi a hI => by
      rw [hs i hi a hI (hm _ (List.getElem_mem _))]
      cases stepS a l[i] <;> rfl)
    (fun i hi a a' hI h => by
      split at h
      · rename_i a2 h2
        simp only [Sum.inl.injEq] at h
        subst h
        exact stepS_right hI (hm _ (List.getElem_mem _)) h2
      · cases h)
    (fun a _ => hf a)]
  refine ⟨_, rfl, ?_⟩
  clear hs hf hm hr hl
  have key : ∀ (l : List S48) (i : Nat) (e : List S50), Sum.elim (fun a => (a, (0 : Int))) id (runI (fun _ (a : List S50) (m : S48) => match stepS a m with | .inl a' => .inl a' | .inr w => .inr (.inr (([] : List S50), w))) (.inl : List S50 → List S50 ⊕ (List S50 × Int)) i e l) = runS e l := by
    intro l
    induction l with
    | nil => intro i e; rfl
    | cons m l ih =>
      intro i e
      rw [runI_cons]
      unfold runS
      cases stepS e m with
      | inl a => exact ih (i + 1) a
      | inr w => rfl
  exact key l 0 e

theorem F14_eq (e : List S50) (l : List S48) (he : SzE e) (hl : SzM l) : F14 e l = some (doS e l) := by
  unfold F14 doS
  rw [F17_eq e he]
  simp only [Option.bind_some]
  by_cases h1 : rightB e = true
  · rw [if_pos h1, if_neg (by simp), F35_eq l hl]
    simp only [Option.bind_some]
    have hr := (right_iff e).1 h1
    by_cases h2 : l.all mayB = true
    · rw [if_neg (by simp only [h2, not_true, not_false_eq_true]), if_pos ⟨h1, h2⟩]
      have h28 : F28 e = some e := gd_pos ⟨by have := he.len; omega, fun a ha => by have := he.vals a ha; omega⟩
      rw [h28]
      simp only [Option.bind_some]
      obtain ⟨y, q1, q2⟩ := do_loop (step := fun (s : (List S50) × Int) => F14_b14 l s.1 s.2) e l hr h2 hl.len
        (fun i hi a hra hma => by
          have hlen := hl.len
          have hgl : (gT (tabS a) (smallS l[i].fName)).length ≤ 500000 := by
            rw [gT_right hra.srt.names fun a ha => (hra.name a ha).2]
            have := getE_len (fun a ha => (hra.vals a ha).1) (smallS l[i].fName)
            omega
          have hvl := may_vals hma
          have hnl := may_name hma
          have hgr := gT_right hra.srt.names (fun a ha => (hra.name a ha).2) (smallS l[i].fName)
          have k27 : ∀ (k : Int) (hk : l[i].fKind = k), (if ¬ (chT (tabS a) k (smallS l[i].fName) l[i].fValues).1 = 0 then some (.inr (.inr ([], (chT (tabS a) k (smallS l[i].fName) l[i].fValues).1))) else F14_k27 (i : Int) (chT (tabS a) k (smallS l[i].fName) l[i].fValues).2) = some (match stepS a l[i] with | .inl a' => .inl (a', IntKind.i64.wrap ((i : Int) + 1)) | .inr w => .inr (.inr ([], w))) := by
            intro k hk
            have hsz := SzT.ch hra k (smallS l[i].fName) l[i].fValues (by simp; omega) hvl
            unfold stepS
            rw [hk]
            cases hch : chS k (getE a (smallS l[i].fName)) l[i].fValues with
            | inr w =>
              have h0 := chS_ne _ _ _ _ hch
              have hT : chT (tabS a) k (smallS l[i].fName) l[i].fValues = (w, tabS a) := by unfold chT; rw [hgr, hch]
              rw [hT, if_pos h0]
            | inl x =>
              obtain ⟨c1, c2⟩ := ch_ent hra k _ _ _ hch
              have hT : (chT (tabS a) k (smallS l[i].fName) l[i].fValues).1 = 0 := by unfold chT; rw [hgr, hch]
              rw [hT, if_neg (by simp)]
              unfold F14_k27
              rw [F42_eq _ hsz, c1]
              simp only [Option.bind_some]
              by_cases hf : fitT (chT (tabS a) k (smallS l[i].fName) l[i].fValues).2 = true
              · rw [if_pos hf, if_pos (c2.1 hf)]
                simp
              · rw [if_neg hf, if_neg (fun h => hf (c2.2 h))]
                simp
          simp only [F14_b14]
          rw [if_pos (by omega), gd_pos (by omega), Int.toNat_natCast, F40_eq hra.sz]
          have hgi : l.getD i S48.zero = l[i] := getD_some hi _
          simp only [hgi, Option.bind_some]
          rw [F41_eq _ (by omega)]
          simp only [Option.bind_some]
          rw [F37_eq _ _ _ hgl (by omega), F38_eq _ _ _ hgl (by omega), F39_eq _ _ _ (by omega)]
          simp only [Option.bind_some]
          rcases may_kind hma with hk | hk | hk
          · rw [if_pos hk]; exact k27 1 hk
          · rw [if_neg (by rw [hk]; decide), if_pos hk]; exact k27 2 hk
          · rw [if_neg (by rw [hk]; decide), if_neg (by rw [hk]; decide), if_pos hk]; exact k27 3 hk)
        (fun a => by simp only [F14_b14]; rw [if_neg (by omega)])
      rw [q1]
      simp only [Option.bind_some, ← q2]
      cases y <;> rfl
    · rw [if_pos h2, if_neg (fun h => h2 h.2)]
  · rw [if_neg h1, if_pos (by simp), if_neg (fun h => h1 h.1)]

end Go.Idl

namespace Go.Idl

open Go

end Go.Idl

namespace Go.Idl

open Go

theorem F57_eq (a b : List S50) (ha : a.length ≤ 1000) (hb : b.length ≤ 1000) : F57 [a, b] = some (a ++ b) := by
  unfold F57
  rw [loopO_run [a, b] (fun _ (n : Int) (x : List S50) => .inl (n + x.length)) id (fun i n => 0 ≤ n ∧ n ≤ 1000 * i) (by simp) (by simp)
    (fun i hi n hI => by
      have h2 : ([a, b] : List (List S50))[i].length ≤ 1000 := by
        have := List.getElem_mem hi
        simp only [List.mem_cons, List.not_mem_nil, or_false] at this
        rcases this with e | e <;> rw [e] <;> assumption
      simp only [List.length_cons, List.length_nil] at hi
      simp only [F57_b5]
      rw [if_pos (by simp only [List.length_cons, List.length_nil]; omega), gd_pos (by simp only [List.length_cons, List.length_nil]; omega), Int.toNat_natCast, getD_some (by simp only [List.length_cons, List.length_nil]; omega)]
      have hw : IntKind.i64.wrap (n + (([a, b] : List (List S50))[i].length : Int)) = n + (([a, b] : List (List S50))[i].length : Int) := wrap_i64 (by omega) (by omega)
      rw [hw, if_neg (by omega)])
    (fun i hi n n' hI h => by
      have h2 : ([a, b] : List (List S50))[i].length ≤ 1000 := by
        have := List.getElem_mem hi
        simp only [List.mem_cons, List.not_mem_nil, or_false] at this
        rcases this with e | e <;> rw [e] <;> assumption
      simp only [Sum.inl.injEq] at h
      omega)
    (fun n _ => by simp only [F57_b5]; rw [if_neg (by omega)]; rfl)]
  rw [runI_inl]
  simp only [Option.bind_some, List.foldl_cons, List.foldl_nil, id, F57_k5]
  have h90 : F90 [] (0 + (a.length : Int) + (b.length : Int)) = some [] := gd_pos ⟨rfl, by omega, by omega⟩
  rw [h90]
  simp only [Option.bind_some]
  rw [loopO_run [a, b] (fun _ (o : List S50) (x : List S50) => .inl (o ++ x)) id (fun i o => o.length ≤ 1000 * i) (by simp) (by simp)
    (fun i hi n hI => by
      have h2 : ([a, b] : List (List S50))[i].length ≤ 1000 := by
        have := List.getElem_mem hi
        simp only [List.mem_cons, List.not_mem_nil, or_false] at this
        rcases this with e | e <;> rw [e] <;> assumption
      simp only [List.length_cons, List.length_nil] at hi
      simp only [F57_b14]
      rw [if_pos (by simp only [List.length_cons, List.length_nil]; omega), gd_pos (by simp only [List.length_cons, List.length_nil]; omega), Int.toNat_natCast, getD_some (by simp only [List.length_cons, List.length_nil]; omega), gd_pos (by omega)])
    (fun i hi n n' hI h => by
      have h2 : ([a, b] : List (List S50))[i].length ≤ 1000 := by
        have := List.getElem_mem hi
        simp only [List.mem_cons, List.not_mem_nil, or_false] at this
        rcases this with e | e <;> rw [e] <;> assumption
      simp only [Sum.inl.injEq] at h
      subst h
      rw [List.length_append]
      omega)
    (fun n _ => by simp only [F57_b14]; rw [if_neg (by omega)]; rfl)]
  rw [runI_inl]
  simp [F57_k14]

def dmS (a b : List S50) (n : Str) : Option S48 := if getE a n = getE b n then none else some ⟨if getE b n = [] then 2 else if getE a n = [] then 1 else 3, n, getE b n⟩

def namesS (a b : List S50) : List Str := U (a.map (·.fName) ++ b.map (·.fName))

def diffS (a b : List S50) : List S48 := (namesS a b).filterMap (dmS a b)

theorem tab_names {a b : List S50} (ha : RightE a) (hb : RightE b) : U (keysT (tabS (a ++ b))) = namesS a b := by
  refine U_congr fun n => ?_
  rw [tabS_keys]
  simp only [List.mem_append, List.mem_map]
  constructor
  · rintro ⟨x, hx | hx, rfl⟩
    · exact .inl ⟨x, hx, ((ha.name x hx).2).symm⟩
    · exact .inr ⟨x, hx, ((hb.name x hx).2).symm⟩
  · rintro (⟨x, hx, rfl⟩ | ⟨x, hx, rfl⟩)
    · exact ⟨x, .inl hx, (ha.name x hx).2⟩
    · exact ⟨x, .inr hx, (hb.name x hx).2⟩

theorem names_small {a b : List S50} (ha : RightE a) (hb : RightE b) {n : Str} (h : n ∈ namesS a b) : smallS n = n ∧ n.length ≤ 64 ∧ nameB n = true := by
  rw [namesS, U_mem] at h
  simp only [List.mem_append, List.mem_map] at h
  rcases h with ⟨x, hx, rfl⟩ | ⟨x, hx, rfl⟩
  · exact ⟨(ha.name x hx).2, name_len (ha.name x hx).1, (ha.name x hx).1⟩
  · exact ⟨(hb.name x hx).2, name_len (hb.name x hx).1, (hb.name x hx).1⟩

theorem sz_app {a b : List S50} (ha : RightE a) (hb : RightE b) : SzO (a ++ b) := by
  refine ⟨by have := ha.len; have := hb.len; rw [List.length_append]; omega, fun x hx => ?_, ?_⟩
  · rcases List.mem_append.1 hx with hx | hx
    · exact ha.sz.name x hx
    · exact hb.sz.name x hx
  · rw [List.map_append, List.flatten_append, List.length_append]
    have h1 := tot_le fun x hx => (ha.vals x hx).1
    have h2 := tot_le fun x hx => (hb.vals x hx).1
    have h3 := ha.len
    have h4 := hb.len
    have : a.length * 16 ≤ 24 * 16 := Nat.mul_le_mul_right _ h3
    have : b.length * 16 ≤ 24 * 16 := Nat.mul_le_mul_right _ h4
    omega

theorem F24_eq (a b : List S50) (ha : SzE a) (hb : SzE b) : F24 a b = some (if rightB a = true ∧ rightB b = true then (diffS a b, 0) else ([], 2)) := by
  unfold F24
  rw [F17_eq a ha, F17_eq b hb]
  simp only [Option.bind_some]
  by_cases h1 : rightB a = true
  · rw [if_pos h1, if_neg (by simp)]
    by_cases h2 : rightB b = true
    · rw [if_pos h2, if_neg (by simp), if_pos ⟨h1, h2⟩]
      have ra := (right_iff a).1 h1
      have rb := (right_iff b).1 h2
      rw [F57_eq a b (by have := ra.len; omega) (by have := rb.len; omega)]
      simp only [Option.bind_some]
      rw [F40_eq (sz_app ra rb)]
      simp only [Option.bind_some]
      have hz := tabS_sz (sz_app ra rb)
      have h58 : F58k (tabS (a ++ b)) = some (namesS a b) := by
        rw [← tab_names ra rb]
        exact gd_pos ⟨by have := hz.len; omega, fun p hp => by have := hz.key p.1 (List.mem_map_of_mem hp); omega⟩
      rw [h58]
      simp only [Option.bind_some]
      have hnl : (namesS a b).length ≤ 48 := by
        have h0 := U_len_le (a.map (·.fName) ++ b.map (·.fName))
        have h3 := ra.len
        have h4 := rb.len
        rw [List.length_append, List.length_map, List.length_map] at h0
        show (U (a.map (·.fName) ++ b.map (·.fName))).length ≤ 48
        omega
      rw [loopO_run (namesS a b) (fun _ (o : List S48) n => .inl (match dmS a b n with | none => o | some m => o ++ [m])) id (fun i o => o.length ≤ i) (by omega) (by simp)
        (fun i hi o hI => by
          obtain ⟨hs1, hs2, _⟩ := names_small ra rb (List.getElem_mem hi)
          simp only [F24_b17]
          rw [if_pos (by omega), gd_pos (by omega), Int.toNat_natCast, getD_some hi, F22_eq a _ ha (by omega), F22_eq b _ hb (by omega), hs1]
          simp only [Option.bind_some]
          have hga : (getE a (namesS a b)[i]).length ≤ 16 := getE_len (fun x hx => (ra.vals x hx).1) _
          rw [F60_eq _ _ (by omega)]
          simp only [Option.bind_some, dmS]
          by_cases g1 : getE a (namesS a b)[i] = getE b (namesS a b)[i]
          · rw [if_pos (by simp [g1]), if_pos g1]
          · rw [if_neg (by simp [g1]), if_neg g1]
            by_cases g2 : getE b (namesS a b)[i] = []
            · rw [if_pos (by simp [g2]), gd_pos (by simp only [List.length_cons, List.length_nil]; omega), if_pos g2]
            · rw [if_neg (by simpa using g2), if_neg g2]
              by_cases g3 : getE a (namesS a b)[i] = []
              · rw [if_pos (by simp [g3]), gd_pos (by simp only [List.length_cons, List.length_nil]; omega), if_pos g3]
              · rw [if_neg (by simpa using g3), gd_pos (by simp only [List.length_cons, List.length_nil]; omega), if_neg g3])
        (fun i hi o o' hI h => by
          simp only [Sum.inl.injEq] at h
          subst h
          split
          · omega
          · simp; omega)
        (fun o _ => by simp only [F24_b17]; rw [if_neg (by omega)]; rfl)]
      rw [runI_inl]
      have key : ∀ (l : List Str) (o : List S48), l.foldl (fun (o : List S48) n => match dmS a b n with | none => o | some m => o ++ [m]) o = o ++ l.filterMap (dmS a b) := by
        intro l
        induction l with
        | nil => intro o; simp
        | cons n l ih =>
          intro o
          rw [List.foldl_cons, ih, List.filterMap_cons]
          cases dmS a b n <;> simp
      rw [key]
      rfl
    · rw [if_neg h2, if_pos (by simp), if_neg (fun h => h2 h.2)]
  · rw [if_neg h1, if_pos (by simp), if_neg (fun h => h1 h.1)]

/-! ### How great things may be -/

theorem F34_ex (l : List Str) : ∃ q, F34 l 20 = some q ∧ (q.2 = true → l.length ≤ 20 ∧ ∀ s, s ∈ l → s.length ≤ 3000) := by
  unfold F34
  by_cases h : (20 : Int) < (l.length : Int)
  · rw [if_pos h]; exact ⟨_, rfl, fun h => by cases h⟩
  · rw [if_neg h]
    obtain ⟨r, h1, h2⟩ := loopO_for2 (step := fun (s : Int × Int) => F34_b9 l s.1 s.2) (a := (0 : Int)) (Post := fun r => (∃ n, r = .inl n ∧ ∀ s, s ∈ l → s.length ≤ 3000) ∨ r = .inr (0, false)) l.length (fun i _ => ∀ s, s ∈ l.take i → s.length ≤ 3000) (by simp)
      (fun i n hi hI => by
        simp only [F34_b9]
        rw [if_pos (by omega), gd_pos (by omega), Int.toNat_natCast, getD_some hi]
        by_cases h : 3000 < (l[i].length : Int)
        · rw [if_pos h]; exact .inr ⟨_, rfl, .inr rfl⟩
        · rw [if_neg h, wrap_nat (i := i) (by omega)]
          refine .inl ⟨_, rfl, fun s hs => ?_⟩
          rw [List.take_succ_eq_append_getElem hi, List.mem_append] at hs
          rcases hs with hs | hs
          · exact hI s hs
          · simp at hs; subst hs; omega)
      (fun n hI => by
        simp only [F34_b9]
        rw [if_neg (by omega)]
        rw [List.take_length] at hI
        exact ⟨_, rfl, .inl ⟨n, rfl, hI⟩⟩)
    rw [h1]
    rcases h2 with ⟨n, rfl, h2⟩ | rfl
    · exact ⟨_, rfl, fun _ => ⟨by omega, h2⟩⟩
    · exact ⟨_, rfl, fun h => by cases h⟩

structure LightE (e : List S50) : Prop where
  len : e.length ≤ 30
  name : ∀ a, a ∈ e → a.fName.length ≤ 200
  vals : ∀ a, a ∈ e → a.fValues.length ≤ 20
  val : ∀ a, a ∈ e → ∀ s, s ∈ a.fValues → s.length ≤ 3000

theorem F11_ex (e : List S50) : ∃ b, F11 e = some b ∧ (b = true → LightE e) := by
  unfold F11
  by_cases h : (30 : Int) < (e.length : Int)
  · rw [if_pos h]; exact ⟨_, rfl, fun h => by cases h⟩
  · rw [if_neg h]
    obtain ⟨r, h1, h2⟩ := loopO_for2 (step := fun (s : Int × Int) => F11_b9 e s.1 s.2) (a := (0 : Int)) (Post := fun r => (∃ n, r = .inl n ∧ ∀ a, a ∈ e → a.fName.length ≤ 200 ∧ a.fValues.length ≤ 20 ∧ ∀ s, s ∈ a.fValues → s.length ≤ 3000) ∨ r = .inr false) e.length (fun i _ => ∀ a, a ∈ e.take i → a.fName.length ≤ 200 ∧ a.fValues.length ≤ 20 ∧ ∀ s, s ∈ a.fValues → s.length ≤ 3000) (by simp)
      (fun i n hi hI => by
        obtain ⟨q, g1, g2⟩ := F34_ex e[i].fValues
        simp only [F11_b9]
        rw [if_pos (by omega), gd_pos (by omega), Int.toNat_natCast, getD_some hi, g1]
        simp only [Option.bind_some]
        by_cases h : q.2 = true
        · rw [if_neg (by simp [h])]
          by_cases h' : 200 < (e[i].fName.length : Int)
          · rw [if_pos h']; exact .inr ⟨_, rfl, .inr rfl⟩
          · rw [if_neg h', wrap_nat (i := i) (by omega)]
            refine .inl ⟨_, rfl, fun a ha => ?_⟩
            rw [List.take_succ_eq_append_getElem hi, List.mem_append] at ha
            rcases ha with ha | ha
            · exact hI a ha
            · simp at ha; subst ha; exact ⟨by omega, g2 h⟩
        · rw [if_pos h]; exact .inr ⟨_, rfl, .inr rfl⟩)
      (fun n hI => by
        simp only [F11_b9]
        rw [if_neg (by omega)]
        rw [List.take_length] at hI
        exact ⟨_, rfl, .inl ⟨n, rfl, hI⟩⟩)
    rw [h1]
    rcases h2 with ⟨n, rfl, h2⟩ | rfl
    · exact ⟨_, rfl, fun _ => ⟨by omega, fun a ha => (h2 a ha).1, fun a ha => (h2 a ha).2.1, fun a ha => (h2 a ha).2.2⟩⟩
    · exact ⟨_, rfl, fun h => by cases h⟩

theorem LightE.sz {e : List S50} (h : LightE e) : SzO e := by
  refine ⟨by have := h.len; omega, fun a ha => by have := h.name a ha; omega, ?_⟩
  have h1 := tot_le h.vals
  have h2 := h.len
  have : e.length * 20 ≤ 30 * 20 := Nat.mul_le_mul_right _ h2
  omega

end Go.Idl

namespace Go.Idl

open Go Go.Proofs Go.Shelf

def kL : List S50 := [⟨[77, 97, 105, 108], [[98], [97]]⟩, ⟨[67, 78], [[120]]⟩]

def kE : List S50 := [⟨[99, 110], [[120]]⟩, ⟨[109, 97, 105, 108], [[97], [98]]⟩]

def kE1 : List S50 := [⟨[99, 110], [[120], [121]]⟩, ⟨[109, 97, 105, 108], [[97], [98]]⟩]

def kO : List S50 := [⟨[99, 110], [[121]]⟩, ⟨[109, 97, 105, 108], [[97], [98]]⟩]

def kM : List S48 := [⟨1, [99, 110], [[121]]⟩, ⟨2, [99, 110], [[120]]⟩]

theorem kE_right : rightB kE = true := by decide

theorem kO_right : rightB kO = true := by decide

theorem kL_ok : kL.all okR = true := by decide

theorem kL_sz : SzO kL := ⟨by decide, by decide, by decide⟩

theorem kL_tab : tabS kL = [([109, 97, 105, 108], [[98], [97]]), ([99, 110], [[120]])] := by decide

theorem U_ba : U [[98], [97]] = ([[97], [98]] : List Str) := rise_uniq (U_rise _) (by decide) fun x => by rw [U_mem]; simp [or_comm]

theorem kL_get (n : Str) : getE kE n = vT (tabS kL) n := by
  rw [kL_tab]
  simp only [kE, getE, vT, gT, mget]
  by_cases h1 : ([109, 97, 105, 108] : Str) = n
  · subst h1
    rw [if_neg (by decide), if_pos rfl, if_pos rfl]
    exact U_ba.symm
  · rw [if_neg h1, if_neg h1]
    by_cases h2 : ([99, 110] : Str) = n
    · subst h2
      rw [if_pos rfl, if_pos rfl]
      exact (U_of_rise (by decide)).symm
    · rw [if_neg h2, if_neg h2]
      exact U_nil.symm

theorem kL_ent : entT (tabS kL) = kE := srt_uniq (entT_srt _) ((right_iff kE).1 kE_right).srt fun n => by rw [entT_get, kL_get]

theorem kL_order : orderS kL = (kE, 0) := by
  unfold orderS
  rw [if_pos kL_ok]
  have hf : fitT (tabS kL) = true := (fitT_iff _).2 ⟨fun n => by
    have h1 := U_len_le (gT (tabS kL) n)
    have h2 := gT_le n kL
    have h3 : (kL.map (·.fValues)).flatten.length = 3 := by decide
    show (U (gT (tabS kL) n)).length ≤ 16
    omega, by rw [kL_ent]; decide⟩
  rw [if_pos hf, kL_ent]

theorem k_step1 : stepS kE ⟨1, [99, 110], [[121]]⟩ = .inl kE1 := by
  have h1 : chS 1 (getE kE (smallS [99, 110])) [[121]] = .inl [[120], [121]] := by decide
  have hU : U [[120], [121]] = ([[120], [121]] : List Str) := U_of_rise (by decide)
  have hS : setE kE (smallS [99, 110]) [[120], [121]] = kE1 := by decide
  unfold stepS
  simp only [h1, hU, hS]
  rw [if_pos ⟨by decide, by decide⟩]

theorem k_step2 : stepS kE1 ⟨2, [99, 110], [[120]]⟩ = .inl kO := by
  have h1 : chS 2 (getE kE1 (smallS [99, 110])) [[120]] = .inl [[121]] := by decide
  have hU : U [[121]] = ([[121]] : List Str) := U_of_rise (by decide)
  have hS : setE kE1 (smallS [99, 110]) [[121]] = kO := by decide
  unfold stepS
  simp only [h1, hU, hS]
  rw [if_pos ⟨by decide, by decide⟩]

theorem k_do : doS kE kM = (kO, 0) := by
  unfold doS
  rw [if_pos ⟨kE_right, by decide⟩]
  simp only [kM, runS, k_step1, k_step2]

theorem k_names : namesS kE kO = [[99, 110], [109, 97, 105, 108]] := rise_uniq (U_rise _) (by decide) fun x => by
  rw [namesS, U_mem]
  simp [kE, kO]
  constructor
  · rintro (h | h | h | h) <;> simp [h]
  · rintro (h | h) <;> simp [h]

theorem k_diff : diffS kE kO = [⟨3, [99, 110], [[121]]⟩] := by
  unfold diffS
  rw [k_names]
  decide

theorem k_text : entryT kO = [99, 110, 32, 49, 10, 49, 32, 121, 10, 109, 97, 105, 108, 32, 50, 10, 49, 32, 97, 10, 49, 32, 98, 10] := by
  have d1 : Lib.decDigits 1 = [49] := by unfold Lib.decDigits; rfl
  have d2 : Lib.decDigits 2 = [50] := by unfold Lib.decDigits; rfl
  simp [kO, entryT, attrT, headT, valT, d1, d2]

theorem F13_eq : F13 = some true := by
  have szE : ∀ {e : List S50}, rightB e = true → SzE e := fun h => ((right_iff _).1 h).sz.sz
  have h19 : F19 [⟨[77, 97, 105, 108], [[98], [97]]⟩, ⟨[67, 78], [[120]]⟩] = some (kE, 0) := by
    have := F19_eq kL kL_sz
    rw [kL_order] at this
    exact this
  have h14 : F14 kE [⟨1, [99, 110], [[121]]⟩, ⟨2, [99, 110], [[120]]⟩] = some (kO, 0) := by
    have := F14_eq kE kM (szE kE_right) ⟨by decide, by decide, by decide⟩
    rw [k_do] at this
    exact this
  have h24 : F24 kE kO = some ([⟨3, [99, 110], [[121]]⟩], 0) := by
    rw [F24_eq kE kO (szE kE_right) (szE kO_right), if_pos ⟨kE_right, kO_right⟩, k_diff]
  have h30 : F30 kO = some (entryT kO, 0) := by
    unfold F30
    rw [gd_pos ⟨by decide, by decide, by decide, by decide⟩, F17_eq kO (szE kO_right), if_pos kO_right]
    rfl
  unfold F13
  rw [h19]
  simp only [Option.bind_some]
  rw [h14]
  simp only [Option.bind_some]
  rw [h24]
  simp only [Option.bind_some]
  rw [h30]
  simp only [Option.bind_some, if_true, List.length_cons, List.length_nil, List.getD_cons_zero]
  rw [k_text]
  simp [gd]

end Go.Idl

namespace Go.Idl

open Go

end Go.Idl

namespace Go.Idl

open Go

end Go.Idl

namespace Go.Idl

open Go

end Go.Idl

namespace Go.Idl

open Go

end Go.Idl

namespace Go.Idl

open Go

end Go.Idl

namespace Go.Idl

open Go

end Go.Idl

namespace Go.Idl

open Go

end Go.Idl

namespace Go.Idl

open Go Go.Proofs.Tryz

/-! cardcase/entry.Same$1 -/

noncomputable def F63 (a0 : S50) (a1 : S50) : Option Bool :=
  if a0.fName = a1.fName then ((F60 a0.fValues a1.fValues).bind fun (x3 : Bool) => some x3) else (some false)

set_option maxHeartbeats 8000000 in
set_option pp.deepTerms false in
set_option maxRecDepth 60000 in
theorem F63_ok {H : IHeap} {K : IEnd → IHeap → Prop} (a0 : S50) (a1 : S50) {r : Bool} (h : F63 a0 a1 = some r) (hK : K (.ret (.v (.bool r))) H) : ICalls prog 63 [.ag ([.v (str a0.fName), .sl 1 (a0.fValues.map fun x => [.v (str x)])]), .ag ([.v (str a1.fName), .sl 1 (a1.fValues.map fun x => [.v (str x)])])] H K := by
  refine ICalls_iwp (N := 17) func63 (by kernel_rfl) rfl (by kernel_rfl) (by kernel_rfl) fun cb hcb hw hbd hnb => ?_
  clear hbd hnb
  subst hcb
  unfold F63 at h
  refine IWp_seqF fun cb hc1 => ?_
  refine vcK ?_
  try simp -implicitDefEqProofs (maxSteps := 1000000) (disch := omega) [go_sem]
  subst hc1
  refine IWp_seqF fun cb hc2 => ?_
  refine vcK ?_
  try simp -implicitDefEqProofs (maxSteps := 1000000) (disch := omega) [go_sem]
  refine splitG_f h (by first | with_reducible rfl | (simp -implicitDefEqProofs (maxSteps := 1000000) (disch := omega) [go_sem] <;> omega)) ?_ ?_
  · intro c4 h
    try simp -implicitDefEqProofs (disch := omega) at c4
    try simp -implicitDefEqProofs (maxSteps := 1000000) (disch := omega) [go_sem]
    obtain ⟨x3, hx3, h⟩ := bind_some' h
    refine ICalls.eqA (args' := [.sl 1 (a0.fValues.map fun x => [.v (str x)]), .sl 1 (a1.fValues.map fun x => [.v (str x)])]) (by first | with_reducible rfl | (simp -implicitDefEqProofs (maxSteps := 1000000) (disch := omega) [go_sem] <;> omega)) (F60_ok a0.fValues a1.fValues hx3 ?_)
    try simp -implicitDefEqProofs (maxSteps := 1000000) (disch := omega) [go_sem]
    subst hc2
    refine vcK ?_
    simp -implicitDefEqProofs only [go_sem]
    have er := Option.some.inj h
    subst er
    try simp -implicitDefEqProofs (maxSteps := 1000000) (disch := omega) [go_sem]
    refine retG_pureA (Ext.refl hw) hK (e := by first | with_reducible rfl | (simp -implicitDefEqProofs (maxSteps := 1000000) (disch := omega) [go_sem] <;> omega))
  · intro c4 h
    try simp -implicitDefEqProofs (disch := omega) at c4
    try simp -implicitDefEqProofs (maxSteps := 1000000) (disch := omega) [go_sem]
    subst hc2
    refine vcK ?_
    simp -implicitDefEqProofs only [go_sem]
    have er := Option.some.inj h
    subst er
    try simp -implicitDefEqProofs (maxSteps := 1000000) (disch := omega) [go_sem]
    refine retG_pureA (Ext.refl hw) hK (e := by first | with_reducible rfl | (simp -implicitDefEqProofs (maxSteps := 1000000) (disch := omega) [go_sem] <;> omega))

/-! slices.EqualFunc[cardcase/api.Entry,cardcase/api.Entry,cardcase/api.Attr,cardcase/api.Attr] -/

noncomputable def F62_k8  : Option Bool :=
  some true

noncomputable def F62_b8 (a0 : List S50) (a1 : List S50) (v9 : Int) : Option (Int ⊕ (Unit ⊕ Bool)) :=
  if v9 < (a0.length : Int) then (gd (0 ≤ v9 ∧ v9 < a0.length) (gd (0 ≤ v9 ∧ v9 < a1.length) ((F63 (a0.getD v9.toNat S50.zero) (a1.getD v9.toNat S50.zero)).bind fun (x20 : Bool) => if ¬ (x20 = true) then (some (.inr (.inr false))) else (some (.inl (IntKind.i64.wrap (v9 + 1))))))) else (some (.inr (.inl ())))

noncomputable def F62 (a0 : List S50) (a1 : List S50) : Option Bool :=
  if ¬ (a0.length : Int) = (a1.length : Int) then (some false) else ((loopO (fun (s : Int) => F62_b8 a0 a1 s) 0).bind fun y => Sum.elim (fun (e : Unit) => F62_k8) (fun (q : Bool) => some q) y)

set_option maxHeartbeats 8000000 in
set_option pp.deepTerms false in
set_option maxRecDepth 60000 in
theorem F62_ok {H : IHeap} {K : IEnd → IHeap → Prop} (a0 : List S50) (a1 : List S50) {r : Bool} (h : F62 a0 a1 = some r) (hK : K (.ret (.v (.bool r))) H) : ICalls prog 62 [.sl 2 (a0.map fun x => [.v (str x.fName), .sl 1 (x.fValues.map fun x => [.v (str x)])]), .sl 2 (a1.map fun x => [.v (str x.fName), .sl 1 (x.fValues.map fun x => [.v (str x)])]), .v (.func (.func 63) #[] #[])] H K := by
  refine ICalls_iwp (N := 32) func62 (by kernel_rfl) rfl (by kernel_rfl) (by kernel_rfl) fun cb hcb hw hbd hnb => ?_
  clear hbd hnb
  subst hcb
  unfold F62 at h
  refine IWp_seqF fun cb hc1 => ?_
  refine vcK ?_
  try simp -implicitDefEqProofs (maxSteps := 1000000) (disch := omega) [go_sem]
  subst hc1
  refine IWp_seqF fun cb hc2 => ?_
  refine IWp_seqF fun cb hc3 => ?_
  refine vcK ?_
  try simp -implicitDefEqProofs (maxSteps := 1000000) (disch := omega) [go_sem]
  subst hc3
  refine IWp_cond_i h (by first | with_reducible rfl | (simp -implicitDefEqProofs (maxSteps := 1000000) (disch := omega) [go_sem] <;> omega)) rfl ?_ ?_
  · intro c4 h
    try simp -implicitDefEqProofs (disch := omega) at c4
    refine IWp_seqF fun cb hc5 => ?_
    refine vcK ?_
    try simp -implicitDefEqProofs (maxSteps := 1000000) (disch := omega) [go_sem]
    subst hc5
    refine vcK ?_
    simp -implicitDefEqProofs only [go_sem]
    have er := Option.some.inj h
    subst er
    try simp -implicitDefEqProofs (maxSteps := 1000000) (disch := omega) [go_sem]
    refine retG_pureA (Ext.refl hw) hK (e := by first | with_reducible rfl | (simp -implicitDefEqProofs (maxSteps := 1000000) (disch := omega) [go_sem] <;> omega))
  · intro c4 h
    try simp -implicitDefEqProofs (disch := omega) at c4
    refine vcK ?_
    simp -implicitDefEqProofs only [go_sem]
    subst hc2
    refine IWp_seqF fun cb hc6 => ?_
    refine IWp_seqF fun cb hc7 => ?_
    refine vcK ?_
    try simp -implicitDefEqProofs (maxSteps := 1000000) (disch := omega) [go_sem]
    subst hc7
    obtain ⟨y8, hl8q, hk8⟩ := bind_some' h
    refine IWp_tailC (fun tm' H' => .inl () = y8 ∧ Ext H H' ∧ H.next ≤ H'.next) ?_ fun cb hc8 => ?_
    · rintro tm8e H8e ⟨rfl, he8e, hl8e⟩
      have h : F62_k8 = some r := hk8
      unfold F62_k8 at h
      simp -implicitDefEqProofs only [go_sem]
      subst hc6
      refine IWp_seqF fun cb hc10 => ?_
      refine vcK ?_
      try simp -implicitDefEqProofs (maxSteps := 1000000) (disch := omega) [go_sem]
      subst hc10
      refine vcK ?_
      simp -implicitDefEqProofs only [go_sem]
      have er := Option.some.inj h
      subst er
      try simp -implicitDefEqProofs (maxSteps := 1000000) (disch := omega) [go_sem]
      refine retG_pureA he8e hK (e := by first | with_reducible rfl | (simp -implicitDefEqProofs (maxSteps := 1000000) (disch := omega) [go_sem] <;> omega))
    · refine IWp_block ?_
      refine IWp_loopF (fun (s : Int) tm' H' => Ext H H' ∧ H.next ≤ H'.next ∧ tm' 1 = .sl 2 (a1.map fun x => [.v (str x.fName), .sl 1 (x.fValues.map fun x => [.v (str x)])]) ∧ tm' 2 = .v (.func (.func 63) #[] #[]) ∧ tm' 15 = .sl 2 (a0.map fun x => [.v (str x.fName), .sl 1 (x.fValues.map fun x => [.v (str x)])]) ∧ tm' 16 = .v (.int .i64 (a0.length : Int)) ∧ tm' 17 = .v (.int .i64 s)) hl8q ?_ ?_
      · refine .same ⟨by repeat (first | exact (Ext.refl hw) | refine Ext.new ?_ _ | refine Ext.set ?_ (by first | omega | (simp [go_sem]; done) | (simp [go_sem]; omega)) _ | refine Ext.del ?_ (by first | omega | (simp [go_sem]; done) | (simp [go_sem]; omega))), by first | with_reducible rfl | with_reducible assumption | omega | (simp -implicitDefEqProofs (maxSteps := 1000000) (disch := omega) [go_sem] <;> omega), by first | with_reducible rfl | with_reducible assumption | (simp -implicitDefEqProofs (maxSteps := 1000000) (disch := omega) [go_sem] <;> omega), by first | with_reducible rfl | with_reducible assumption | (simp -implicitDefEqProofs (maxSteps := 1000000) (disch := omega) [go_sem] <;> omega), by first | with_reducible rfl | with_reducible assumption | (simp -implicitDefEqProofs (maxSteps := 1000000) (disch := omega) [go_sem] <;> omega), by first | with_reducible rfl | with_reducible assumption | (simp -implicitDefEqProofs (maxSteps := 1000000) (disch := omega) [go_sem] <;> omega), by first | with_reducible rfl | with_reducible assumption | (simp -implicitDefEqProofs (maxSteps := 1000000) (disch := omega) [go_sem] <;> omega)⟩
      · rintro I8 hI8 v9 x8 tm8 H8 ⟨he8, hl8, t1_8, t2_8, t15_8, t16_8, t17_8⟩ h hret8
        replace h : F62_b8 a0 a1 v9 = some x8 := h
        unfold F62_b8 at h
        refine IWp_seqF fun cb hc11 => ?_
        refine vcK ?_
        try simp -implicitDefEqProofs (maxSteps := 1000000) (disch := omega) [go_sem, t1_8, t2_8, t15_8, t16_8, t17_8]
        subst hc11
        refine IWp_seqF fun cb hc12 => ?_
        refine IWp_cond_i h (by first | with_reducible rfl | (simp -implicitDefEqProofs (maxSteps := 1000000) (disch := omega) [go_sem, t1_8, t2_8, t15_8, t16_8, t17_8] <;> omega)) rfl ?_ ?_
        · intro c13 h
          try simp -implicitDefEqProofs (disch := omega) at c13
          refine vcK ?_
          simp -implicitDefEqProofs only [go_sem]
          subst hc12
          refine IWp_seqF fun cb hc14 => ?_
          refine IWp_block ?_
          refine IWp_seqF fun cb hc15 => ?_
          refine vcK ?_
          obtain ⟨g16, h⟩ := gd_some.1 h
          try simp -implicitDefEqProofs (disch := omega) at g16
          try simp -implicitDefEqProofs (maxSteps := 1000000) (disch := omega) [go_sem, t1_8, t2_8, t15_8, t16_8, t17_8]
          subst hc15
          refine IWp_seqF fun cb hc17 => ?_
          refine vcK ?_
          obtain ⟨g18, h⟩ := gd_some.1 h
          try simp -implicitDefEqProofs (disch := omega) at g18
          try simp -implicitDefEqProofs (maxSteps := 1000000) (disch := omega) [go_sem, t1_8, t2_8, t15_8, t16_8, t17_8]
          subst hc17
          refine IWp_seqF fun cb hc19 => ?_
          refine vcK ?_
          try simp -implicitDefEqProofs (maxSteps := 1000000) (disch := omega) [go_sem, t1_8, t2_8, t15_8, t16_8, t17_8]
          obtain ⟨x20, hx20, h⟩ := bind_some' h
          refine ICalls.eqA (args' := [.ag ([.v (str ((a0.getD v9.toNat S50.zero).fName)), .sl 1 (((a0.getD v9.toNat S50.zero).fValues).map fun x => [.v (str x)])]), .ag ([.v (str ((a1.getD v9.toNat S50.zero).fName)), .sl 1 (((a1.getD v9.toNat S50.zero).fValues).map fun x => [.v (str x)])])]) (by first | with_reducible rfl | (simp -implicitDefEqProofs (maxSteps := 1000000) (disch := omega) [go_sem, t1_8, t2_8, t15_8, t16_8, t17_8] <;> omega)) (F63_ok (a0.getD v9.toNat S50.zero) (a1.getD v9.toNat S50.zero) hx20 ?_)
          try simp -implicitDefEqProofs (maxSteps := 1000000) (disch := omega) [go_sem, t1_8, t2_8, t15_8, t16_8, t17_8]
          subst hc19
          refine IWp_cond_i h (by first | with_reducible rfl | (simp -implicitDefEqProofs (maxSteps := 1000000) (disch := omega) [go_sem, t1_8, t2_8, t15_8, t16_8, t17_8] <;> omega)) rfl ?_ ?_
          · intro c21 h
            try simp -implicitDefEqProofs (disch := omega) at c21
            refine IWp_seqF fun cb hc22 => ?_
            refine vcK ?_
            try simp -implicitDefEqProofs (maxSteps := 1000000) (disch := omega) [go_sem, t1_8, t2_8, t15_8, t16_8, t17_8]
            subst hc22
            refine vcK ?_
            simp -implicitDefEqProofs only [go_sem]
            have e8 := Option.some.inj h
            subst e8
            have e8 := hret8 _ rfl
            subst e8
            replace h : some false = some r := hk8
            have er := Option.some.inj h
            subst er
            try simp -implicitDefEqProofs (maxSteps := 1000000) (disch := omega) [go_sem, t1_8, t2_8, t15_8, t16_8, t17_8]
            refine retG_pureA he8 hK (e := by first | with_reducible rfl | (simp -implicitDefEqProofs (maxSteps := 1000000) (disch := omega) [go_sem, t1_8, t2_8, t15_8, t16_8, t17_8] <;> omega))
          · intro c21 h
            try simp -implicitDefEqProofs (disch := omega) at c21
            refine vcK ?_
            simp -implicitDefEqProofs only [go_sem]
            subst hc14
            refine vcK ?_
            try simp -implicitDefEqProofs (maxSteps := 1000000) (disch := omega) [go_sem, t1_8, t2_8, t15_8, t16_8, t17_8]
            have e8 := Option.some.inj h
            subst e8
            refine loopN_mk hI8 (IntKind.i64.wrap (v9 + 1)) ?_
            refine .same ⟨by repeat (first | exact he8 | refine Ext.new ?_ _ | refine Ext.set ?_ (by first | omega | (simp [go_sem]; done) | (simp [go_sem]; omega)) _ | refine Ext.del ?_ (by first | omega | (simp [go_sem]; done) | (simp [go_sem]; omega))), by first | with_reducible rfl | with_reducible assumption | omega | (simp -implicitDefEqProofs (maxSteps := 1000000) (disch := omega) [go_sem, t1_8, t2_8, t15_8, t16_8, t17_8] <;> omega), by first | with_reducible rfl | with_reducible assumption | (simp -implicitDefEqProofs (maxSteps := 1000000) (disch := omega) [go_sem, t1_8, t2_8, t15_8, t16_8, t17_8] <;> omega), by first | with_reducible rfl | with_reducible assumption | (simp -implicitDefEqProofs (maxSteps := 1000000) (disch := omega) [go_sem, t1_8, t2_8, t15_8, t16_8, t17_8] <;> omega), by first | with_reducible rfl | with_reducible assumption | (simp -implicitDefEqProofs (maxSteps := 1000000) (disch := omega) [go_sem, t1_8, t2_8, t15_8, t16_8, t17_8] <;> omega), by first | with_reducible rfl | with_reducible assumption | (simp -implicitDefEqProofs (maxSteps := 1000000) (disch := omega) [go_sem, t1_8, t2_8, t15_8, t16_8, t17_8] <;> omega), by first | with_reducible rfl | with_reducible assumption | (simp -implicitDefEqProofs (maxSteps := 1000000) (disch := omega) [go_sem, t1_8, t2_8, t15_8, t16_8, t17_8] <;> omega)⟩
        · intro c13 h
          try simp -implicitDefEqProofs (disch := omega) at c13
          refine vcK ?_
          simp -implicitDefEqProofs only [go_sem]
          have e8 := Option.some.inj h
          subst e8
          have hy8 := hret8 _ rfl
          refine hc8 _ _ ?_
          refine .same ⟨hy8, by repeat (first | exact he8 | refine Ext.new ?_ _ | refine Ext.set ?_ (by first | omega | (simp [go_sem]; done) | (simp [go_sem]; omega)) _ | refine Ext.del ?_ (by first | omega | (simp [go_sem]; done) | (simp [go_sem]; omega))), by first | with_reducible rfl | with_reducible assumption | omega | (simp -implicitDefEqProofs (maxSteps := 1000000) (disch := omega) [go_sem, t1_8, t2_8, t15_8, t16_8, t17_8] <;> omega)⟩

/-! cardcase/entry.Same -/

noncomputable def F29 (a0 : List S50) (a1 : List S50) : Option Bool :=
  (F62 a0 a1).bind fun (x3 : Bool) => some x3

set_option maxHeartbeats 8000000 in
set_option pp.deepTerms false in
set_option maxRecDepth 60000 in
theorem F29_ok {H : IHeap} {K : IEnd → IHeap → Prop} (a0 : List S50) (a1 : List S50) {r : Bool} (h : F29 a0 a1 = some r) (hK : K (.ret (.v (.bool r))) H) : ICalls prog 29 [.sl 2 (a0.map fun x => [.v (str x.fName), .sl 1 (x.fValues.map fun x => [.v (str x)])]), .sl 2 (a1.map fun x => [.v (str x.fName), .sl 1 (x.fValues.map fun x => [.v (str x)])])] H K := by
  refine ICalls_iwp (N := 8) func29 (by kernel_rfl) rfl (by kernel_rfl) (by kernel_rfl) fun cb hcb hw hbd hnb => ?_
  clear hbd hnb
  subst hcb
  unfold F29 at h
  refine IWp_seqF fun cb hc1 => ?_
  refine vcK ?_
  try simp -implicitDefEqProofs (maxSteps := 1000000) (disch := omega) [go_sem]
  subst hc1
  refine IWp_seqF fun cb hc2 => ?_
  refine vcK ?_
  try simp -implicitDefEqProofs (maxSteps := 1000000) (disch := omega) [go_sem]
  obtain ⟨x3, hx3, h⟩ := bind_some' h
  refine ICalls.eqA (args' := [.sl 2 (a0.map fun x => [.v (str x.fName), .sl 1 (x.fValues.map fun x => [.v (str x)])]), .sl 2 (a1.map fun x => [.v (str x.fName), .sl 1 (x.fValues.map fun x => [.v (str x)])]), .v (.func (.func 63) #[] #[])]) (by first | with_reducible rfl | (simp -implicitDefEqProofs (maxSteps := 1000000) (disch := omega) [go_sem] <;> omega)) (F62_ok a0 a1 hx3 ?_)
  try simp -implicitDefEqProofs (maxSteps := 1000000) (disch := omega) [go_sem]
  subst hc2
  refine vcK ?_
  simp -implicitDefEqProofs only [go_sem]
  have er := Option.some.inj h
  subst er
  try simp -implicitDefEqProofs (maxSteps := 1000000) (disch := omega) [go_sem]
  refine retG_pureA (Ext.refl hw) hK (e := by first | with_reducible rfl | (simp -implicitDefEqProofs (maxSteps := 1000000) (disch := omega) [go_sem] <;> omega))

end Go.Idl

namespace Go.Idl

open Go Go.Proofs.Tryz Go.RowKit

variable {H : IHeap} {K : IEnd → IHeap → Prop}

abbrev sS0 (l : List Str) : IV := .sl 1 (l.map fun x => [.v (str x)])

def OwnS (J : IHeap) (n : Nat) (r : IV) (l : List Str) : Prop :=
  (l = [] ∧ r = sS0 []) ∨ (l ≠ [] ∧ ∃ k, n ≤ k ∧ k < J.next ∧ r = .bs k 0 l.length ∧ J.obj k = some (.cells (l.map fun s => .v (str s))))

theorem flat1s (l : List Str) : (l.map fun s => ([.v (str s)] : List IV)).flatten = l.map fun s => .v (str s) := by
  induction l with
  | nil => rfl
  | cons s l ih => simp [ih]

theorem clone56o (l : List Str) (hl : l.length ≤ 1000000) (hK : ∀ r J, Ext H J → OwnS J H.next r l → K (.ret r) J) : ICalls prog 56 [sS0 l] H K := by
  refine ICalls_vc (N := 8) func56 (by kernel_rfl) rfl (by kernel_rfl) (by kernel_rfl) fun hw hbd hnb => ?_
  have hnl := hnb (sS0 l) (by simp)
  simp (maxSteps := 1000000) (disch := omega) [go_sem]
  refine IOper_slnil rfl (by kernel_rfl) underlying40 (by simp [go_sem]; exact ⟨rfl, rfl⟩) rfl (.inl rfl) fun b hb => ?_
  simp (maxSteps := 1000000) (disch := omega) [go_sem]
  refine condB ?_ ?_ <;> intro hc <;> (try simp at hc)
  · simp (maxSteps := 1000000) (disch := omega) [go_sem]
    have e : l = [] := by simpa using hb hc
    subst e
    exact retG_fz (J := H) (Ext.refl hw).endH (.wk _ _ (.nil 1) hnl) (hK _ _ (.refl hw) (.inl ⟨rfl, rfl⟩))
  · simp (maxSteps := 1000000) (disch := omega) [go_sem]
    refine IOper_buildEmpty (sz := 1) (rs := []) rfl (by simp [bsI, underlying40, zero9, cells9, Value.cells, Value.oneCell', rep, fillI]) ?_
    simp (maxSteps := 1000000) (disch := omega) [go_sem]
    have he := ((Ext.refl hw).new (.row 1 []) |>.set (Nat.le_refl _) (.row 1 (l.map fun s => [.v (str s)])))
    by_cases h0 : l = []
    · subst h0
      exact retG_fz (J := H) he.endH (.row (hw _ (Nat.le_refl _)) (by simp [go_sem]) (by simp) hnl) (hK _ _ (.refl hw) (.inl ⟨rfl, rfl⟩))
    · have hpos : 0 < l.length := List.length_pos_iff.2 h0
      have hf := GhR.fix (H := (H.new (.row 1 [])).set H.next (.row 1 (l.map fun s => [.v (str s)]))) (k := H.next) (sz := 1) (es := l.map fun s => ([.v (str s)] : List IV)) (by simp [go_sem]) (by simpa using hpos)
      rw [List.length_map] at hf
      refine retG_gh hf (hK _ _ (he.fix (Nat.le_refl _) _) (.inr ⟨h0, _, ?_, ?_, rfl, ?_⟩))
      · simp [go_sem]
      · simp [go_sem]
      · simp [go_sem, flat1s]

def OwnL (J : IHeap) (n : Nat) (rs : List IV) (c : List (List Str)) : Prop :=
  rs.length = c.length ∧ (∀ (j : Nat) r l, rs[j]? = some r → c[j]? = some l → OwnS J n r l) ∧ ∀ (j j' k m m' : Nat), rs[j]? = some (IV.bs k 0 m) → rs[j']? = some (IV.bs k 0 m') → j = j'

theorem OwnS.mono {J J' : IHeap} {n n' : Nat} {r : IV} {l : List Str} (h : OwnS J n r l) (hn : n' ≤ n) (hx : J.next ≤ J'.next) (ho : ∀ k o, n ≤ k → k < J.next → J.obj k = some o → J'.obj k = some o) : OwnS J' n' r l := by
  rcases h with h | ⟨h1, k, h2, h3, h4, h5⟩
  · exact .inl h
  · exact .inr ⟨h1, k, by omega, by omega, h4, ho k _ h2 h3 h5⟩

theorem OwnL.mono {J J' : IHeap} {n : Nat} {rs : List IV} {c : List (List Str)} (h : OwnL J n rs c) (hx : J.next ≤ J'.next) (ho : ∀ k o, n ≤ k → k < J.next → J.obj k = some o → J'.obj k = some o) : OwnL J' n rs c :=
  ⟨h.1, fun j r l h1 h2 => (h.2.1 j r l h1 h2).mono (Nat.le_refl _) hx ho, h.2.2⟩

theorem OwnL.nil {J : IHeap} {n : Nat} : OwnL J n [] [] := ⟨rfl, fun j r l h => by simp at h, fun j j' k m m' h => by simp at h⟩

theorem OwnL.snoc {J J' : IHeap} {n : Nat} {rs : List IV} {c : List (List Str)} {r : IV} {l : List Str} (h : OwnL J n rs c) (hn : n ≤ J.next) (hx : J.next ≤ J'.next) (ho : ∀ k o, n ≤ k → k < J.next → J.obj k = some o → J'.obj k = some o) (hr : OwnS J' J.next r l) : OwnL J' n (rs ++ [r]) (c ++ [l]) := by
  have hlen := h.1
  have old : ∀ (j k m : Nat), rs[j]? = some (IV.bs k 0 m) → k < J.next := by
    intro j k m e
    have hj : j < rs.length := (List.getElem?_eq_some_iff.1 e).1
    rcases h.2.1 j _ _ e (List.getElem?_eq_getElem (by omega : j < c.length)) with ⟨_, e'⟩ | ⟨_, k', _, h3, e', _⟩
    · cases e'
    · cases e'; exact h3
  have new : ∀ (k m : Nat), r = .bs k 0 m → J.next ≤ k := by
    intro k m e
    rcases hr with ⟨_, e'⟩ | ⟨_, k', h2, _, e', _⟩
    · rw [e'] at e; cases e
    · rw [e'] at e; cases e; exact h2
  have get : ∀ (j : Nat) (x : IV), (rs ++ [r])[j]? = some x → rs[j]? = some x ∨ (j = rs.length ∧ r = x) := by
    intro j x e
    rcases Nat.lt_or_ge j rs.length with q | q
    · rw [List.getElem?_append_left q] at e; exact .inl e
    · rw [List.getElem?_append_right q] at e
      rcases Nat.eq_zero_or_pos (j - rs.length) with z | z
      · rw [z] at e; simp at e; exact .inr ⟨by omega, e⟩
      · rw [List.getElem?_eq_none (by simp; omega)] at e; cases e
  refine ⟨by simp [hlen], fun j x y h1 h2 => ?_, fun j j' k m m' h1 h2 => ?_⟩
  · rcases get j x h1 with e | ⟨rfl, rfl⟩
    · have hj : j < c.length := by rw [← hlen]; exact (List.getElem?_eq_some_iff.1 e).1
      rw [List.getElem?_append_left hj] at h2
      exact (h.2.1 j x y e h2).mono (Nat.le_refl _) hx ho
    · rw [hlen] at h2
      simp at h2
      subst h2
      exact hr.mono hn (Nat.le_refl _) fun _ _ _ _ e => e
  · rcases get j _ h1 with e | ⟨e1, e2⟩ <;> rcases get j' _ h2 with e' | ⟨e1', e2'⟩
    · exact h.2.2 j j' k m m' e e'
    · have := old _ _ _ e; have := new _ _ e2'; omega
    · have := old _ _ _ e'; have := new _ _ e2; omega
    · omega

def OwnC (J : IHeap) (n : Nat) (l : List S50) (C rs : List IV) : Prop :=
  C.length = l.length * 2 ∧ (∀ (j : Nat) (x : S50), l[j]? = some x → C[j * 2]? = some (.v (str x.fName))) ∧ (∀ (j : Nat) (r : IV), rs[j]? = some r → C[j * 2 + 1]? = some r) ∧ OwnL J n rs (l.map (·.fValues))

def OwnE (J : IHeap) (n : Nat) (r : IV) (l : List S50) : Prop :=
  (l = [] ∧ r = eS []) ∨ (l ≠ [] ∧ ∃ k C rs, n = k ∧ k < J.next ∧ r = .bs k 0 l.length ∧ J.obj k = some (.cells C) ∧ OwnC J (k + 1) l C rs)

def CpI (J : IHeap) (n : Nat) (l : List S50) (i : Nat) (C rs : List IV) : Prop :=
  rs.length = i ∧ C.length = l.length * 2 ∧ (∀ (j : Nat) (x : S50), l[j]? = some x → C[j * 2]? = some (.v (str x.fName))) ∧ (∀ (j : Nat) (r : IV), rs[j]? = some r → C[j * 2 + 1]? = some r) ∧ (∀ (j : Nat) (x : S50), i ≤ j → l[j]? = some x → C[j * 2 + 1]? = some (sS0 x.fValues)) ∧ OwnL J n rs ((l.map (·.fValues)).take i)

set_option pp.deepTerms false in
set_option maxRecDepth 8000 in
theorem copy28o (l : List S50) (hl : l.length ≤ 1000000) (hv : ∀ a, a ∈ l → a.fValues.length ≤ 1000000) (hK : ∀ r J, Ext H J → OwnE J (H.next + 1) r l → K (.ret r) J) : ICalls prog 28 [eS l] H K := by
  refine ICalls_vc (N := 23) func28 (by kernel_rfl) rfl (by kernel_rfl) (by kernel_rfl) fun hw hbd hnb => ?_
  have hnl := hnb (eS l) (by simp)
  simp (maxSteps := 1000000) (disch := omega) [go_sem]
  refine clone61r l (by omega) ?_
  simp (maxSteps := 1000000) (disch := omega) [go_sem]
  by_cases hz : l = []
  · subst hz
    refine vcLoop_mk (fun tm' H' => H' = H.new (.row 2 []) ∧ tm' 0 = .os H.next 0 ∧ tm' 7 = .v (.int .i64 0) ∧ tm' 8 = .v (.int .i64 0)) (fun tm' _ => 0) (.same ?_) ?_
    · exact ⟨by simp, by simp [go_sem], by simp [go_sem], by simp [go_sem]⟩
    rintro I' μ' hI hμ tm' H' ⟨rfl, h0, h7, h8⟩
    refine vc_sound _ (by kernel_rfl) _ _ _ ?_
    simp (maxSteps := 1000000) (disch := omega) [go_sem, h0, h7, h8]
    refine retG_fz (J := H) ((Ext.refl hw).new _).endH (.row (hw _ (Nat.le_refl _)) (by simp [go_sem]) (by simp) hnl) (hK _ _ (.refl hw) (.inl ⟨rfl, rfl⟩))
  · have hlen : 0 < l.length := List.length_pos_iff.2 hz
    refine vcLoop_mk (fun tm' H' => ∃ (i : Nat) (C rs : List IV), H'.obj (H.next + 1) = some (.cells C) ∧ Ext H H' ∧ H.next + 2 ≤ H'.next ∧ CpI H' (H.next + 2) l i C rs ∧ tm' 0 = .bs (H.next + 1) 0 l.length ∧ tm' 7 = .v (.int .i64 l.length) ∧ tm' 8 = .v (.int .i64 i) ∧ i ≤ l.length) (fun tm' _ => l.length - (intOf (tm' 8)).toNat)
      (UpI.gh (Gh.fixSlot (d := 0) (k := H.next) (sz := 2) (es := l.map fun x => [.v (str x.fName), .sl 1 (x.fValues.map fun x => [.v (str x)])]) (by simp [go_sem]) (by simpa using hlen) (by simp [go_sem])) (.same ?_)) ?_
    · refine ⟨0, (l.map fun x => [IV.v (str x.fName), IV.sl 1 (x.fValues.map fun x => [.v (str x)])]).flatten, [], by simp [go_sem], ((Ext.refl hw).new _).fix (Nat.le_refl _) _, by simp [go_sem], ⟨rfl, flat2_len _ _ l, fun j x hx => ?_, fun j r h => by simp at h, fun j x _ hx => ?_, by simpa using OwnL.nil⟩, by simp [go_sem], by simp [go_sem], by simp [go_sem], by omega⟩
      · obtain ⟨hj, rfl⟩ := List.getElem?_eq_some_iff.1 hx
        exact (flat2_get (fun x : S50 => IV.v (str x.fName)) (fun x => IV.sl 1 (x.fValues.map fun x => [.v (str x)])) l j hj).1
      · obtain ⟨hj, rfl⟩ := List.getElem?_eq_some_iff.1 hx
        exact (flat2_get (fun x : S50 => IV.v (str x.fName)) (fun x => IV.sl 1 (x.fValues.map fun x => [.v (str x)])) l j hj).2
    rintro I' μ' hI hμ tm' H' ⟨i, C, rs, oC, he, hnx, ⟨c0, c1, c2, c3, c4, c5⟩, h0, h7, h8, hi⟩
    refine vc_sound _ (by kernel_rfl) _ _ _ ?_
    simp (maxSteps := 1000000) (disch := omega) [go_sem, h0, h7, h8]
    refine condB ?_ ?_ <;> intro hc <;> (try simp at hc)
    · have hg := c4 i _ (Nat.le_refl _) (List.getElem?_eq_getElem hc)
      have hg' : C[i * 2 + 1]'(by omega) = sS0 l[i].fValues := by
        rw [List.getElem?_eq_getElem (by omega)] at hg
        exact Option.some.inj hg
      simp (maxSteps := 1000000) (disch := omega) [go_sem, h0, h7, h8, c1, hg', oC]
      refine clone56o l[i].fValues (hv _ (List.getElem_mem _)) fun r J heJ ho => ?_
      have oJ := heJ.sub _ _ oC
      have hle : H'.next ≤ J.next := heJ.le
      have hcr : cellsI r = some [r] := by
        rcases ho with ⟨_, rfl⟩ | ⟨_, k, _, _, rfl, _⟩ <;> rfl
      simp (maxSteps := 1000000) (disch := omega) [go_sem, h0, h7, h8, c1, oJ, hcr]
      have e1 : List.take (i * 2 + 1) C ++ r :: List.drop (i * 2 + 2) C = C.set (i * 2 + 1) r := by
        rw [List.set_eq_take_append_cons_drop, if_pos (by omega)]
      rw [e1]
      have htk : List.take (i + 1) (l.map (·.fValues)) = List.take i (l.map (·.fValues)) ++ [l[i].fValues] := by rw [List.take_add_one, List.getElem?_map, List.getElem?_eq_getElem hc]; rfl
      have keep : ∀ k o, H.next + 2 ≤ k → k < J.next → J.obj k = some o → (J.set (H.next + 1) (HO.cells (C.set (i * 2 + 1) r))).obj k = some o := fun k o hk _ e => by
        simp only [go_sem, if_neg (show ¬ k = H.next + 1 by omega)]
        exact e
      refine .of hI hμ ⟨i + 1, C.set (i * 2 + 1) r, rs ++ [r], by simp [go_sem], (he.trans heJ).set (by omega) _, by simp [go_sem]; omega, ⟨by simp [c0], by simp [c1], fun j x hx => ?_, fun j x hx => ?_, fun j x hj hx => ?_, ?_⟩, by simp [go_sem, h0], by simp [go_sem, h7], by simp [go_sem], by omega⟩ (by simp [go_sem, h8]; omega)
      · rw [List.getElem?_set_ne (by omega)]; exact c2 j x hx
      · rcases Nat.lt_or_ge j rs.length with q | q
        · rw [List.getElem?_append_left q] at hx
          rw [List.getElem?_set_ne (by omega)]
          exact c3 j x hx
        · rw [List.getElem?_append_right q] at hx
          rcases Nat.eq_zero_or_pos (j - rs.length) with z | z
          · rw [z] at hx; simp at hx; subst hx
            have : j = i := by omega
            subst this
            rw [List.getElem?_set_self (by omega)]
          · rw [List.getElem?_eq_none (by simp; omega)] at hx; cases hx
      · rw [List.getElem?_set_ne (by omega)]; exact c4 j x (by omega) hx
      · rw [htk]
        refine OwnL.snoc (J := H') c5 hnx (by simp [go_sem]; omega) (fun k o hk hk' e => keep k o hk (by omega) (heJ.sub _ _ e)) ?_
        exact ho.mono (Nat.le_refl _) (by simp [go_sem]) fun k o hk hk' e => keep k o (by omega) hk' e
    · simp (maxSteps := 1000000) (disch := omega) [go_sem, h0, h7, h8]
      have hil : i = l.length := by omega
      subst hil
      rw [List.take_of_length_le (by simp)] at c5
      exact retG_all (hK _ _ he (.inr ⟨hz, H.next + 1, C, rs, rfl, by omega, rfl, oC, c1, c2, c3, c5⟩))

end Go.Idl

namespace Go.Idl

open Go Go.Proofs.Tryz Go.RowKit

theorem OwnS.fz {J : IHeap} {n : Nat} {r : IV} {l : List Str} (h : OwnS J n r l) (hl : l.length ≤ 1000000) : Fz J J.bare r (sS0 l) := by
  rcases h with ⟨rfl, rfl⟩ | ⟨_, k, _, _, rfl, ho⟩
  · exact .same (NB_sl.2 (by simp))
  · have e : (sS0 l : IV) = .sl 1 (chunks 1 l.length ((l.map fun s => (.v (str s) : IV)).drop 0)) := by
      rw [List.drop_zero, chunks_one' (by simp)]
      simp
    have := Fz.bs (H := J) (J := J.bare) k 0 l.length 1 (l.map fun s => .v (str s)) (l.map fun s => .v (str s)) rfl ho rfl (by simp) (by simp [maxN]; omega) (fzs (by simp [NB_v]))
    rw [← e] at this
    exact this

theorem OwnE.fz {J : IHeap} {n : Nat} {r : IV} {l : List S50} (h : OwnE J n r l) (hl : l.length ≤ 1000000) (hv : ∀ a, a ∈ l → a.fValues.length ≤ 1000000) : Fz J J.bare r (eS l) := by
  rcases h with ⟨rfl, rfl⟩ | ⟨_, k, C, rs, _, _, rfl, ho, c1, c2, c3, c5⟩
  · exact .same (NB_sl.2 (by simp))
  · have e : (eS l : IV) = .sl 2 (chunks 2 l.length (((l.map fun x => [IV.v (str x.fName), IV.sl 1 (x.fValues.map fun x => [.v (str x)])]).flatten).drop 0)) := by
      rw [List.drop_zero, chunks2]
    rw [e]
    have hD := flat2_len (fun x : S50 => IV.v (str x.fName)) (fun x => IV.sl 1 (x.fValues.map fun x => [.v (str x)])) l
    have hg := flat2_get (fun x : S50 => IV.v (str x.fName)) (fun x => IV.sl 1 (x.fValues.map fun x => [.v (str x)])) l
    refine Fz.bs k 0 l.length 2 C _ rfl ho (by rw [hD, c1]) (by omega) (by simp only [maxN]; omega) fun j c c' h1 h2 => ?_
    have hj : j < C.length := (List.getElem?_eq_some_iff.1 h1).1
    have hq : j / 2 < l.length := by omega
    rcases Nat.mod_two_eq_zero_or_one j with hp | hp
    · have ej : j = j / 2 * 2 := by omega
      have g1 := c2 (j / 2) _ (List.getElem?_eq_getElem hq)
      have g2 := (hg (j / 2) hq).1
      rw [← ej] at g1 g2
      rw [g1] at h1
      rw [g2] at h2
      cases h1
      cases h2
      exact .same (.v _)
    · have ej : j = j / 2 * 2 + 1 := by omega
      have hr : j / 2 < rs.length := by rw [c5.1]; simpa using hq
      have g1 := c3 (j / 2) _ (List.getElem?_eq_getElem hr)
      have g2 := (hg (j / 2) hq).2
      rw [← ej] at g1 g2
      rw [g1] at h1
      rw [g2] at h2
      cases h1
      cases h2
      exact (c5.2.1 (j / 2) _ l[j / 2].fValues (List.getElem?_eq_getElem hr) (by rw [List.getElem?_map, List.getElem?_eq_getElem hq]; rfl)).fz (hv _ (List.getElem_mem _))

/-! ### entry.Same -/

theorem F63_eq (a b : S50) (ha : a.fValues.length ≤ 1000000) : F63 a b = some (decide (a = b)) := by
  unfold F63
  rw [F60_eq _ _ ha]
  rcases a with ⟨n, v⟩
  rcases b with ⟨m, u⟩
  by_cases h : n = m
  · subst h
    simp
  · simp [h]

theorem F62_eq (a b : List S50) (hs : SzE a) : F62 a b = some (decide (a = b)) := by
  have ha := hs.len
  unfold F62
  by_cases hc : (a.length : Int) = b.length
  · rw [if_neg (by simpa using hc)]
    obtain ⟨r, q1, q2⟩ := loopO_allI (step := fun (s : Int) => F62_b8 a b s) 0 a.length (fun i => a.getD i S50.zero = b.getD i S50.zero) (.inr false) (.inl ()) (by omega)
      (fun i _ hi => by
        have hv := hs.vals _ (List.getElem_mem hi)
        simp only [F62_b8]
        rw [if_pos (by omega), gd_pos (by omega), gd_pos (by omega), Int.toNat_natCast, F63_eq _ _ (by rw [getD_some hi]; exact hv)]
        simp only [Option.bind_some]
        by_cases h : a.getD i S50.zero = b.getD i S50.zero
        · rw [if_neg (by rw [decide_eq_true h]; simp), if_pos h]
        · rw [if_pos (by rw [decide_eq_false h]; simp), if_neg h])
      (fun i hi => by simp only [F62_b8]; rw [if_neg (by omega)])
    rw [show ((0 : Nat) : Int) = 0 from rfl] at q1
    rw [q1]
    have he := eq_getD (a := a) (b := b) S50.zero (by omega)
    rcases q2 with ⟨h, rfl⟩ | ⟨h, rfl⟩
    · rw [← he] at h; simp [F62_k8, h]
    · rw [← he] at h; simp [h]
  · rw [if_pos hc]
    have : ¬ a = b := by rintro rfl; exact hc rfl
    simp [this]

theorem F29_eq (a b : List S50) (hs : SzE a) : F29 a b = some (decide (a = b)) := by
  unfold F29
  rw [F62_eq a b hs]
  rfl

set_option pp.deepTerms false in
set_option maxRecDepth 8000 in
set_option maxHeartbeats 2000000 in
theorem law8 {H : IHeap} {K : IEnd → IHeap → Prop} (a b : List S50) (hK : K (.ret (.v (.bool true))) H) : ICalls prog 8 [eS a, eS b] H K := by
  obtain ⟨ba, h1, q1⟩ := F11_ex a
  obtain ⟨bb, h2, q2⟩ := F11_ex b
  refine ICalls_vc (N := 75) func8 (by kernel_rfl) rfl (by kernel_rfl) (by kernel_rfl) fun hw hbd hnb => ?_
  simp (maxSteps := 1000000) (disch := omega) [go_sem]
  refine F11_ok a h1 ?_
  cases ba with
  | false =>
    simp (maxSteps := 1000000) (disch := omega) [go_sem]
    refine F13_ok F13_eq ?_
    simp (maxSteps := 1000000) (disch := omega) [go_sem]
    exact retG_pure (.refl hw) (by simp [NB_v]) hK
  | true =>
    simp (maxSteps := 1000000) (disch := omega) [go_sem]
    refine F11_ok b h2 ?_
    cases bb with
    | false =>
      simp (maxSteps := 1000000) (disch := omega) [go_sem]
      refine F13_ok F13_eq ?_
      simp (maxSteps := 1000000) (disch := omega) [go_sem]
      exact retG_pure (.refl hw) (by simp [NB_v]) hK
    | true =>
      have sa := (q1 rfl).sz.sz
      have hva : ∀ x, x ∈ a → x.fValues.length ≤ 1000000 := fun x hx => sa.vals x hx
      simp (maxSteps := 1000000) (disch := omega) [go_sem]
      refine copy28o a sa.len hva fun r J he ho => ?_
      simp (maxSteps := 1000000) (disch := omega) [go_sem]
      refine F29_ok a b (F29_eq a b sa) ?_
      simp (maxSteps := 1000000) (disch := omega) [go_sem]
      refine F16_ok a b (F16_eq a b sa) ?_
      simp (maxSteps := 1000000) (disch := omega) [go_sem]
      refine ICalls_lendL (H := J) (args' := [eS a, eS a]) (.cons (.same (by simp [NB_v, NB_sl, NB_ag])) (.cons (ho.fz sa.len hva) .nil)) (fun H K hK => F29_ok a a (F29_eq a a sa) hK) ?_
      simp (maxSteps := 1000000) (disch := omega) [go_sem]
      rcases ho with ⟨rfl, rfl⟩ | ⟨hz, k, C, rs, hk, hk2, rfl, oC, c1, c2, c3, c5⟩
      · refine vcLoop_mk (fun tm' H' => H' = J ∧ tm' 5 = eS [] ∧ tm' 6 = .v (.int .i64 0)) (fun tm' _ => 0) (.same ?_) ?_
        · exact ⟨rfl, by simp [go_sem], by simp [go_sem]⟩
        rintro I' μ' hI hμ tm' H' ⟨rfl, h5, h6⟩
        refine vc_sound _ (by kernel_rfl) _ _ _ ?_
        simp (maxSteps := 1000000) (disch := omega) [go_sem, h5, h6]
        refine F13_ok F13_eq ?_
        simp (maxSteps := 1000000) (disch := omega) [go_sem]
        exact retG_pure he (by simp [NB_v]) hK
      · have hn : 0 < a.length := List.length_pos_iff.2 hz
        have hal : a.length ≤ 1000000 := sa.len
        have hrl : rs.length = a.length := by have := c5.1; simpa using this
        have hkJ : ∀ (j k' m : Nat), rs[j]? = some (IV.bs k' 0 m) → k + 1 ≤ k' ∧ k' < J.next := by
          intro j k' m e
          have hj : j < rs.length := (List.getElem?_eq_some_iff.1 e).1
          rcases c5.2.1 j _ _ e (by rw [List.getElem?_map, List.getElem?_eq_getElem (by omega : j < a.length)]; rfl) with ⟨_, e'⟩ | ⟨_, k'', q2, q3, e', _⟩
          · cases e'
          · cases e'; exact ⟨q2, q3⟩
        refine vcLoop_mk (fun tm' H' => ∃ i : Nat, tm' 0 = eS a ∧ tm' 5 = .bs k 0 a.length ∧ tm' 6 = .v (.int .i64 i) ∧ i ≤ a.length ∧ H'.obj k = some (.cells C) ∧ Ext H H' ∧ J.next ≤ H'.next ∧ (∀ (j : Nat) r l, i ≤ j → rs[j]? = some r → (a.map (·.fValues))[j]? = some l → OwnS H' (k + 1) r l)) (fun tm' _ => a.length - (intOf (tm' 6)).toNat) (.same ?_) ?_
        · exact ⟨0, by simp [go_sem], by simp [go_sem], by simp [go_sem], by omega, oC, he, Nat.le_refl _, fun j r l _ h1 h2 => c5.2.1 j r l h1 h2⟩
        rintro I' μ' hI hμ tm' H' ⟨i, t0, t5, t6, hi, oC', he', hnx, hown⟩
        refine vc_sound _ (by kernel_rfl) _ _ _ ?_
        simp (maxSteps := 1000000) (disch := omega) [go_sem, t0, t5, t6]
        refine condB ?_ ?_ <;> intro hc1 <;> (try simp at hc1)
        · simp (maxSteps := 1000000) (disch := omega) [go_sem, t0, t5, t6]
          have hge : rs[i]? = some rs[i] := List.getElem?_eq_getElem (by omega)
          have hga : (a.map (·.fValues))[i]? = some a[i].fValues := by rw [List.getElem?_map, List.getElem?_eq_getElem hc1]; rfl
          have hcr := c3 i _ hge
          have hvl : a[i].fValues.length ≤ 1000000 := hva _ (List.getElem_mem _)
          have hcr' : C[i * 2 + 1]'(by omega) = rs[i] := by
            rw [List.getElem?_eq_getElem (by omega)] at hcr
            exact Option.some.inj hcr
          rcases hown i _ _ (Nat.le_refl _) hge hga with ⟨e1, e2⟩ | ⟨e1, k2, hk3, hk4, e2, hk5⟩
          · have e0 : a[i].fValues.length = 0 := by rw [e1]; rfl
            refine vcLoop_mk (fun tm2 H2 => H2 = H' ∧ tm2 0 = eS a ∧ tm2 5 = .bs k 0 a.length ∧ tm2 6 = .v (.int .i64 i) ∧ tm2 7 = .v (.int .i64 0)) (fun tm' _ => 0) (.same ?_) ?_
            · exact ⟨rfl, by simp [go_sem, t0], by simp [go_sem, t5], by simp [go_sem, t6], by simp [go_sem]⟩
            rintro I2 μ2 hI2 hμ2 tm2 H2 ⟨rfl, u0, u5, u6, u7⟩
            refine vc_sound _ (by kernel_rfl) _ _ _ ?_
            simp (maxSteps := 1000000) (disch := omega) [go_sem, u0, u5, u6, u7, c1, hcr', oC', e2]
            exact .of hI hμ ⟨i + 1, by simp [go_sem, u0], by simp [go_sem, u5], by simp [go_sem], by omega, oC', he', hnx, fun j r l hj h1 h2 => hown j r l (by omega) h1 h2⟩ (by simp [go_sem, t6]; omega)
          · obtain ⟨g1, g2⟩ := hkJ i k2 _ (by rw [hge, e2])
            have n1 : ¬ k = k2 := by omega
            refine vcLoop_mk (fun tm2 H2 => ∃ (q : Nat) (D : List IV), tm2 0 = eS a ∧ tm2 5 = .bs k 0 a.length ∧ tm2 6 = .v (.int .i64 i) ∧ tm2 7 = .v (.int .i64 q) ∧ q ≤ a[i].fValues.length ∧ H2.obj k = some (.cells C) ∧ H2.obj k2 = some (.cells D) ∧ D.length = a[i].fValues.length ∧ Ext H H2 ∧ J.next ≤ H2.next ∧ (∀ (j : Nat) r l, i + 1 ≤ j → rs[j]? = some r → (a.map (·.fValues))[j]? = some l → OwnS H2 (k + 1) r l)) (fun tm2 _ => a[i].fValues.length - (intOf (tm2 7)).toNat) (.same ?_) ?_
            · exact ⟨0, _, by simp [go_sem, t0], by simp [go_sem, t5], by simp [go_sem, t6], by simp [go_sem], by omega, oC', hk5, by simp, he', hnx, fun j r l hj h1 h2 => hown j r l (by omega) h1 h2⟩
            rintro I2 μ2 hI2 hμ2 tm2 H2 ⟨q, D, u0, u5, u6, u7, hq, oC2, oD, hD, he2, hnx2, hown2⟩
            refine vc_sound _ (by kernel_rfl) _ _ _ ?_
            simp (maxSteps := 1000000) (disch := omega) [go_sem, u0, u5, u6, u7, c1, hcr', oC2, e2]
            refine condB ?_ ?_ <;> intro hc2 <;> (try simp at hc2)
            · simp (maxSteps := 1000000) (disch := omega) [go_sem, u0, u5, u6, u7, c1, hcr', oC2, e2, oD, hD]
              refine .of hI2 hμ2 ⟨q + 1, List.take q D ++ IV.v (Value.string ⟨#[99, 104, 97, 110, 103, 101, 100]⟩) :: List.drop (q + 1) D, by simp [go_sem, u0], by simp [go_sem, u5], by simp [go_sem, u6], by simp [go_sem], by omega, by simp [go_sem, n1, oC2], by simp [go_sem], by simp [List.length_take]; omega, he2.set (by omega) _, by simpa [go_sem] using hnx2, fun j r l hj h1 h2 => ?_⟩ (by simp [go_sem, u7]; omega)
              rcases hown2 j r l hj h1 h2 with w | ⟨w1, k', w2, w3, w4, w5⟩
              · exact .inl w
              · have hkne : ¬ k' = k2 := by
                  rintro rfl
                  rw [w4] at h1
                  rw [e2] at hge
                  have := c5.2.2 j i k' _ _ h1 hge
                  omega
                exact .inr ⟨w1, k', w2, by simpa [go_sem] using w3, w4, by simp [go_sem, hkne, w5]⟩
            · simp (maxSteps := 1000000) (disch := omega) [go_sem, u0, u5, u6, u7]
              exact .of hI hμ ⟨i + 1, by simp [go_sem, u0], by simp [go_sem, u5], by simp [go_sem], by omega, oC2, he2, hnx2, fun j r l hj h1 h2 => hown2 j r l (by omega) h1 h2⟩ (by simp [go_sem, t6]; omega)
        · simp (maxSteps := 1000000) (disch := omega) [go_sem, t0, t5, t6]
          refine F13_ok F13_eq ?_
          simp (maxSteps := 1000000) (disch := omega) [go_sem]
          exact retG_pure he' (by simp [NB_v]) hK

end Go.Idl

namespace Go.Idl

open Go Go.RowKit Go.ChangeShapes Go.WideShapes

def g0 : Gs := { oth := fun _ => False, mu := fun _ => undef, sh := fun _ => none, nx := 0 }

def H0 : IHeap := { next := 0, obj := fun _ => none, sn := [] }

theorem ow0 (b : Nat) : ¬ g0.ow b := by
  rintro (h | ⟨k, h, _⟩)
  · exact h
  · cases h

theorem sim0 (w : World) : Sim w g0 H0 where
  nx := rfl
  sh := fun _ => rfl
  lt := fun k h => by cases h
  bk := fun k b h => by cases h
  inj := fun k k' b h => by cases h
  obj := fun k o h => by cases h
  old := fun b h => h.elim
  snap := fun p h => by cases h

theorem below_of_mono {w w' : World} {g' : Gs} (m : Mono w g0 w' g') : Below w.heap.size w w' :=
  ⟨m.os, m.tape, m.output, m.size, fun k hk => m.keep k hk fun ⟨i, h, _⟩ => by cases h⟩

variable {P : Program} {w : World} {Hh : Type} {enc : TypeId × Value → Hh}

def Rd (P : Program) (w : World) {Hh : Type} (enc : TypeId × Value → Hh) (t : TypeId) (S : List IV → Prop) : Prop :=
  ∀ (base : Nat) (spare : Nat → Bool) (held : Bool) (fuel : Nat) (cs : List Value) (x : DataW Hh × List MemPlace), DataW.trod enc P w base spare held fuel t cs = some x →
    ∃ is, S is ∧ is.length = cs.length ∧ ∀ (j : Nat) (c : Value) (i : IV), cs[j]? = some c → is[j]? = some i → c.oneCell' = true ∧ R w g0 c i

theorem rd_one {c : Value} {i : IV} (ho : c.oneCell' = true) (hr : R w g0 c i) : ∀ (j : Nat) (c' : Value) (i' : IV), [c][j]? = some c' → [i][j]? = some i' → c'.oneCell' = true ∧ R w g0 c' i' := by
  intro j c' i' h1 h2
  cases j with
  | zero => simp at h1 h2; subst h1; subst h2; exact ⟨ho, hr⟩
  | succ j => simp at h1

theorem Rd_string {t : TypeId} (hu : P.underlying t = some .string) : Rd P w enc t fun is => ∃ s : List UInt8, is = [.v (str s)] := by
  intro base spare held fuel cs x h
  obtain ⟨s, rfl, _, _⟩ := DataW.trod_string hu h
  refine ⟨_, ⟨bytes s, rfl⟩, rfl, rd_one rfl ?_⟩
  rw [show str (bytes s) = .string s by rw [str, mk_bytes]]
  exact .v _

theorem choose_list {E : Type} (Pr : Nat → E → Prop) : ∀ n : Nat, (∀ i, i < n → ∃ x, Pr i x) → ∃ l : List E, l.length = n ∧ ∀ (i : Nat) (x : E), l[i]? = some x → Pr i x
  | 0, _ => ⟨[], rfl, by simp⟩
  | n + 1, h => by
    obtain ⟨l, h1, h2⟩ := choose_list Pr n fun i hi => h i (by omega)
    obtain ⟨x, hx⟩ := h n (by omega)
    refine ⟨l ++ [x], by simp [h1], fun i y hy => ?_⟩
    rcases Nat.lt_or_ge i n with hi | hi
    · rw [List.getElem?_append_left (by omega)] at hy
      exact h2 i y hy
    · rw [List.getElem?_append_right (by omega)] at hy
      have e : i = n := by
        have := (List.getElem?_eq_some_iff.1 hy).1
        simp at this; omega
      subst e
      simp [h1] at hy
      subst hy
      exact hx

theorem cells_get {base : Nat} {a : Addr} : ∀ {n : Nat} {cs : List Value}, w.cells? base a n = some cs → cs.length = n ∧ ∀ j, j < n → w.cell? (a.add j) = cs[j]? := by
  intro n cs h
  unfold World.cells? at h
  split at h
  · refine ⟨?_, fun j hj => ?_⟩
    · have := mapM_some_length h
      simpa using this
    · exact mapM_some_get h j j (by simp [hj])
  · cases h

theorem Rd_slice {t e : TypeId} {E : Type} (cells : E → List IV) (hu : P.underlying t = some (.slice e)) (h0 : 0 < P.cellsOf e) (he : Rd P w enc e fun is => ∃ x : E, is = cells x) :
    Rd P w enc t fun is => ∃ l : List E, is = [.sl (P.cellsOf e) (l.map cells)] := by
  intro base spare held fuel cs x h
  rcases DataW.trod_slice hu h with ⟨rfl, _⟩ | ⟨a, len, cap, elems, rest, n, _, rfl, _, hb, hl, hm, hlen, hel, _, _⟩
  · exact ⟨_, ⟨[], rfl⟩, rfl, rd_one rfl (.sl0 _ _ _)⟩
  · obtain ⟨l, l1, l2⟩ := choose_list (fun i (y : E) => (cells y).length = P.cellsOf e ∧ ∀ (j : Nat) (i' : IV), (cells y)[j]? = some i' → ∃ c, w.cell? ((a.add (i * P.cellsOf e)).add j) = some c ∧ c.oneCell' = true ∧ R w g0 c i') len (fun i hi => by
      have hei := hel i hi
      have hne : elems[i]? = some elems[i] := List.getElem?_eq_getElem (by omega)
      rw [hne, Option.bind_eq_some_iff] at hei
      obtain ⟨ci, hc, ht⟩ := hei
      obtain ⟨q1, q2⟩ := cells_get hc
      obtain ⟨is, ⟨y, rfl⟩, q3, q4⟩ := he _ _ _ _ _ _ ht
      refine ⟨y, by rw [q3, q1], fun j i' hj => ?_⟩
      have hjl : j < ci.length := by rw [← q3]; exact (List.getElem?_eq_some_iff.1 hj).1
      have := q4 j ci[j] i' (List.getElem?_eq_getElem hjl) hj
      exact ⟨ci[j], by rw [q2 j (by omega)]; exact List.getElem?_eq_getElem hjl, this⟩)
    refine ⟨_, ⟨l, rfl⟩, rfl, rd_one rfl ?_⟩
    by_cases hz : len = 0
    · subst hz
      have : l = [] := List.eq_nil_of_length_eq_zero l1
      subst this
      exact .sl0 _ _ _
    · have hlm : (l.map cells).length = len := by simp [l1]
      have h0l : 0 < l.length := by omega
      obtain ⟨q1, q2⟩ := l2 0 l[0] (List.getElem?_eq_getElem h0l)
      have hpos : 0 < (cells l[0]).length := by omega
      obtain ⟨c0, q3, _⟩ := q2 0 _ (List.getElem?_eq_getElem hpos)
      obtain ⟨b, off, spot⟩ := a
      have hsp : spot = none ∧ b < w.heap.size := by
        have e0 : ((⟨b, off, spot⟩ : Addr).add (0 * P.cellsOf e)).add 0 = ⟨b, off, spot⟩ := by simp [Addr.add]
        rw [e0] at q3
        unfold World.cell? at q3
        split at q3
        · rename_i hh
          refine ⟨?_, (Array.getElem?_eq_some_iff.1 hh).1⟩
          split at q3
          · cases q3
          · rename_i hs
            simpa using hs
        · cases q3
      obtain ⟨rfl, hlt⟩ := hsp
      rw [← hlm]
      refine .sl b off cap _ _ (fun i j => (w.cell? ⟨b, off + i * P.cellsOf e + j, none⟩).getD undef) (ow0 b) hlt (by rw [hlm]; have hm' : cap ≤ 9223372036854775807 := hm; unfold maxN; omega) (by omega) ?_ ?_ ?_ ?_
      · intro c hc
        obtain ⟨y, hy, rfl⟩ := List.mem_map.1 hc
        obtain ⟨i, hi⟩ := List.getElem?_of_mem hy
        exact (l2 i y hi).1
      all_goals
        intro i ee j c h1 h2
        simp only [List.getElem?_map, Option.map_eq_some_iff] at h1
        obtain ⟨y, hy, rfl⟩ := h1
        obtain ⟨c', r1, r2, r3⟩ := (l2 i y hy).2 j c h2
        rw [addr_add, addr_add] at r1
        first | (rw [r1]; rfl) | (simp only [r1, Option.getD_some]; first | exact r2 | exact r3)

theorem Rd.one {t : TypeId} {v : Value} {d : DataW Hh} {ps : List MemPlace} {S : List IV → Prop} {base : Nat} {spare : Nat → Bool} {held : Bool} (h : Rd P w enc t S) (hv : v.cells = #[v]) (hd : DataW.Trod enc P w base spare held t v d ps) : ∃ i, S [i] ∧ R w g0 v i := by
  obtain ⟨fuel, hf⟩ := hd
  obtain ⟨is, h1, h2, h3⟩ := h _ _ _ _ _ _ hf
  rw [hv] at h2 h3
  match is, h2, h1, h3 with
  | [i], _, h1, h3 => exact ⟨i, h1, (h3 0 v i rfl rfl).2⟩

theorem Rd.agg {t : TypeId} {cs : Array Value} {d : DataW Hh} {ps : List MemPlace} {S : List IV → Prop} {base : Nat} {spare : Nat → Bool} {held : Bool} (h : Rd P w enc t S) (hd : DataW.Trod enc P w base spare held t (.agg cs) d ps) : ∃ is, S is ∧ R w g0 (.agg cs) (.ag is) := by
  obtain ⟨fuel, hf⟩ := hd
  obtain ⟨is, h1, h2, h3⟩ := h _ _ _ _ _ _ hf
  have hcs : (Value.agg cs).cells.toList = cs.toList := rfl
  rw [hcs] at h2 h3
  refine ⟨is, h1, .ag cs is (by simpa using h2.symm) (fun j x hx => ?_) fun j x c hx hc => (h3 j x c (by simpa using hx) hc).2⟩
  have hlt : j < is.length := by
    have := (Array.getElem?_eq_some_iff.1 hx).1
    rw [h2]; simpa using this
  exact (h3 j x is[j] (by simpa using hx) (List.getElem?_eq_getElem hlt)).1

end Go.Idl

namespace Go.Idl

open Go Go.RowKit Go.ChangeShapes Go.WideShapes

variable {P : Program} {w : World} {Hh : Type} {enc : TypeId × Value → Hh}

theorem Rd_struct2 {t : TypeId} {f0 f1 : Field} {A B : Type} (a : A → IV) (b : B → IV) (ht : P.underlying t = some (.struct #[f0, f1])) (hc : P.cellsOf t = 2) (o0 : f0.offset = 0) (o1 : f1.offset = 1) (c0 : P.cellsOf f0.type = 1) (c1 : P.cellsOf f1.type = 1)
    (h0 : Rd P w enc f0.type fun is => ∃ x : A, is = [a x]) (h1 : Rd P w enc f1.type fun is => ∃ x : B, is = [b x]) : Rd P w enc t fun is => ∃ (x : A) (y : B), is = [a x, b y] := by
  intro base spare held fuel cs x h
  obtain ⟨xs, n, _, rfl, hl, hlen, hf⟩ := DataW.trod_struct ht h
  rw [hc] at hl
  match cs, hl with
  | [u, v], _ =>
    have q0 := hf 0 f0 rfl
    have q1 := hf 1 f1 rfl
    rw [o0, c0] at q0
    rw [o1, c1] at q1
    simp only [List.drop_zero, List.drop_succ_cons, List.take_succ_cons, List.take_zero] at q0 q1
    match xs, hlen, q0, q1 with
    | [x0, x1], _, q0, q1 =>
      obtain ⟨is0, ⟨p, rfl⟩, _, r0⟩ := h0 _ _ _ _ _ _ (by simpa using q0)
      obtain ⟨is1, ⟨q, rfl⟩, _, r1⟩ := h1 _ _ _ _ _ _ (by simpa using q1)
      refine ⟨_, ⟨p, q, rfl⟩, rfl, fun j c i e1 e2 => ?_⟩
      match j, e1, e2 with
      | 0, e1, e2 => exact r0 0 c i (by simpa using e1) (by simpa using e2)
      | 1, e1, e2 => exact r1 0 c i (by simpa using e1) (by simpa using e2)
      | j + 2, e1, e2 => simp at e1

end Go.Idl

namespace Go.Proofs.YtolkpoeioagibaaGreatDoor

open Go Go.ChangeShapes Go.WideShapes Go.ChangeAt Go.RowKit Go.Idl

theorem ownNone : ownKnob Tryz.prog.godebug = none := by kernel_rfl

theorem laidOutAll : laidOutB Tryz.prog = true := by kernel_rfl

def laidE : List (String × DataW Unit) := Rows.entryDoesRow.laid

theorem door_met (os : Os) (args : Array Value) : laidMetH Tryz.prog laidE ((World.doorLaid Tryz.prog 400 os).forCall (fun _ _ => 0) ⟨#[], args, []⟩).memory :=
  laidMetH_of_parts3 (fuel := 8) (laidMet_of_run' 8 (by kernel_rfl) (by kernel_rfl)) (by kernel_rfl) (by kernel_rfl)

section

variable {w : World} {Hh : Type} {enc : TypeId × Value → Hh}

theorem rd9 : Rd Tryz.prog w enc 9 fun is => ∃ s : List UInt8, is = [.v (str s)] := Rd_string Tryz.underlying9

theorem rd40 : Rd Tryz.prog w enc 40 fun is => ∃ l : List (List UInt8), is = [.sl 1 (l.map fun x => [.v (str x)])] := by
  have h := Rd_slice (w := w) (enc := enc) (fun s : List UInt8 => [IV.v (str s)]) Tryz.underlying40 (Nat.lt_of_lt_of_eq Nat.one_pos cells9.symm) rd9
  rw [cells9] at h
  exact h

theorem rd51 : Rd Tryz.prog w enc 51 fun is => ∃ x : S50, is = [.v (str x.fName), .sl 1 (x.fValues.map fun x => [.v (str x)])] := by
  intro base spare held fuel cs x h
  obtain ⟨is, ⟨n, l, rfl⟩, h1, h2⟩ := Rd_struct2 (fun s : List UInt8 => IV.v (str s)) (fun l : List (List UInt8) => IV.sl 1 (l.map fun x => [.v (str x)])) Tryz.underlying51 cells51 rfl rfl cells9 cells40 rd9 rd40 base spare held fuel cs x h
  exact ⟨_, ⟨⟨n, l⟩, rfl⟩, h1, h2⟩

theorem rd23 : Rd Tryz.prog w enc 23 fun is => ∃ l : List S50, is = [eS l] := by
  have h := Rd_slice (w := w) (enc := enc) (fun x : S50 => [IV.v (str x.fName), .sl 1 (x.fValues.map fun x => [.v (str x)])]) Tryz.underlying23 (Nat.lt_of_lt_of_eq (by decide : 0 < 2) cells51.symm) rd51
  rw [cells51] at h
  exact h

end

end Go.Proofs.YtolkpoeioagibaaGreatDoor

namespace Go.Proofs.YtolkpoeioagibaaGreatDoor

open Go Go.ChangeShapes Go.WideShapes Go.ChangeAt Go.RowKit Go.Idl

set_option maxRecDepth 100000 in
theorem entrySame_lifted (os : Os) (started : os.Started) (H : Type) (enc : TypeId × Value → H) :
    ReturnsInHanded {} Tryz.checked os 8 .any (fun w args => (Rows.entrySameSpec.pre enc Tryz.prog Tryz.f8 [] false w args ∧ laidMetH Tryz.prog laidE w) ∧ sizedMet enc Tryz.prog Tryz.f8 (OpenSpec.ofChange Rows.entrySameSpec) false w args)
      (Rows.entrySameSpec.post enc Tryz.prog Tryz.f8 false true false false) := by
  refine returnsInHanded_of_change_and (C := Tryz.checked) (X := fun w _ => laidMetH Tryz.prog laidE w) (fun _ _ _ hh h => h.of_heap hh) ownNone started (by kernel_rfl) Tryz.func8
    (ChangeSpec.witness_shaped (enc := enc) (C := Tryz.checked) (os := os) (X := fun w _ => laidMetH Tryz.prog laidE w) false (World.doorLaid Tryz.prog 400 os) #[.slice none 0 0, .slice none 0 0] 8 rfl (World.shaped_of_RefB (by kernel_rfl) (by kernel_rfl)) (by kernel_rfl) (by kernel_rfl) (by kernel_rfl) (door_met os _)) ?_
  intro W base args ds gs before hval0 hW _ hwt hL _
  have hval : ∀ (j : Nat) t v, Tryz.f8.params[j]? = some t → args[j]? = some v → Value.okWide Tryz.prog W .any base t v := hval0
  have hW' := hW
  obtain ⟨p, q, hA0, hV, rfl, hfz, hnd⟩ := hW
  have hA : DataW.TrodAll enc Tryz.prog W 0 (fun _ => true) true Tryz.f8.params.toList args.toList ds p := hA0
  rw [Tryz.params8] at hA hval
  obtain ⟨v0, v1, d0, d1, p0, p1, rfl, rfl, rfl, h0, h1⟩ := trodAll_two hA
  obtain ⟨rfl, rfl⟩ := trodVars_none hV
  simp only [List.append_nil] at hW'
  have hlt := hW'.lt
  obtain ⟨a0, len0, cap0, rfl⟩ := okWide_slice Tryz.underlying23 (hval 0 23 v0 rfl rfl)
  obtain ⟨a1, len1, cap1, rfl⟩ := okWide_slice Tryz.underlying23 (hval 1 23 v1 rfl rfl)
  obtain ⟨i0, ⟨x0, e0⟩, r0⟩ := rd23.one rfl h0
  simp only [List.cons.injEq, and_true] at e0
  subst e0
  obtain ⟨i1, ⟨x1, e1⟩, r1⟩ := rd23.one rfl h1
  simp only [List.cons.injEq, and_true] at e1
  subst e1
  have hcall := (law8 (H := H0) (K := fun e _ => e = .ret (.v (.bool true))) x0 x1 rfl).run W g0 #[.slice a0 len0 cap0, .slice a1 len1 cap1] (sim0 W) ⟨rfl, fun j x i hx hi => by
    match j, hx, hi with
    | 0, hx, hi => simp at hx hi; subst hx; subst hi; exact r0
    | 1, hx, hi => simp at hx hi; subst hx; subst hi; exact r1
    | j + 2, hx, hi => simp at hx⟩
  refine hcall.mono ?_
  rintro e W' ⟨ie, g', H', hm, _, hre, rfl⟩
  have hb := below_of_mono hm
  obtain ⟨rfl⟩ : e = .returned (.bool true) := by
    cases hre with
    | ret x i h => rw [h.v_eq]
  refine ⟨_, rfl, ?_⟩
  refine ⟨_, _, _, [], p0 ++ p1, [], hW', trodAll_mk1 (shut_bool Tryz.underlying4 _), ?_, ?_, hb.frame _, fun h => by cases h⟩
  · have hl0 : ∀ x ∈ p0, x.block < W.heap.size := fun x hx => hlt x (by simp [hx])
    have hl1 : ∀ x ∈ p1, x.block < W.heap.size := fun x hx => hlt x (by simp [hx])
    have k0 := Below.trod laidOutAll (by kernel_rfl) (of_decide_eq_true (by kernel_rfl)) h0 hb hl0
    have k1 := Below.trod laidOutAll (by kernel_rfl) (of_decide_eq_true (by kernel_rfl)) h1 hb hl1
    exact ⟨p0, p1, k0, ⟨p1, [], k1, rfl, by simp⟩, by simp⟩
  · rfl

theorem entrySame_row : Rows.EntrySameSaid :=
  OpenClaim.holds_of_wide 8 Tryz.f8 rfl rfl rfl rfl rfl rfl rfl ⟨rfl, rfl, rfl, rfl, rfl⟩ rfl rfl rfl rfl rfl (by kernel_rfl) Tryz.func8 (by kernel_rfl)
    (of_decide_eq_true (by kernel_rfl)) (by unfold Func.isWrapper; first | (rw [if_pos (by decide +kernel)]; kernel_rfl) | (rw [if_neg (by decide +kernel)]; exact ⟨rfl, rfl⟩))
    (fun os started H enc _ => entrySame_lifted os started H enc)

theorem entrySame_holds : Rows.EntrySameCardSaid :=
  Claim7.holds_tied_plain_at .later [] [.data, .data, .data] true (true, "50e4754251813c10f565251bd7064b64b9978502f0b8e6034c86890fe2975e00") true
    entrySame_row (fun _ h => by cases h) (by kernel_rfl) (fun _ h => by cases h) entrySame_row_tie rfl ⟨rfl, rfl⟩ (by kernel_rfl) rfl
    (fun f fn hf hfn => by
      obtain rfl : f = 8 := Option.some.inj ((show Tryz.prog.funcNamed "cardcase/cardcaselaw07.EntrySame" = some 8 by kernel_rfl).symm.trans hf) |>.symm
      obtain rfl : fn = Tryz.f8 := (Option.some.inj (Tryz.func8.symm.trans hfn)).symm
      exact ⟨by kernel_rfl, fun j t ht => by
        rw [Tryz.params8] at ht
        have hm : t ∈ [23, 23] := by simpa using Array.mem_of_getElem? ht
        have hall : ([23, 23].all fun u => !Tryz.prog.wantsStandIn u) = true := by kernel_rfl
        exact (show Tryz.prog.wantsStandIn t = false by simpa using List.all_eq_true.1 hall t hm)⟩)
    (by kernel_rfl)

end Go.Proofs.YtolkpoeioagibaaGreatDoor
