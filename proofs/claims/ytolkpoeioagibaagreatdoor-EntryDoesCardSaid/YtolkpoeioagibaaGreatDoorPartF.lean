/- EntryDoes returns true whatever its arguments and leaves them as they were. Part 6. Conditions: none. -/
import Derived.Test.YtolkpoeioagibaaGreatDoorPartE
set_option linter.unusedSimpArgs false
set_option linter.unusedVariables false

namespace Go.Idl

open Go Go.Proofs.Tryz

/-! slices.Concat[cardcase/api.Entry,cardcase/api.Attr] -/

noncomputable def F57_k14 (v18 : List S50) : Option (List S50) :=
 some v18

noncomputable def F57_b14 (a0 : List (List S50)) (v15 : List S50) (v17 : Int) : Option (((List S50) × Int) ⊕ (List S50)) :=
 if v17 < (a0.length : Int) then (gd (0 ≤ v17 ∧ v17 < a0.length) (gd ((v15.length + (a0.getD v17.toNat []).length) * 40 ≤ 140737488355328) (some (.inl ((v15 ++ (a0.getD v17.toNat []), IntKind.i64.wrap (v17 + 1))))))) else (some (.inr v15))

noncomputable def F57_k5 (a0 : List (List S50)) (v8 : Int) : Option (List S50) :=
 (F90 [] v8).bind fun (x10 : (List S50)) => (loopO (fun (s : (List S50) × Int) => F57_b14 a0 s.1 s.2) (x10, 0)).bind fun (e : (List S50)) => F57_k14 e

noncomputable def F57_b5 (a0 : List (List S50)) (v6 : Int) (v7 : Int) : Option ((Int × Int) ⊕ Int) :=
 if v7 < (a0.length : Int) then (gd (0 ≤ v7 ∧ v7 < a0.length) (if (IntKind.i64.wrap (v6 + (((a0.getD v7.toNat []).length : Int)))) < 0 then (none) else (some (.inl ((IntKind.i64.wrap (v6 + (((a0.getD v7.toNat []).length : Int))), IntKind.i64.wrap (v7 + 1))))))) else (some (.inr v6))

noncomputable def F57 (a0 : List (List S50)) : Option (List S50) :=
 (loopO (fun (s : Int × Int) => F57_b5 a0 s.1 s.2) (0, 0)).bind fun (e : Int) => F57_k5 a0 e

set_option maxHeartbeats 8000000 in
set_option pp.deepTerms false in
set_option maxRecDepth 60000 in
theorem F57_ok {H : IHeap} {K : IEnd → IHeap → Prop} (a0 : List (List S50)) {r : (List S50)} (h : F57 a0 = some r) (hK : K (.ret (.sl 2 (r.map fun x => [.v (str x.fName), .sl 1 (x.fValues.map fun x => [.v (str x)])]))) H) : ICalls prog 57 [.sl 1 (a0.map fun x => [.sl 2 (x.map fun x => [.v (str x.fName), .sl 1 (x.fValues.map fun x => [.v (str x)])])])] H K := by
 refine ICalls_iwp (N := 36) func57 (by kernel_rfl) rfl (by kernel_rfl) (by kernel_rfl) fun cb hcb hw hbd hnb => ?_
 clear hbd hnb
 subst hcb
 unfold F57 at h
 refine IWp_seqF fun cb hc1 => ?_
 refine vcK ?_
 try simp -implicitDefEqProofs (maxSteps := 1000000) (disch := omega) [go_sem]
 subst hc1
 refine IWp_seqF fun cb hc2 => ?_
 refine vcK ?_
 try simp -implicitDefEqProofs (maxSteps := 1000000) (disch := omega) [go_sem]
 subst hc2
 refine IWp_seqF fun cb hc3 => ?_
 refine IWp_seqF fun cb hc4 => ?_
 refine vcK ?_
 try simp -implicitDefEqProofs (maxSteps := 1000000) (disch := omega) [go_sem]
 subst hc4
 obtain ⟨y5, hl5q, hk5⟩ := bind_some' h
 refine IWp_tailC (fun tm' H' => ∃ v8 : Int, v8 = y5 ∧ H = H' ∧ tm' 0 = .sl 1 (a0.map fun x => [.sl 2 (x.map fun x => [.v (str x.fName), .sl 1 (x.fValues.map fun x => [.v (str x)])])]) ∧ tm' 3 = .v (.int .i64 v8)) ?_ fun cb hc5 => ?_
 ·rintro tm5e H5e ⟨v8, rfl, rfl, t0_5e, t3_5e⟩
  have h : F57_k5 a0 v8 = some r := hk5
  unfold F57_k5 at h
  simp -implicitDefEqProofs only [go_sem]
  subst hc3
  refine IWp_seqF fun cb hc9 => ?_
  refine vcK ?_
  try simp -implicitDefEqProofs (maxSteps := 1000000) (disch := omega) [go_sem, t0_5e, t3_5e]
  obtain ⟨x10, hx10, h⟩ := bind_some' h
  refine ICalls.eqA (args' := [.v (.slice none 0 0), .v (.int .i64 v8)]) (by first | with_reducible rfl | (simp -implicitDefEqProofs (maxSteps := 1000000) (disch := omega) [go_sem, t0_5e, t3_5e] <;> omega)) (F90_ok [] v8 hx10 ?_)
  try simp -implicitDefEqProofs (maxSteps := 1000000) (disch := omega) [go_sem, t0_5e, t3_5e]
  subst hc9
  refine IWp_seqF fun cb hc12 => ?_
  refine IWp_seqF fun cb hc13 => ?_
  refine vcK ?_
  try simp -implicitDefEqProofs (maxSteps := 1000000) (disch := omega) [go_sem, t0_5e, t3_5e]
  subst hc13
  obtain ⟨y14, hl14q, hk14⟩ := bind_some' h
  refine IWp_tailC (fun tm' H' => ∃ n19 : Nat, ∃ v18 : List S50, v18 = y14 ∧ Ext H H' ∧ H.next + 1 ≤ H'.next ∧ H.next ≤ n19 ∧ n19 < H'.next ∧ tm' 6 = .os n19 v18.length ∧ H'.obj n19 = some (.row 2 (v18.map fun x => [.v (str x.fName), .sl 1 (x.fValues.map fun x => [.v (str x)])]))) ?_ fun cb hc14 => ?_
  ·rintro tm14e H14e ⟨n19, v18, rfl, he14e, hl14e, hr0_14e, hs0_14e, t6_14e, or0_14e⟩
   have h : F57_k14 v18 = some r := hk14
   unfold F57_k14 at h
   simp -implicitDefEqProofs only [go_sem]
   subst hc12
   refine IWp_seqF fun cb hc20 => ?_
   refine vcK ?_
   try simp -implicitDefEqProofs (maxSteps := 1000000) (disch := omega) [go_sem, t6_14e, or0_14e]
   subst hc20
   refine IWp.gh (Gh.freeze (d := 2) (k := n19) (sz := 2) (es := v18.map fun x => [.v (str x.fName), .sl 1 (x.fValues.map fun x => [.v (str x)])]) (by simp -implicitDefEqProofs (maxSteps := 1000000) (disch := omega) [go_sem, t6_14e, or0_14e]) (by simp -implicitDefEqProofs (maxSteps := 1000000) (disch := omega) [go_sem, t6_14e, or0_14e])) ?_
   refine vcK ?_
   simp -implicitDefEqProofs only [go_sem]
   have er := Option.some.inj h
   subst er
   try simp -implicitDefEqProofs (maxSteps := 1000000) (disch := omega) [go_sem, t6_14e, or0_14e]
   refine retG_pureA he14e hK (e := by first | with_reducible rfl | (simp -implicitDefEqProofs (maxSteps := 1000000) (disch := omega) [go_sem, t6_14e, or0_14e] <;> omega))
  ·refine IWp_block ?_
   refine IWp_loopF (fun (s : (List S50) × Int) tm' H' => ∃ n16 : Nat, Ext H H' ∧ H.next + 1 ≤ H'.next ∧ H.next ≤ n16 ∧ n16 < H'.next ∧ tm' 6 = .os n16 s.1.length ∧ tm' 25 = .sl 1 (a0.map fun x => [.sl 2 (x.map fun x => [.v (str x.fName), .sl 1 (x.fValues.map fun x => [.v (str x)])])]) ∧ tm' 26 = .v (.int .i64 (a0.length : Int)) ∧ tm' 27 = .v (.int .i64 s.2) ∧ H'.obj n16 = some (.row 2 (s.1.map fun x => [.v (str x.fName), .sl 1 (x.fValues.map fun x => [.v (str x)])]))) hl14q ?_ ?_
   ·refine .same ⟨H.next, by repeat (first | exact (Ext.refl hw) | refine Ext.new ?_ _ | refine Ext.set ?_ (by first | omega | (simp [go_sem]; done) | (simp [go_sem]; omega)) _ | refine Ext.del ?_ (by first | omega | (simp [go_sem]; done) | (simp [go_sem]; omega))), by first | with_reducible rfl | with_reducible assumption | omega | (simp -implicitDefEqProofs (maxSteps := 1000000) (disch := omega) [go_sem, t0_5e, t3_5e] <;> omega), by first | with_reducible rfl | with_reducible assumption | omega | (simp -implicitDefEqProofs (maxSteps := 1000000) (disch := omega) [go_sem, t0_5e, t3_5e] <;> omega), by first | with_reducible rfl | with_reducible assumption | omega | (simp -implicitDefEqProofs (maxSteps := 1000000) (disch := omega) [go_sem, t0_5e, t3_5e] <;> omega), by first | with_reducible rfl | with_reducible assumption | (simp -implicitDefEqProofs (maxSteps := 1000000) (disch := omega) [go_sem, t0_5e, t3_5e] <;> omega), by first | with_reducible rfl | with_reducible assumption | (simp -implicitDefEqProofs (maxSteps := 1000000) (disch := omega) [go_sem, t0_5e, t3_5e] <;> omega), by first | with_reducible rfl | with_reducible assumption | (simp -implicitDefEqProofs (maxSteps := 1000000) (disch := omega) [go_sem, t0_5e, t3_5e] <;> omega), by first | with_reducible rfl | with_reducible assumption | (simp -implicitDefEqProofs (maxSteps := 1000000) (disch := omega) [go_sem, t0_5e, t3_5e] <;> omega), by first | with_reducible rfl | with_reducible assumption | (simp -implicitDefEqProofs (maxSteps := 1000000) (disch := omega) [go_sem, t0_5e, t3_5e] <;> omega)⟩
   ·rintro I14 hI14 ⟨v15, v17⟩ x14 tm14 H14 ⟨n16, he14, hl14, hr0_14, hs0_14, t6_14, t25_14, t26_14, t27_14, or0_14⟩ h hret14
    replace h : F57_b14 a0 v15 v17 = some x14 := h
    unfold F57_b14 at h
    refine IWp_seqF fun cb hc21 => ?_
    refine vcK ?_
    try simp -implicitDefEqProofs (maxSteps := 1000000) (disch := omega) [go_sem, t6_14, t25_14, t26_14, t27_14, or0_14]
    subst hc21
    refine IWp_seqF fun cb hc22 => ?_
    refine IWp_cond_i h (by first | with_reducible rfl | (simp -implicitDefEqProofs (maxSteps := 1000000) (disch := omega) [go_sem, t6_14, t25_14, t26_14, t27_14, or0_14] <;> omega)) rfl ?_ ?_
    ·intro c23 h
     try simp -implicitDefEqProofs (disch := omega) at c23
     refine vcK ?_
     simp -implicitDefEqProofs only [go_sem]
     subst hc22
     refine IWp_seqF fun cb hc24 => ?_
     refine IWp_block ?_
     refine IWp_seqF fun cb hc25 => ?_
     refine vcK ?_
     obtain ⟨g26, h⟩ := gd_some.1 h
     try simp -implicitDefEqProofs (disch := omega) at g26
     try simp -implicitDefEqProofs (maxSteps := 1000000) (disch := omega) [go_sem, t6_14, t25_14, t26_14, t27_14, or0_14]
     subst hc25
     refine vcK ?_
     obtain ⟨g27, h⟩ := gd_some.1 h
     try simp -implicitDefEqProofs (disch := omega) at g27
     try simp -implicitDefEqProofs (maxSteps := 1000000) (disch := omega) [go_sem, t6_14, t25_14, t26_14, t27_14, or0_14]
     subst hc24
     refine vcK ?_
     try simp -implicitDefEqProofs (maxSteps := 1000000) (disch := omega) [go_sem, t6_14, t25_14, t26_14, t27_14, or0_14]
     have e14 := Option.some.inj h
     subst e14
     refine loopN_mk hI14 ((v15 ++ (a0.getD v17.toNat []), IntKind.i64.wrap (v17 + 1))) ?_
     refine .same ⟨n16, by repeat (first | exact he14 | refine Ext.new ?_ _ | refine Ext.set ?_ (by first | omega | (simp [go_sem]; done) | (simp [go_sem]; omega)) _ | refine Ext.del ?_ (by first | omega | (simp [go_sem]; done) | (simp [go_sem]; omega))), by first | with_reducible rfl | with_reducible assumption | omega | (simp -implicitDefEqProofs (maxSteps := 1000000) (disch := omega) [go_sem, t6_14, t25_14, t26_14, t27_14, or0_14] <;> omega), by first | with_reducible rfl | with_reducible assumption | omega | (simp -implicitDefEqProofs (maxSteps := 1000000) (disch := omega) [go_sem, t6_14, t25_14, t26_14, t27_14, or0_14] <;> omega), by first | with_reducible rfl | with_reducible assumption | omega | (simp -implicitDefEqProofs (maxSteps := 1000000) (disch := omega) [go_sem, t6_14, t25_14, t26_14, t27_14, or0_14] <;> omega), by first | with_reducible rfl | with_reducible assumption | (simp -implicitDefEqProofs (maxSteps := 1000000) (disch := omega) [go_sem, t6_14, t25_14, t26_14, t27_14, or0_14] <;> omega), by first | with_reducible rfl | with_reducible assumption | (simp -implicitDefEqProofs (maxSteps := 1000000) (disch := omega) [go_sem, t6_14, t25_14, t26_14, t27_14, or0_14] <;> omega), by first | with_reducible rfl | with_reducible assumption | (simp -implicitDefEqProofs (maxSteps := 1000000) (disch := omega) [go_sem, t6_14, t25_14, t26_14, t27_14, or0_14] <;> omega), by first | with_reducible rfl | with_reducible assumption | (simp -implicitDefEqProofs (maxSteps := 1000000) (disch := omega) [go_sem, t6_14, t25_14, t26_14, t27_14, or0_14] <;> omega), by first | with_reducible rfl | with_reducible assumption | (simp -implicitDefEqProofs (maxSteps := 1000000) (disch := omega) [go_sem, t6_14, t25_14, t26_14, t27_14, or0_14] <;> omega)⟩
    ·intro c23 h
     try simp -implicitDefEqProofs (disch := omega) at c23
     refine vcK ?_
     simp -implicitDefEqProofs only [go_sem]
     have e14 := Option.some.inj h
     subst e14
     have hy14 := hret14 _ rfl
     refine hc14 _ _ ?_
     refine .same ⟨n16, v15, hy14, by repeat (first | exact he14 | refine Ext.new ?_ _ | refine Ext.set ?_ (by first | omega | (simp [go_sem]; done) | (simp [go_sem]; omega)) _ | refine Ext.del ?_ (by first | omega | (simp [go_sem]; done) | (simp [go_sem]; omega))), by first | with_reducible rfl | with_reducible assumption | omega | (simp -implicitDefEqProofs (maxSteps := 1000000) (disch := omega) [go_sem, t6_14, t25_14, t26_14, t27_14, or0_14] <;> omega), by first | with_reducible rfl | with_reducible assumption | omega | (simp -implicitDefEqProofs (maxSteps := 1000000) (disch := omega) [go_sem, t6_14, t25_14, t26_14, t27_14, or0_14] <;> omega), by first | with_reducible rfl | with_reducible assumption | omega | (simp -implicitDefEqProofs (maxSteps := 1000000) (disch := omega) [go_sem, t6_14, t25_14, t26_14, t27_14, or0_14] <;> omega), by first | with_reducible rfl | with_reducible assumption | (simp -implicitDefEqProofs (maxSteps := 1000000) (disch := omega) [go_sem, t6_14, t25_14, t26_14, t27_14, or0_14] <;> omega), by first | with_reducible rfl | with_reducible assumption | (simp -implicitDefEqProofs (maxSteps := 1000000) (disch := omega) [go_sem, t6_14, t25_14, t26_14, t27_14, or0_14] <;> omega)⟩
 ·refine IWp_block ?_
  refine IWp_loopF (fun (s : Int × Int) tm' H' => H = H' ∧ tm' 0 = .sl 1 (a0.map fun x => [.sl 2 (x.map fun x => [.v (str x.fName), .sl 1 (x.fValues.map fun x => [.v (str x)])])]) ∧ tm' 3 = .v (.int .i64 s.1) ∧ tm' 9 = .sl 1 (a0.map fun x => [.sl 2 (x.map fun x => [.v (str x.fName), .sl 1 (x.fValues.map fun x => [.v (str x)])])]) ∧ tm' 10 = .v (.int .i64 (a0.length : Int)) ∧ tm' 11 = .v (.int .i64 s.2)) hl5q ?_ ?_
  ·refine .same ⟨rfl, ?_, ?_, ?_, ?_, ?_⟩ <;> first | with_reducible rfl | with_reducible assumption | (simp -implicitDefEqProofs (maxSteps := 1000000) (disch := omega) [go_sem] <;> omega)
  ·rintro I5 hI5 ⟨v6, v7⟩ x5 tm5 H5 ⟨rfl, t0_5, t3_5, t9_5, t10_5, t11_5⟩ h hret5
   replace h : F57_b5 a0 v6 v7 = some x5 := h
   unfold F57_b5 at h
   refine IWp_seqF fun cb hc28 => ?_
   refine vcK ?_
   try simp -implicitDefEqProofs (maxSteps := 1000000) (disch := omega) [go_sem, t0_5, t3_5, t9_5, t10_5, t11_5]
   subst hc28
   refine IWp_seqF fun cb hc29 => ?_
   refine IWp_cond_i h (by first | with_reducible rfl | (simp -implicitDefEqProofs (maxSteps := 1000000) (disch := omega) [go_sem, t0_5, t3_5, t9_5, t10_5, t11_5] <;> omega)) rfl ?_ ?_
   ·intro c30 h
    try simp -implicitDefEqProofs (disch := omega) at c30
    refine vcK ?_
    simp -implicitDefEqProofs only [go_sem]
    subst hc29
    refine IWp_seqF fun cb hc31 => ?_
    refine IWp_block ?_
    refine IWp_seqF fun cb hc32 => ?_
    refine vcK ?_
    obtain ⟨g33, h⟩ := gd_some.1 h
    try simp -implicitDefEqProofs (disch := omega) at g33
    try simp -implicitDefEqProofs (maxSteps := 1000000) (disch := omega) [go_sem, t0_5, t3_5, t9_5, t10_5, t11_5]
    subst hc32
    refine IWp_seqF fun cb hc34 => ?_
    refine vcK ?_
    try simp -implicitDefEqProofs (maxSteps := 1000000) (disch := omega) [go_sem, t0_5, t3_5, t9_5, t10_5, t11_5]
    subst hc34
    refine IWp_seqF fun cb hc35 => ?_
    refine vcK ?_
    try simp -implicitDefEqProofs (maxSteps := 1000000) (disch := omega) [go_sem, t0_5, t3_5, t9_5, t10_5, t11_5]
    subst hc35
    refine IWp_cond_i h (by first | with_reducible rfl | (simp -implicitDefEqProofs (maxSteps := 1000000) (disch := omega) [go_sem, t0_5, t3_5, t9_5, t10_5, t11_5] <;> omega)) rfl ?_ ?_
    ·intro c36 h
     try simp -implicitDefEqProofs (disch := omega) at c36
     cases h
    ·intro c36 h
     try simp -implicitDefEqProofs (disch := omega) at c36
     refine vcK ?_
     simp -implicitDefEqProofs only [go_sem]
     subst hc31
     refine vcK ?_
     try simp -implicitDefEqProofs (maxSteps := 1000000) (disch := omega) [go_sem, t0_5, t3_5, t9_5, t10_5, t11_5]
     have e5 := Option.some.inj h
     subst e5
     refine loopN_mk hI5 ((IntKind.i64.wrap (v6 + (((a0.getD v7.toNat []).length : Int))), IntKind.i64.wrap (v7 + 1))) ?_
     refine .same ⟨rfl, ?_, ?_, ?_, ?_, ?_⟩ <;> first | with_reducible rfl | with_reducible assumption | (simp -implicitDefEqProofs (maxSteps := 1000000) (disch := omega) [go_sem, t0_5, t3_5, t9_5, t10_5, t11_5] <;> omega)
   ·intro c30 h
    try simp -implicitDefEqProofs (disch := omega) at c30
    refine vcK ?_
    simp -implicitDefEqProofs only [go_sem]
    have e5 := Option.some.inj h
    subst e5
    have hy5 := hret5 _ rfl
    refine hc5 _ _ ?_
    refine .same ⟨v6, hy5, rfl, ?_, ?_⟩ <;> first | with_reducible rfl | with_reducible assumption | (simp -implicitDefEqProofs (maxSteps := 1000000) (disch := omega) [go_sem, t0_5, t3_5, t9_5, t10_5, t11_5] <;> omega)

/-! cardcase/entry.Get -/

noncomputable def F22_k4  : Option ((List (List UInt8))) :=
 some []

noncomputable def F22_b4 (a0 : List S50) (a1 : List UInt8) (v5 : Int) : Option (Int ⊕ (Unit ⊕ ((List (List UInt8))))) :=
 if v5 < (a0.length : Int) then (gd (0 ≤ v5 ∧ v5 < a0.length) ((F41 a1).bind fun (x14 : (List UInt8)) => if ((a0.getD v5.toNat S50.zero).fName) = x14 then ((F56 ((a0.getD v5.toNat S50.zero).fValues)).bind fun (x17 : (List (List UInt8))) => some (.inr (.inr x17))) else (some (.inl (IntKind.i64.wrap (v5 + 1)))))) else (some (.inr (.inl ())))

noncomputable def F22 (a0 : List S50) (a1 : List UInt8) : Option ((List (List UInt8))) :=
 (loopO (fun (s : Int) => F22_b4 a0 a1 s) 0).bind fun y => Sum.elim (fun (e : Unit) => F22_k4) (fun (q : (List (List UInt8))) => some q) y

set_option maxHeartbeats 8000000 in
set_option pp.deepTerms false in
set_option maxRecDepth 60000 in
theorem F22_ok {H : IHeap} {K : IEnd → IHeap → Prop} (a0 : List S50) (a1 : List UInt8) {r : (List (List UInt8))} (h : F22 a0 a1 = some r) (hK : K (.ret (.sl 1 (r.map fun x => [.v (str x)]))) H) : ICalls prog 22 [.sl 2 (a0.map fun x => [.v (str x.fName), .sl 1 (x.fValues.map fun x => [.v (str x)])]), .v (str a1)] H K := by
 refine ICalls_iwp (N := 22) func22 (by kernel_rfl) rfl (by kernel_rfl) (by kernel_rfl) fun cb hcb hw hbd hnb => ?_
 clear hbd hnb
 subst hcb
 unfold F22 at h
 refine IWp_seqF fun cb hc1 => ?_
 refine vcK ?_
 try simp -implicitDefEqProofs (maxSteps := 1000000) (disch := omega) [go_sem]
 subst hc1
 refine IWp_seqF fun cb hc2 => ?_
 refine IWp_seqF fun cb hc3 => ?_
 refine vcK ?_
 try simp -implicitDefEqProofs (maxSteps := 1000000) (disch := omega) [go_sem]
 subst hc3
 obtain ⟨y4, hl4q, hk4⟩ := bind_some' h
 refine IWp_tailC (fun tm' H' => .inl () = y4 ∧ Ext H H' ∧ H.next ≤ H'.next) ?_ fun cb hc4 => ?_
 ·rintro tm4e H4e ⟨rfl, he4e, hl4e⟩
  have h : F22_k4 = some r := hk4
  unfold F22_k4 at h
  simp -implicitDefEqProofs only [go_sem]
  subst hc2
  refine IWp_seqF fun cb hc6 => ?_
  refine vcK ?_
  try simp -implicitDefEqProofs (maxSteps := 1000000) (disch := omega) [go_sem]
  subst hc6
  refine IWp.gh (Gh.slotN 4 1 (by simp -implicitDefEqProofs (maxSteps := 1000000) (disch := omega) [go_sem])) ?_
  refine vcK ?_
  simp -implicitDefEqProofs only [go_sem]
  have er := Option.some.inj h
  subst er
  try simp -implicitDefEqProofs (maxSteps := 1000000) (disch := omega) [go_sem]
  refine retG_pureA he4e hK (e := by first | with_reducible rfl | (simp -implicitDefEqProofs (maxSteps := 1000000) (disch := omega) [go_sem] <;> omega))
 ·refine IWp_block ?_
  refine IWp_loopF (fun (s : Int) tm' H' => Ext H H' ∧ H.next ≤ H'.next ∧ tm' 1 = .v (str a1) ∧ tm' 7 = .sl 2 (a0.map fun x => [.v (str x.fName), .sl 1 (x.fValues.map fun x => [.v (str x)])]) ∧ tm' 8 = .v (.int .i64 (a0.length : Int)) ∧ tm' 9 = .v (.int .i64 s)) hl4q ?_ ?_
  ·refine .same ⟨by repeat (first | exact (Ext.refl hw) | refine Ext.new ?_ _ | refine Ext.set ?_ (by first | omega | (simp [go_sem]; done) | (simp [go_sem]; omega)) _ | refine Ext.del ?_ (by first | omega | (simp [go_sem]; done) | (simp [go_sem]; omega))), by first | with_reducible rfl | with_reducible assumption | omega | (simp -implicitDefEqProofs (maxSteps := 1000000) (disch := omega) [go_sem] <;> omega), by first | with_reducible rfl | with_reducible assumption | (simp -implicitDefEqProofs (maxSteps := 1000000) (disch := omega) [go_sem] <;> omega), by first | with_reducible rfl | with_reducible assumption | (simp -implicitDefEqProofs (maxSteps := 1000000) (disch := omega) [go_sem] <;> omega), by first | with_reducible rfl | with_reducible assumption | (simp -implicitDefEqProofs (maxSteps := 1000000) (disch := omega) [go_sem] <;> omega), by first | with_reducible rfl | with_reducible assumption | (simp -implicitDefEqProofs (maxSteps := 1000000) (disch := omega) [go_sem] <;> omega)⟩
  ·rintro I4 hI4 v5 x4 tm4 H4 ⟨he4, hl4, t1_4, t7_4, t8_4, t9_4⟩ h hret4
   replace h : F22_b4 a0 a1 v5 = some x4 := h
   unfold F22_b4 at h
   refine IWp_seqF fun cb hc7 => ?_
   refine vcK ?_
   try simp -implicitDefEqProofs (maxSteps := 1000000) (disch := omega) [go_sem, t1_4, t7_4, t8_4, t9_4]
   subst hc7
   refine IWp_seqF fun cb hc8 => ?_
   refine IWp_cond_i h (by first | with_reducible rfl | (simp -implicitDefEqProofs (maxSteps := 1000000) (disch := omega) [go_sem, t1_4, t7_4, t8_4, t9_4] <;> omega)) rfl ?_ ?_
   ·intro c9 h
    try simp -implicitDefEqProofs (disch := omega) at c9
    refine vcK ?_
    simp -implicitDefEqProofs only [go_sem]
    subst hc8
    refine IWp_seqF fun cb hc10 => ?_
    refine IWp_block ?_
    refine IWp_seqF fun cb hc11 => ?_
    refine vcK ?_
    obtain ⟨g12, h⟩ := gd_some.1 h
    try simp -implicitDefEqProofs (disch := omega) at g12
    try simp -implicitDefEqProofs (maxSteps := 1000000) (disch := omega) [go_sem, t1_4, t7_4, t8_4, t9_4]
    subst hc11
    refine IWp_seqF fun cb hc13 => ?_
    refine IWp_drawP [3] [0, 1, 2, 3, 4] (by kernel_rfl) (by kernel_rfl) (fun _ _ _ _ h => h) ?_
    try simp -implicitDefEqProofs (maxSteps := 1000000) (disch := omega) [go_sem, t1_4, t7_4, t8_4, t9_4]
    obtain ⟨x14, hx14, h⟩ := bind_some' h
    refine PureC.mk _ (fun _ _ hK => ICalls.eqA (args' := [.v (str a1)]) (by first | with_reducible rfl | (simp -implicitDefEqProofs (maxSteps := 1000000) (disch := omega) [go_sem, t1_4, t7_4, t8_4, t9_4] <;> omega)) (F41_ok a1 hx14 hK)) ?_
    try simp -implicitDefEqProofs (maxSteps := 1000000) (disch := omega) [go_sem, t1_4, t7_4, t8_4, t9_4]
    subst hc13
    refine IWp_cond_i h (by first | with_reducible rfl | (simp -implicitDefEqProofs (maxSteps := 1000000) (disch := omega) [go_sem, t1_4, t7_4, t8_4, t9_4] <;> omega)) rfl ?_ ?_
    ·intro c15 h
     try simp -implicitDefEqProofs (disch := omega) at c15
     refine IWp_seqF fun cb hc16 => ?_
     refine vcK ?_
     try simp -implicitDefEqProofs (maxSteps := 1000000) (disch := omega) [go_sem, t1_4, t7_4, t8_4, t9_4]
     obtain ⟨x17, hx17, h⟩ := bind_some' h
     refine ICalls.eqA (args' := [.sl 1 (((a0.getD v5.toNat S50.zero).fValues).map fun x => [.v (str x)])]) (by first | with_reducible rfl | (simp -implicitDefEqProofs (maxSteps := 1000000) (disch := omega) [go_sem, t1_4, t7_4, t8_4, t9_4] <;> omega)) (F56_ok ((a0.getD v5.toNat S50.zero).fValues) hx17 ?_)
     try simp -implicitDefEqProofs (maxSteps := 1000000) (disch := omega) [go_sem, t1_4, t7_4, t8_4, t9_4]
     subst hc16
     refine vcK ?_
     simp -implicitDefEqProofs only [go_sem]
     have e4 := Option.some.inj h
     subst e4
     have e4 := hret4 _ rfl
     subst e4
     replace h : some x17 = some r := hk4
     have er := Option.some.inj h
     subst er
     try simp -implicitDefEqProofs (maxSteps := 1000000) (disch := omega) [go_sem, t1_4, t7_4, t8_4, t9_4]
     refine retG_pureA he4 hK (e := by first | with_reducible rfl | (simp -implicitDefEqProofs (maxSteps := 1000000) (disch := omega) [go_sem, t1_4, t7_4, t8_4, t9_4] <;> omega))
    ·intro c15 h
     try simp -implicitDefEqProofs (disch := omega) at c15
     refine vcK ?_
     simp -implicitDefEqProofs only [go_sem]
     subst hc10
     refine vcK ?_
     try simp -implicitDefEqProofs (maxSteps := 1000000) (disch := omega) [go_sem, t1_4, t7_4, t8_4, t9_4]
     have e4 := Option.some.inj h
     subst e4
     refine loopN_mk hI4 (IntKind.i64.wrap (v5 + 1)) ?_
     refine .same ⟨by repeat (first | exact he4 | refine Ext.new ?_ _ | refine Ext.set ?_ (by first | omega | (simp [go_sem]; done) | (simp [go_sem]; omega)) _ | refine Ext.del ?_ (by first | omega | (simp [go_sem]; done) | (simp [go_sem]; omega))), by first | with_reducible rfl | with_reducible assumption | omega | (simp -implicitDefEqProofs (maxSteps := 1000000) (disch := omega) [go_sem, t1_4, t7_4, t8_4, t9_4] <;> omega), by first | with_reducible rfl | with_reducible assumption | (simp -implicitDefEqProofs (maxSteps := 1000000) (disch := omega) [go_sem, t1_4, t7_4, t8_4, t9_4] <;> omega), by first | with_reducible rfl | with_reducible assumption | (simp -implicitDefEqProofs (maxSteps := 1000000) (disch := omega) [go_sem, t1_4, t7_4, t8_4, t9_4] <;> omega), by first | with_reducible rfl | with_reducible assumption | (simp -implicitDefEqProofs (maxSteps := 1000000) (disch := omega) [go_sem, t1_4, t7_4, t8_4, t9_4] <;> omega), by first | with_reducible rfl | with_reducible assumption | (simp -implicitDefEqProofs (maxSteps := 1000000) (disch := omega) [go_sem, t1_4, t7_4, t8_4, t9_4] <;> omega)⟩
   ·intro c9 h
    try simp -implicitDefEqProofs (disch := omega) at c9
    refine vcK ?_
    simp -implicitDefEqProofs only [go_sem]
    have e4 := Option.some.inj h
    subst e4
    have hy4 := hret4 _ rfl
    refine hc4 _ _ ?_
    refine .same ⟨hy4, by repeat (first | exact he4 | refine Ext.new ?_ _ | refine Ext.set ?_ (by first | omega | (simp [go_sem]; done) | (simp [go_sem]; omega)) _ | refine Ext.del ?_ (by first | omega | (simp [go_sem]; done) | (simp [go_sem]; omega))), by first | with_reducible rfl | with_reducible assumption | omega | (simp -implicitDefEqProofs (maxSteps := 1000000) (disch := omega) [go_sem, t1_4, t7_4, t8_4, t9_4] <;> omega)⟩

/-! slices.Equal[[]string,string] -/

noncomputable def F60_k8  : Option Bool :=
 some true

noncomputable def F60_b8 (a0 : List (List UInt8)) (a1 : List (List UInt8)) (v9 : Int) : Option (Int ⊕ (Unit ⊕ Bool)) :=
 if v9 < (a0.length : Int) then (gd (0 ≤ v9 ∧ v9 < a0.length) (gd (0 ≤ v9 ∧ v9 < a1.length) (if ¬ (a0.getD v9.toNat []) = (a1.getD v9.toNat []) then (some (.inr (.inr false))) else (some (.inl (IntKind.i64.wrap (v9 + 1))))))) else (some (.inr (.inl ())))

noncomputable def F60 (a0 : List (List UInt8)) (a1 : List (List UInt8)) : Option Bool :=
 if ¬ (a0.length : Int) = (a1.length : Int) then (some false) else ((loopO (fun (s : Int) => F60_b8 a0 a1 s) 0).bind fun y => Sum.elim (fun (e : Unit) => F60_k8) (fun (q : Bool) => some q) y)

set_option maxHeartbeats 8000000 in
set_option pp.deepTerms false in
set_option maxRecDepth 60000 in
theorem F60_ok {H : IHeap} {K : IEnd → IHeap → Prop} (a0 : List (List UInt8)) (a1 : List (List UInt8)) {r : Bool} (h : F60 a0 a1 = some r) (hK : K (.ret (.v (.bool r))) H) : ICalls prog 60 [.sl 1 (a0.map fun x => [.v (str x)]), .sl 1 (a1.map fun x => [.v (str x)])] H K := by
 refine ICalls_iwp (N := 26) func60 (by kernel_rfl) rfl (by kernel_rfl) (by kernel_rfl) fun cb hcb hw hbd hnb => ?_
 clear hbd hnb
 subst hcb
 unfold F60 at h
 refine IWp_seqF fun cb hc1 => ?_
 refine vcK ?_
 try simp -implicitDefEqProofs (maxSteps := 1000000) (disch := omega) [go_sem]
 subst hc1
 refine IWp_seqF fun cb hc2 => ?_
 refine IWp_seqF fun cb hc3 => ?_
 refine vcK ?_
 try simp -implicitDefEqProofs (maxSteps := 1000000) (disch := omega) [go_sem]
 subst hc3
 refine IWp_cond_i h (by first | with_reducible rfl | (simp -implicitDefEqProofs (maxSteps := 1000000) (disch := omega) [go_sem] <;> omega)) rfl ?_ ?_
 ·intro c4 h
  try simp -implicitDefEqProofs (disch := omega) at c4
  refine IWp_seqF fun cb hc5 => ?_
  refine vcK ?_
  try simp -implicitDefEqProofs (maxSteps := 1000000) (disch := omega) [go_sem]
  subst hc5
  refine vcK ?_
  simp -implicitDefEqProofs only [go_sem]
  have er := Option.some.inj h
  subst er
  try simp -implicitDefEqProofs (maxSteps := 1000000) (disch := omega) [go_sem]
  refine retG_pureA (Ext.refl hw) hK (e := by first | with_reducible rfl | (simp -implicitDefEqProofs (maxSteps := 1000000) (disch := omega) [go_sem] <;> omega))
 ·intro c4 h
  try simp -implicitDefEqProofs (disch := omega) at c4
  refine vcK ?_
  simp -implicitDefEqProofs only [go_sem]
  subst hc2
  refine IWp_seqF fun cb hc6 => ?_
  refine IWp_seqF fun cb hc7 => ?_
  refine vcK ?_
  try simp -implicitDefEqProofs (maxSteps := 1000000) (disch := omega) [go_sem]
  subst hc7
  obtain ⟨y8, hl8q, hk8⟩ := bind_some' h
  refine IWp_tailC (fun tm' H' => .inl () = y8 ∧ H = H') ?_ fun cb hc8 => ?_
  ·rintro tm8e H8e ⟨rfl, rfl⟩
   have h : F60_k8 = some r := hk8
   unfold F60_k8 at h
   simp -implicitDefEqProofs only [go_sem]
   subst hc6
   refine IWp_seqF fun cb hc10 => ?_
   refine vcK ?_
   try simp -implicitDefEqProofs (maxSteps := 1000000) (disch := omega) [go_sem]
   subst hc10
   refine vcK ?_
   simp -implicitDefEqProofs only [go_sem]
   have er := Option.some.inj h
   subst er
   try simp -implicitDefEqProofs (maxSteps := 1000000) (disch := omega) [go_sem]
   refine retG_pureA (Ext.refl hw) hK (e := by first | with_reducible rfl | (simp -implicitDefEqProofs (maxSteps := 1000000) (disch := omega) [go_sem] <;> omega))
  ·refine IWp_block ?_
   refine IWp_loopF (fun (s : Int) tm' H' => H = H' ∧ tm' 0 = .sl 1 (a0.map fun x => [.v (str x)]) ∧ tm' 1 = .sl 1 (a1.map fun x => [.v (str x)]) ∧ tm' 12 = .v (.int .i64 (a0.length : Int)) ∧ tm' 13 = .v (.int .i64 s)) hl8q ?_ ?_
   ·refine .same ⟨rfl, ?_, ?_, ?_, ?_⟩ <;> first | with_reducible rfl | with_reducible assumption | (simp -implicitDefEqProofs (maxSteps := 1000000) (disch := omega) [go_sem] <;> omega)
   ·rintro I8 hI8 v9 x8 tm8 H8 ⟨rfl, t0_8, t1_8, t12_8, t13_8⟩ h hret8
    replace h : F60_b8 a0 a1 v9 = some x8 := h
    unfold F60_b8 at h
    refine IWp_seqF fun cb hc11 => ?_
    refine vcK ?_
    try simp -implicitDefEqProofs (maxSteps := 1000000) (disch := omega) [go_sem, t0_8, t1_8, t12_8, t13_8]
    subst hc11
    refine IWp_seqF fun cb hc12 => ?_
    refine IWp_cond_i h (by first | with_reducible rfl | (simp -implicitDefEqProofs (maxSteps := 1000000) (disch := omega) [go_sem, t0_8, t1_8, t12_8, t13_8] <;> omega)) rfl ?_ ?_
    ·intro c13 h
     try simp -implicitDefEqProofs (disch := omega) at c13
     refine vcK ?_
     simp -implicitDefEqProofs only [go_sem]
     subst hc12
     refine IWp_seqF fun cb hc14 => ?_
     refine IWp_block ?_
     refine IWp_seqF fun cb hc15 => ?_
     refine vcK ?_
     try simp -implicitDefEqProofs (maxSteps := 1000000) (disch := omega) [go_sem, t0_8, t1_8, t12_8, t13_8]
     subst hc15
     refine IWp_seqF fun cb hc16 => ?_
     refine IWp_drawP [] [0, 1, 2, 3, 4, 5, 6, 7, 8] (by kernel_rfl) (by kernel_rfl) (fun _ _ _ _ h => h) ?_
     obtain ⟨g17, h⟩ := gd_some.1 h
     try simp -implicitDefEqProofs (disch := omega) at g17
     obtain ⟨g18, h⟩ := gd_some.1 h
     try simp -implicitDefEqProofs (disch := omega) at g18
     try simp -implicitDefEqProofs (maxSteps := 1000000) (disch := omega) [go_sem, t0_8, t1_8, t12_8, t13_8]
     subst hc16
     refine IWp_cond_i h (by first | with_reducible rfl | (simp -implicitDefEqProofs (maxSteps := 1000000) (disch := omega) [go_sem, t0_8, t1_8, t12_8, t13_8] <;> omega)) rfl ?_ ?_
     ·intro c19 h
      try simp -implicitDefEqProofs (disch := omega) at c19
      refine IWp_seqF fun cb hc20 => ?_
      refine vcK ?_
      try simp -implicitDefEqProofs (maxSteps := 1000000) (disch := omega) [go_sem, t0_8, t1_8, t12_8, t13_8]
      subst hc20
      refine vcK ?_
      simp -implicitDefEqProofs only [go_sem]
      have e8 := Option.some.inj h
      subst e8
      have e8 := hret8 _ rfl
      subst e8
      replace h : some false = some r := hk8
      have er := Option.some.inj h
      subst er
      try simp -implicitDefEqProofs (maxSteps := 1000000) (disch := omega) [go_sem, t0_8, t1_8, t12_8, t13_8]
      refine retG_pureA (Ext.refl hw) hK (e := by first | with_reducible rfl | (simp -implicitDefEqProofs (maxSteps := 1000000) (disch := omega) [go_sem, t0_8, t1_8, t12_8, t13_8] <;> omega))
     ·intro c19 h
      try simp -implicitDefEqProofs (disch := omega) at c19
      refine vcK ?_
      simp -implicitDefEqProofs only [go_sem]
      subst hc14
      refine vcK ?_
      try simp -implicitDefEqProofs (maxSteps := 1000000) (disch := omega) [go_sem, t0_8, t1_8, t12_8, t13_8]
      have e8 := Option.some.inj h
      subst e8
      refine loopN_mk hI8 (IntKind.i64.wrap (v9 + 1)) ?_
      refine .same ⟨rfl, ?_, ?_, ?_, ?_⟩ <;> first | with_reducible rfl | with_reducible assumption | (simp -implicitDefEqProofs (maxSteps := 1000000) (disch := omega) [go_sem, t0_8, t1_8, t12_8, t13_8] <;> omega)
    ·intro c13 h
     try simp -implicitDefEqProofs (disch := omega) at c13
     refine vcK ?_
     simp -implicitDefEqProofs only [go_sem]
     have e8 := Option.some.inj h
     subst e8
     have hy8 := hret8 _ rfl
     refine hc8 _ _ ?_
     refine .same ⟨hy8, rfl⟩

/-! cardcase/entry.Diff -/

noncomputable def F24_k17 (v21 : List S48) : Option ((List S48) × Int) :=
 some (v21, 0)

noncomputable def F24_b17 (a0 : List S50) (a1 : List S50) (x16 : (List (List UInt8))) (v18 : List S48) (v20 : Int) : Option (((List S48) × Int) ⊕ (List S48)) :=
 if v20 < (x16.length : Int) then (gd (0 ≤ v20 ∧ v20 < x16.length) ((F22 a0 (x16.getD v20.toNat [])).bind fun (x31 : (List (List UInt8))) => (F22 a1 (x16.getD v20.toNat [])).bind fun (x32 : (List (List UInt8))) => (F60 x31 x32).bind fun (x36 : Bool) => if x36 = true then (some (.inl ((v18, IntKind.i64.wrap (v20 + 1))))) else (if (x32.length : Int) = 0 then (gd ((v18.length + ([(⟨2, x16.getD v20.toNat [], x32⟩ : S48)]).length) * 48 ≤ 140737488355328) (some (.inl ((v18 ++ ([(⟨2, x16.getD v20.toNat [], x32⟩ : S48)]), IntKind.i64.wrap (v20 + 1)))))) else (if (x31.length : Int) = 0 then (gd ((v18.length + ([(⟨1, x16.getD v20.toNat [], x32⟩ : S48)]).length) * 48 ≤ 140737488355328) (some (.inl ((v18 ++ ([(⟨1, x16.getD v20.toNat [], x32⟩ : S48)]), IntKind.i64.wrap (v20 + 1)))))) else (gd ((v18.length + ([(⟨3, x16.getD v20.toNat [], x32⟩ : S48)]).length) * 48 ≤ 140737488355328) (some (.inl ((v18 ++ ([(⟨3, x16.getD v20.toNat [], x32⟩ : S48)]), IntKind.i64.wrap (v20 + 1)))))))))) else (some (.inr v18))

noncomputable def F24 (a0 : List S50) (a1 : List S50) : Option ((List S48) × Int) :=
 (F17 a0).bind fun (x4 : Int) => if ¬ x4 = 0 then (some ([], 2)) else ((F17 a1).bind fun (x6 : Int) => if ¬ x6 = 0 then (some ([], 2)) else ((F57 ([a0, a1])).bind fun (x11 : (List S50)) => (F40 x11).bind fun (x12 : (List (List UInt8 × (List (List UInt8))))) => (F58k x12).bind fun (x16 : (List (List UInt8))) => (loopO (fun (s : (List S48) × Int) => F24_b17 a0 a1 x16 s.1 s.2) ([], 0)).bind fun (e : (List S48)) => F24_k17 e))

set_option maxHeartbeats 8000000 in
set_option pp.deepTerms false in
set_option maxRecDepth 60000 in
theorem F24_ok {H : IHeap} {K : IEnd → IHeap → Prop} (a0 : List S50) (a1 : List S50) {r : (List S48) × Int} (h : F24 a0 a1 = some r) (hK : K (.ret (.tu [.sl 3 (r.1.map fun x => [.v (.int .i64 x.fKind), .v (str x.fName), .sl 1 (x.fValues.map fun x => [.v (str x)])]), .v (.int .i64 r.2)])) H) : ICalls prog 24 [.sl 2 (a0.map fun x => [.v (str x.fName), .sl 1 (x.fValues.map fun x => [.v (str x)])]), .sl 2 (a1.map fun x => [.v (str x.fName), .sl 1 (x.fValues.map fun x => [.v (str x)])])] H K := by
 refine ICalls_iwp (N := 63) func24 (by kernel_rfl) rfl (by kernel_rfl) (by kernel_rfl) fun cb hcb hw hbd hnb => ?_
 clear hbd hnb
 subst hcb
 unfold F24 at h
 refine IWp_seqF fun cb hc1 => ?_
 refine vcK ?_
 try simp -implicitDefEqProofs (maxSteps := 1000000) (disch := omega) [go_sem, bdP]
 subst hc1
 refine IWp_seqF fun cb hc2 => ?_
 refine IWp_seqF fun cb hc3 => ?_
 refine vcK ?_
 try simp -implicitDefEqProofs (maxSteps := 1000000) (disch := omega) [go_sem, bdP]
 obtain ⟨x4, hx4, h⟩ := bind_some' h
 refine ICalls.eqA (args' := [.sl 2 (a0.map fun x => [.v (str x.fName), .sl 1 (x.fValues.map fun x => [.v (str x)])])]) (by first | with_reducible rfl | (simp -implicitDefEqProofs (maxSteps := 1000000) (disch := omega) [go_sem, bdP] <;> omega)) (F17_ok a0 hx4 ?_)
 try simp -implicitDefEqProofs (maxSteps := 1000000) (disch := omega) [go_sem, bdP]
 refine splitG_f h (by first | with_reducible rfl | (simp -implicitDefEqProofs (maxSteps := 1000000) (disch := omega) [go_sem, bdP] <;> omega)) ?_ ?_
 ·intro c49 h
  try simp -implicitDefEqProofs (disch := omega) at c49
  try simp -implicitDefEqProofs (maxSteps := 1000000) (disch := omega) [go_sem, bdP]
  subst hc3
  refine IWp_cond_t (by first | with_reducible rfl | (simp -implicitDefEqProofs (maxSteps := 1000000) (disch := omega) [go_sem, bdP] <;> omega)) rfl ?_
  refine IWp_seqF fun cb hc5 => ?_
  refine vcK ?_
  try simp -implicitDefEqProofs (maxSteps := 1000000) (disch := omega) [go_sem, bdP]
  subst hc5
  refine IWp.gh (Gh.slotN 4 3 (by simp -implicitDefEqProofs (maxSteps := 1000000) (disch := omega) [go_sem, bdP])) ?_
  refine vcK ?_
  simp -implicitDefEqProofs only [go_sem]
  have er := Option.some.inj h
  subst er
  try simp -implicitDefEqProofs (maxSteps := 1000000) (disch := omega) [go_sem, bdP]
  refine retG_pureA (Ext.refl hw) hK (e := by first | with_reducible rfl | (simp -implicitDefEqProofs (maxSteps := 1000000) (disch := omega) [go_sem, bdP] <;> omega))
 ·intro c49 h
  try simp -implicitDefEqProofs (disch := omega) at c49
  try simp -implicitDefEqProofs (maxSteps := 1000000) (disch := omega) [go_sem, bdP]
  obtain ⟨x6, hx6, h⟩ := bind_some' h
  refine ICalls.eqA (args' := [.sl 2 (a1.map fun x => [.v (str x.fName), .sl 1 (x.fValues.map fun x => [.v (str x)])])]) (by first | with_reducible rfl | (simp -implicitDefEqProofs (maxSteps := 1000000) (disch := omega) [go_sem, bdP] <;> omega)) (F17_ok a1 hx6 ?_)
  try simp -implicitDefEqProofs (maxSteps := 1000000) (disch := omega) [go_sem, bdP]
  subst hc3
  refine IWp_cond_i h (by first | with_reducible rfl | (simp -implicitDefEqProofs (maxSteps := 1000000) (disch := omega) [go_sem, bdP] <;> omega)) rfl ?_ ?_
  ·intro c7 h
   try simp -implicitDefEqProofs (disch := omega) at c7
   refine IWp_seqF fun cb hc8 => ?_
   refine vcK ?_
   try simp -implicitDefEqProofs (maxSteps := 1000000) (disch := omega) [go_sem, bdP]
   subst hc8
   refine IWp.gh (Gh.slotN 4 3 (by simp -implicitDefEqProofs (maxSteps := 1000000) (disch := omega) [go_sem, bdP])) ?_
   refine vcK ?_
   simp -implicitDefEqProofs only [go_sem]
   have er := Option.some.inj h
   subst er
   try simp -implicitDefEqProofs (maxSteps := 1000000) (disch := omega) [go_sem, bdP]
   refine retG_pureA (Ext.refl hw) hK (e := by first | with_reducible rfl | (simp -implicitDefEqProofs (maxSteps := 1000000) (disch := omega) [go_sem, bdP] <;> omega))
  ·intro c7 h
   try simp -implicitDefEqProofs (disch := omega) at c7
   refine vcK ?_
   simp -implicitDefEqProofs only [go_sem]
   subst hc2
   refine IWp_seqF fun cb hc9 => ?_
   refine vcK ?_
   try simp -implicitDefEqProofs (maxSteps := 1000000) (disch := omega) [go_sem, bdP]
   subst hc9
   refine IWp_seqF fun cb hc10 => ?_
   refine vcK ?_
   try simp -implicitDefEqProofs (maxSteps := 1000000) (disch := omega) [go_sem, bdP]
   obtain ⟨x11, hx11, h⟩ := bind_some' h
   refine ICalls.eqA (args' := [.sl 1 (([a0, a1]).map fun x => [.sl 2 (x.map fun x => [.v (str x.fName), .sl 1 (x.fValues.map fun x => [.v (str x)])])])]) (by first | with_reducible rfl | (simp -implicitDefEqProofs (maxSteps := 1000000) (disch := omega) [go_sem, bdP] <;> omega)) (F57_ok ([a0, a1]) hx11 ?_)
   try simp -implicitDefEqProofs (maxSteps := 1000000) (disch := omega) [go_sem, bdP]
   obtain ⟨x12, hx12, h⟩ := bind_some' h
   refine ICalls.eqA (args' := [.sl 2 (x11.map fun x => [.v (str x.fName), .sl 1 (x.fValues.map fun x => [.v (str x)])])]) (by first | with_reducible rfl | (simp -implicitDefEqProofs (maxSteps := 1000000) (disch := omega) [go_sem, bdP] <;> omega)) (F40_ok x11 hx12 ?_)
   try simp -implicitDefEqProofs (maxSteps := 1000000) (disch := omega) [go_sem, bdP]
   subst hc10
   refine IWp_seqF fun cb hc13 => ?_
   refine IWp_seqF fun cb hc14 => ?_
   refine vcK ?_
   try simp -implicitDefEqProofs (maxSteps := 1000000) (disch := omega) [go_sem, bdP]
   refine ICalls.eqA (args' := [.mp H.next]) (by first | with_reducible rfl | (simp -implicitDefEqProofs (maxSteps := 1000000) (disch := omega) [go_sem, bdP] <;> omega)) (keys59_ok x12 H.next (by first | with_reducible assumption | simp -implicitDefEqProofs (maxSteps := 1000000) (disch := omega) [go_sem, bdP]) ?_)
   try simp -implicitDefEqProofs (maxSteps := 1000000) (disch := omega) [go_sem, bdP]
   obtain ⟨x16, hx16, h⟩ := bind_some' h
   refine ICalls.eqA (args' := [.fn (.func 93) [] [.p (H.next + 1) 0]]) (by first | with_reducible rfl | (simp -implicitDefEqProofs (maxSteps := 1000000) (disch := omega) [go_sem, bdP] <;> omega)) (F58k_ok x12 (H.next + 1) H.next (by first | with_reducible assumption | simp -implicitDefEqProofs (maxSteps := 1000000) (disch := omega) [go_sem, bdP]) (by first | with_reducible assumption | simp -implicitDefEqProofs (maxSteps := 1000000) (disch := omega) [go_sem, bdP]) hx16 ?_)
   try simp -implicitDefEqProofs (maxSteps := 1000000) (disch := omega) [go_sem, bdP]
   subst hc14
   obtain ⟨y17, hl17q, hk17⟩ := bind_some' h
   refine IWp_tailC (fun tm' H' => ∃ n22 : Nat, ∃ v21 : List S48, v21 = y17 ∧ Ext H H' ∧ H.next + 2 ≤ H'.next ∧ H.next ≤ n22 ∧ n22 < H'.next ∧ ¬ H.next = n22 ∧ ¬ H.next + 1 = n22 ∧ tm' 6 = .os n22 v21.length ∧ H'.obj H.next = some (.map (mE (fun (x : List (List UInt8)) => .sl 1 (x.map fun x => [.v (str x)])) x12)) ∧ H'.obj (H.next + 1) = some (.cells [.mp H.next]) ∧ H'.obj n22 = some (.row 3 (v21.map fun x => [.v (.int .i64 x.fKind), .v (str x.fName), .sl 1 (x.fValues.map fun x => [.v (str x)])]))) ?_ fun cb hc17 => ?_
   ·rintro tm17e H17e ⟨n22, v21, rfl, he17e, hl17e, hr0_17e, hs0_17e, hq45, hq46, t6_17e, ob0_17e, ob1_17e, or0_17e⟩
    have h : F24_k17 v21 = some r := hk17
    unfold F24_k17 at h
    simp -implicitDefEqProofs only [go_sem]
    subst hc13
    refine IWp_seqF fun cb hc23 => ?_
    refine vcK ?_
    try simp -implicitDefEqProofs (maxSteps := 1000000) (disch := omega) [go_sem, bdP, t6_17e, ob0_17e, ob1_17e, or0_17e]
    subst hc23
    refine IWp.gh (Gh.freeze (d := 4) (k := n22) (sz := 3) (es := v21.map fun x => [.v (.int .i64 x.fKind), .v (str x.fName), .sl 1 (x.fValues.map fun x => [.v (str x)])]) (by simp -implicitDefEqProofs (maxSteps := 1000000) (disch := omega) [go_sem, bdP, t6_17e, ob0_17e, ob1_17e, or0_17e]) (by simp -implicitDefEqProofs (maxSteps := 1000000) (disch := omega) [go_sem, bdP, t6_17e, ob0_17e, ob1_17e, or0_17e])) ?_
    refine vcK ?_
    simp -implicitDefEqProofs only [go_sem]
    have er := Option.some.inj h
    subst er
    try simp -implicitDefEqProofs (maxSteps := 1000000) (disch := omega) [go_sem, bdP, t6_17e, ob0_17e, ob1_17e, or0_17e]
    refine retG_pureA he17e hK (e := by first | with_reducible rfl | (simp -implicitDefEqProofs (maxSteps := 1000000) (disch := omega) [go_sem, bdP, t6_17e, ob0_17e, ob1_17e, or0_17e] <;> omega))
   ·refine IWp_block ?_
    refine IWp_loopF (fun (s : (List S48) × Int) tm' H' => ∃ n19 : Nat, Ext H H' ∧ H.next + 2 ≤ H'.next ∧ H.next ≤ n19 ∧ n19 < H'.next ∧ ¬ H.next = n19 ∧ ¬ H.next + 1 = n19 ∧ tm' 0 = .sl 2 (a0.map fun x => [.v (str x.fName), .sl 1 (x.fValues.map fun x => [.v (str x)])]) ∧ tm' 1 = .sl 2 (a1.map fun x => [.v (str x.fName), .sl 1 (x.fValues.map fun x => [.v (str x)])]) ∧ tm' 6 = .os n19 s.1.length ∧ tm' 28 = .sl 1 (x16.map fun x => [.v (str x)]) ∧ tm' 29 = .v (.int .i64 (x16.length : Int)) ∧ tm' 30 = .v (.int .i64 s.2) ∧ H'.obj H.next = some (.map (mE (fun (x : List (List UInt8)) => .sl 1 (x.map fun x => [.v (str x)])) x12)) ∧ H'.obj (H.next + 1) = some (.cells [.mp H.next]) ∧ H'.obj n19 = some (.row 3 (s.1.map fun x => [.v (.int .i64 x.fKind), .v (str x.fName), .sl 1 (x.fValues.map fun x => [.v (str x)])]))) hl17q ?_ ?_
    ·refine UpI.gh (Gh.nilrow (d := 6) (sz := 3) (by omega) (by (simp -implicitDefEqProofs (maxSteps := 1000000) (disch := omega) [go_sem, bdP] <;> omega))) ?_
     refine .same ⟨H.next + 2, by repeat (first | exact (Ext.refl hw) | refine Ext.new ?_ _ | refine Ext.set ?_ (by first | omega | (simp [go_sem]; done) | (simp [go_sem]; omega)) _ | refine Ext.del ?_ (by first | omega | (simp [go_sem]; done) | (simp [go_sem]; omega))), by first | with_reducible rfl | with_reducible assumption | omega | (simp -implicitDefEqProofs (maxSteps := 1000000) (disch := omega) [go_sem, bdP] <;> omega), by first | with_reducible rfl | with_reducible assumption | omega | (simp -implicitDefEqProofs (maxSteps := 1000000) (disch := omega) [go_sem, bdP] <;> omega), by first | with_reducible rfl | with_reducible assumption | omega | (simp -implicitDefEqProofs (maxSteps := 1000000) (disch := omega) [go_sem, bdP] <;> omega), by first | with_reducible rfl | with_reducible assumption | omega | (simp -implicitDefEqProofs (maxSteps := 1000000) (disch := omega) [go_sem, bdP] <;> omega), by first | with_reducible rfl | with_reducible assumption | omega | (simp -implicitDefEqProofs (maxSteps := 1000000) (disch := omega) [go_sem, bdP] <;> omega), by first | with_reducible rfl | with_reducible assumption | (simp -implicitDefEqProofs (maxSteps := 1000000) (disch := omega) [go_sem, bdP] <;> omega), by first | with_reducible rfl | with_reducible assumption | (simp -implicitDefEqProofs (maxSteps := 1000000) (disch := omega) [go_sem, bdP] <;> omega), by first | with_reducible rfl | with_reducible assumption | (simp -implicitDefEqProofs (maxSteps := 1000000) (disch := omega) [go_sem, bdP] <;> omega), by first | with_reducible rfl | with_reducible assumption | (simp -implicitDefEqProofs (maxSteps := 1000000) (disch := omega) [go_sem, bdP] <;> omega), by first | with_reducible rfl | with_reducible assumption | (simp -implicitDefEqProofs (maxSteps := 1000000) (disch := omega) [go_sem, bdP] <;> omega), by first | with_reducible rfl | with_reducible assumption | (simp -implicitDefEqProofs (maxSteps := 1000000) (disch := omega) [go_sem, bdP] <;> omega), by first | with_reducible rfl | with_reducible assumption | (simp -implicitDefEqProofs (maxSteps := 1000000) (disch := omega) [go_sem, bdP] <;> omega), by first | with_reducible rfl | with_reducible assumption | (simp -implicitDefEqProofs (maxSteps := 1000000) (disch := omega) [go_sem, bdP] <;> omega), by first | with_reducible rfl | with_reducible assumption | (simp -implicitDefEqProofs (maxSteps := 1000000) (disch := omega) [go_sem, bdP] <;> omega)⟩
    ·rintro I17 hI17 ⟨v18, v20⟩ x17 tm17 H17 ⟨n19, he17, hl17, hr0_17, hs0_17, hq47, hq48, t0_17, t1_17, t6_17, t28_17, t29_17, t30_17, ob0_17, ob1_17, or0_17⟩ h hret17
     replace h : F24_b17 a0 a1 x16 v18 v20 = some x17 := h
     unfold F24_b17 at h
     refine IWp_seqF fun cb hc24 => ?_
     refine vcK ?_
     try simp -implicitDefEqProofs (maxSteps := 1000000) (disch := omega) [go_sem, bdP, t0_17, t1_17, t6_17, t28_17, t29_17, t30_17, ob0_17, ob1_17, or0_17]
     subst hc24
     refine IWp_seqF fun cb hc25 => ?_
     refine IWp_cond_i h (by first | with_reducible rfl | (simp -implicitDefEqProofs (maxSteps := 1000000) (disch := omega) [go_sem, bdP, t0_17, t1_17, t6_17, t28_17, t29_17, t30_17, ob0_17, ob1_17, or0_17] <;> omega)) rfl ?_ ?_
     ·intro c26 h
      try simp -implicitDefEqProofs (disch := omega) at c26
      refine vcK ?_
      simp -implicitDefEqProofs only [go_sem]
      subst hc25
      refine IWp_seqF fun cb hc27 => ?_
      refine IWp_block ?_
      refine IWp_seqF fun cb hc28 => ?_
      refine vcK ?_
      obtain ⟨g29, h⟩ := gd_some.1 h
      try simp -implicitDefEqProofs (disch := omega) at g29
      try simp -implicitDefEqProofs (maxSteps := 1000000) (disch := omega) [go_sem, bdP, t0_17, t1_17, t6_17, t28_17, t29_17, t30_17, ob0_17, ob1_17, or0_17]
      subst hc28
      refine IWp_seqF fun cb hc30 => ?_
      refine vcK ?_
      try simp -implicitDefEqProofs (maxSteps := 1000000) (disch := omega) [go_sem, bdP, t0_17, t1_17, t6_17, t28_17, t29_17, t30_17, ob0_17, ob1_17, or0_17]
      obtain ⟨x31, hx31, h⟩ := bind_some' h
      refine ICalls.eqA (args' := [.sl 2 (a0.map fun x => [.v (str x.fName), .sl 1 (x.fValues.map fun x => [.v (str x)])]), .v (str (x16.getD v20.toNat []))]) (by first | with_reducible rfl | (simp -implicitDefEqProofs (maxSteps := 1000000) (disch := omega) [go_sem, bdP, t0_17, t1_17, t6_17, t28_17, t29_17, t30_17, ob0_17, ob1_17, or0_17] <;> omega)) (F22_ok a0 (x16.getD v20.toNat []) hx31 ?_)
      try simp -implicitDefEqProofs (maxSteps := 1000000) (disch := omega) [go_sem, bdP, t0_17, t1_17, t6_17, t28_17, t29_17, t30_17, ob0_17, ob1_17, or0_17]
      obtain ⟨x32, hx32, h⟩ := bind_some' h
      refine ICalls.eqA (args' := [.sl 2 (a1.map fun x => [.v (str x.fName), .sl 1 (x.fValues.map fun x => [.v (str x)])]), .v (str (x16.getD v20.toNat []))]) (by first | with_reducible rfl | (simp -implicitDefEqProofs (maxSteps := 1000000) (disch := omega) [go_sem, bdP, t0_17, t1_17, t6_17, t28_17, t29_17, t30_17, ob0_17, ob1_17, or0_17] <;> omega)) (F22_ok a1 (x16.getD v20.toNat []) hx32 ?_)
      try simp -implicitDefEqProofs (maxSteps := 1000000) (disch := omega) [go_sem, bdP, t0_17, t1_17, t6_17, t28_17, t29_17, t30_17, ob0_17, ob1_17, or0_17]
      subst hc30
      refine IWp_seqF fun cb hc33 => ?_
      refine vcK ?_
      try simp -implicitDefEqProofs (maxSteps := 1000000) (disch := omega) [go_sem, bdP, t0_17, t1_17, t6_17, t28_17, t29_17, t30_17, ob0_17, ob1_17, or0_17]
      subst hc33
      refine IWp_seqF fun cb hc34 => ?_
      refine IWp_block ?_
      refine IWp_seqF fun cb hc35 => ?_
      refine vcK ?_
      try simp -implicitDefEqProofs (maxSteps := 1000000) (disch := omega) [go_sem, bdP, t0_17, t1_17, t6_17, t28_17, t29_17, t30_17, ob0_17, ob1_17, or0_17]
      obtain ⟨x36, hx36, h⟩ := bind_some' h
      refine ICalls.eqA (args' := [.sl 1 (x31.map fun x => [.v (str x)]), .sl 1 (x32.map fun x => [.v (str x)])]) (by first | with_reducible rfl | (simp -implicitDefEqProofs (maxSteps := 1000000) (disch := omega) [go_sem, bdP, t0_17, t1_17, t6_17, t28_17, t29_17, t30_17, ob0_17, ob1_17, or0_17] <;> omega)) (F60_ok x31 x32 hx36 ?_)
      try simp -implicitDefEqProofs (maxSteps := 1000000) (disch := omega) [go_sem, bdP, t0_17, t1_17, t6_17, t28_17, t29_17, t30_17, ob0_17, ob1_17, or0_17]
      subst hc35
      refine IWp_cond_i h (by first | with_reducible rfl | (simp -implicitDefEqProofs (maxSteps := 1000000) (disch := omega) [go_sem, bdP, t0_17, t1_17, t6_17, t28_17, t29_17, t30_17, ob0_17, ob1_17, or0_17] <;> omega)) rfl ?_ ?_
      ·intro c37 h
       try simp -implicitDefEqProofs (disch := omega) at c37
       refine vcK ?_
       simp -implicitDefEqProofs only [go_sem]
       subst hc27
       refine vcK ?_
       try simp -implicitDefEqProofs (maxSteps := 1000000) (disch := omega) [go_sem, bdP, t0_17, t1_17, t6_17, t28_17, t29_17, t30_17, ob0_17, ob1_17, or0_17]
       have e17 := Option.some.inj h
       subst e17
       refine loopN_mk hI17 ((v18, IntKind.i64.wrap (v20 + 1))) ?_
       refine .same ⟨n19, by repeat (first | exact he17 | refine Ext.new ?_ _ | refine Ext.set ?_ (by first | omega | (simp [go_sem]; done) | (simp [go_sem]; omega)) _ | refine Ext.del ?_ (by first | omega | (simp [go_sem]; done) | (simp [go_sem]; omega))), by first | with_reducible rfl | with_reducible assumption | omega | (simp -implicitDefEqProofs (maxSteps := 1000000) (disch := omega) [go_sem, bdP, t0_17, t1_17, t6_17, t28_17, t29_17, t30_17, ob0_17, ob1_17, or0_17] <;> omega), by first | with_reducible rfl | with_reducible assumption | omega | (simp -implicitDefEqProofs (maxSteps := 1000000) (disch := omega) [go_sem, bdP, t0_17, t1_17, t6_17, t28_17, t29_17, t30_17, ob0_17, ob1_17, or0_17] <;> omega), by first | with_reducible rfl | with_reducible assumption | omega | (simp -implicitDefEqProofs (maxSteps := 1000000) (disch := omega) [go_sem, bdP, t0_17, t1_17, t6_17, t28_17, t29_17, t30_17, ob0_17, ob1_17, or0_17] <;> omega), by first | with_reducible rfl | with_reducible assumption | omega | (simp -implicitDefEqProofs (maxSteps := 1000000) (disch := omega) [go_sem, bdP, t0_17, t1_17, t6_17, t28_17, t29_17, t30_17, ob0_17, ob1_17, or0_17] <;> omega), by first | with_reducible rfl | with_reducible assumption | omega | (simp -implicitDefEqProofs (maxSteps := 1000000) (disch := omega) [go_sem, bdP, t0_17, t1_17, t6_17, t28_17, t29_17, t30_17, ob0_17, ob1_17, or0_17] <;> omega), by first | with_reducible rfl | with_reducible assumption | (simp -implicitDefEqProofs (maxSteps := 1000000) (disch := omega) [go_sem, bdP, t0_17, t1_17, t6_17, t28_17, t29_17, t30_17, ob0_17, ob1_17, or0_17] <;> omega), by first | with_reducible rfl | with_reducible assumption | (simp -implicitDefEqProofs (maxSteps := 1000000) (disch := omega) [go_sem, bdP, t0_17, t1_17, t6_17, t28_17, t29_17, t30_17, ob0_17, ob1_17, or0_17] <;> omega), by first | with_reducible rfl | with_reducible assumption | (simp -implicitDefEqProofs (maxSteps := 1000000) (disch := omega) [go_sem, bdP, t0_17, t1_17, t6_17, t28_17, t29_17, t30_17, ob0_17, ob1_17, or0_17] <;> omega), by first | with_reducible rfl | with_reducible assumption | (simp -implicitDefEqProofs (maxSteps := 1000000) (disch := omega) [go_sem, bdP, t0_17, t1_17, t6_17, t28_17, t29_17, t30_17, ob0_17, ob1_17, or0_17] <;> omega), by first | with_reducible rfl | with_reducible assumption | (simp -implicitDefEqProofs (maxSteps := 1000000) (disch := omega) [go_sem, bdP, t0_17, t1_17, t6_17, t28_17, t29_17, t30_17, ob0_17, ob1_17, or0_17] <;> omega), by first | with_reducible rfl | with_reducible assumption | (simp -implicitDefEqProofs (maxSteps := 1000000) (disch := omega) [go_sem, bdP, t0_17, t1_17, t6_17, t28_17, t29_17, t30_17, ob0_17, ob1_17, or0_17] <;> omega), by first | with_reducible rfl | with_reducible assumption | (simp -implicitDefEqProofs (maxSteps := 1000000) (disch := omega) [go_sem, bdP, t0_17, t1_17, t6_17, t28_17, t29_17, t30_17, ob0_17, ob1_17, or0_17] <;> omega), by first | with_reducible rfl | with_reducible assumption | (simp -implicitDefEqProofs (maxSteps := 1000000) (disch := omega) [go_sem, bdP, t0_17, t1_17, t6_17, t28_17, t29_17, t30_17, ob0_17, ob1_17, or0_17] <;> omega), by first | with_reducible rfl | with_reducible assumption | (simp -implicitDefEqProofs (maxSteps := 1000000) (disch := omega) [go_sem, bdP, t0_17, t1_17, t6_17, t28_17, t29_17, t30_17, ob0_17, ob1_17, or0_17] <;> omega)⟩
      ·intro c37 h
       try simp -implicitDefEqProofs (disch := omega) at c37
       refine IWp_seqF fun cb hc38 => ?_
       refine vcK ?_
       try simp -implicitDefEqProofs (maxSteps := 1000000) (disch := omega) [go_sem, bdP, t0_17, t1_17, t6_17, t28_17, t29_17, t30_17, ob0_17, ob1_17, or0_17]
       subst hc38
       refine IWp_cond_i h (by first | with_reducible rfl | (simp -implicitDefEqProofs (maxSteps := 1000000) (disch := omega) [go_sem, bdP, t0_17, t1_17, t6_17, t28_17, t29_17, t30_17, ob0_17, ob1_17, or0_17] <;> omega)) rfl ?_ ?_
       ·intro c39 h
        try simp -implicitDefEqProofs (disch := omega) at c39
        refine vcK ?_
        try simp -implicitDefEqProofs (maxSteps := 1000000) (disch := omega) [go_sem, bdP, t0_17, t1_17, t6_17, t28_17, t29_17, t30_17, ob0_17, ob1_17, or0_17]
        subst hc34
        refine vcK ?_
        obtain ⟨g40, h⟩ := gd_some.1 h
        try simp -implicitDefEqProofs (disch := omega) at g40
        try simp -implicitDefEqProofs (maxSteps := 1000000) (disch := omega) [go_sem, bdP, t0_17, t1_17, t6_17, t28_17, t29_17, t30_17, ob0_17, ob1_17, or0_17]
        subst hc27
        refine vcK ?_
        try simp -implicitDefEqProofs (maxSteps := 1000000) (disch := omega) [go_sem, bdP, t0_17, t1_17, t6_17, t28_17, t29_17, t30_17, ob0_17, ob1_17, or0_17]
        have e17 := Option.some.inj h
        subst e17
        refine loopN_mk hI17 ((v18 ++ ([(⟨2, x16.getD v20.toNat [], x32⟩ : S48)]), IntKind.i64.wrap (v20 + 1))) ?_
        refine .same ⟨n19, by repeat (first | exact he17 | refine Ext.new ?_ _ | refine Ext.set ?_ (by first | omega | (simp [go_sem]; done) | (simp [go_sem]; omega)) _ | refine Ext.del ?_ (by first | omega | (simp [go_sem]; done) | (simp [go_sem]; omega))), by first | with_reducible rfl | with_reducible assumption | omega | (simp -implicitDefEqProofs (maxSteps := 1000000) (disch := omega) [go_sem, bdP, t0_17, t1_17, t6_17, t28_17, t29_17, t30_17, ob0_17, ob1_17, or0_17] <;> omega), by first | with_reducible rfl | with_reducible assumption | omega | (simp -implicitDefEqProofs (maxSteps := 1000000) (disch := omega) [go_sem, bdP, t0_17, t1_17, t6_17, t28_17, t29_17, t30_17, ob0_17, ob1_17, or0_17] <;> omega), by first | with_reducible rfl | with_reducible assumption | omega | (simp -implicitDefEqProofs (maxSteps := 1000000) (disch := omega) [go_sem, bdP, t0_17, t1_17, t6_17, t28_17, t29_17, t30_17, ob0_17, ob1_17, or0_17] <;> omega), by first | with_reducible rfl | with_reducible assumption | omega | (simp -implicitDefEqProofs (maxSteps := 1000000) (disch := omega) [go_sem, bdP, t0_17, t1_17, t6_17, t28_17, t29_17, t30_17, ob0_17, ob1_17, or0_17] <;> omega), by first | with_reducible rfl | with_reducible assumption | omega | (simp -implicitDefEqProofs (maxSteps := 1000000) (disch := omega) [go_sem, bdP, t0_17, t1_17, t6_17, t28_17, t29_17, t30_17, ob0_17, ob1_17, or0_17] <;> omega), by first | with_reducible rfl | with_reducible assumption | (simp -implicitDefEqProofs (maxSteps := 1000000) (disch := omega) [go_sem, bdP, t0_17, t1_17, t6_17, t28_17, t29_17, t30_17, ob0_17, ob1_17, or0_17] <;> omega), by first | with_reducible rfl | with_reducible assumption | (simp -implicitDefEqProofs (maxSteps := 1000000) (disch := omega) [go_sem, bdP, t0_17, t1_17, t6_17, t28_17, t29_17, t30_17, ob0_17, ob1_17, or0_17] <;> omega), by first | with_reducible rfl | with_reducible assumption | (simp -implicitDefEqProofs (maxSteps := 1000000) (disch := omega) [go_sem, bdP, t0_17, t1_17, t6_17, t28_17, t29_17, t30_17, ob0_17, ob1_17, or0_17] <;> omega), by first | with_reducible rfl | with_reducible assumption | (simp -implicitDefEqProofs (maxSteps := 1000000) (disch := omega) [go_sem, bdP, t0_17, t1_17, t6_17, t28_17, t29_17, t30_17, ob0_17, ob1_17, or0_17] <;> omega), by first | with_reducible rfl | with_reducible assumption | (simp -implicitDefEqProofs (maxSteps := 1000000) (disch := omega) [go_sem, bdP, t0_17, t1_17, t6_17, t28_17, t29_17, t30_17, ob0_17, ob1_17, or0_17] <;> omega), by first | with_reducible rfl | with_reducible assumption | (simp -implicitDefEqProofs (maxSteps := 1000000) (disch := omega) [go_sem, bdP, t0_17, t1_17, t6_17, t28_17, t29_17, t30_17, ob0_17, ob1_17, or0_17] <;> omega), by first | with_reducible rfl | with_reducible assumption | (simp -implicitDefEqProofs (maxSteps := 1000000) (disch := omega) [go_sem, bdP, t0_17, t1_17, t6_17, t28_17, t29_17, t30_17, ob0_17, ob1_17, or0_17] <;> omega), by first | with_reducible rfl | with_reducible assumption | (simp -implicitDefEqProofs (maxSteps := 1000000) (disch := omega) [go_sem, bdP, t0_17, t1_17, t6_17, t28_17, t29_17, t30_17, ob0_17, ob1_17, or0_17] <;> omega), by first | with_reducible rfl | with_reducible assumption | (simp -implicitDefEqProofs (maxSteps := 1000000) (disch := omega) [go_sem, bdP, t0_17, t1_17, t6_17, t28_17, t29_17, t30_17, ob0_17, ob1_17, or0_17] <;> omega)⟩
       ·intro c39 h
        try simp -implicitDefEqProofs (disch := omega) at c39
        refine IWp_seqF fun cb hc41 => ?_
        refine vcK ?_
        try simp -implicitDefEqProofs (maxSteps := 1000000) (disch := omega) [go_sem, bdP, t0_17, t1_17, t6_17, t28_17, t29_17, t30_17, ob0_17, ob1_17, or0_17]
        subst hc41
        refine IWp_cond_i h (by first | with_reducible rfl | (simp -implicitDefEqProofs (maxSteps := 1000000) (disch := omega) [go_sem, bdP, t0_17, t1_17, t6_17, t28_17, t29_17, t30_17, ob0_17, ob1_17, or0_17] <;> omega)) rfl ?_ ?_
        ·intro c42 h
         try simp -implicitDefEqProofs (disch := omega) at c42
         refine vcK ?_
         try simp -implicitDefEqProofs (maxSteps := 1000000) (disch := omega) [go_sem, bdP, t0_17, t1_17, t6_17, t28_17, t29_17, t30_17, ob0_17, ob1_17, or0_17]
         subst hc34
         refine vcK ?_
         obtain ⟨g43, h⟩ := gd_some.1 h
         try simp -implicitDefEqProofs (disch := omega) at g43
         try simp -implicitDefEqProofs (maxSteps := 1000000) (disch := omega) [go_sem, bdP, t0_17, t1_17, t6_17, t28_17, t29_17, t30_17, ob0_17, ob1_17, or0_17]
         subst hc27
         refine vcK ?_
         try simp -implicitDefEqProofs (maxSteps := 1000000) (disch := omega) [go_sem, bdP, t0_17, t1_17, t6_17, t28_17, t29_17, t30_17, ob0_17, ob1_17, or0_17]
         have e17 := Option.some.inj h
         subst e17
         refine loopN_mk hI17 ((v18 ++ ([(⟨1, x16.getD v20.toNat [], x32⟩ : S48)]), IntKind.i64.wrap (v20 + 1))) ?_
         refine .same ⟨n19, by repeat (first | exact he17 | refine Ext.new ?_ _ | refine Ext.set ?_ (by first | omega | (simp [go_sem]; done) | (simp [go_sem]; omega)) _ | refine Ext.del ?_ (by first | omega | (simp [go_sem]; done) | (simp [go_sem]; omega))), by first | with_reducible rfl | with_reducible assumption | omega | (simp -implicitDefEqProofs (maxSteps := 1000000) (disch := omega) [go_sem, bdP, t0_17, t1_17, t6_17, t28_17, t29_17, t30_17, ob0_17, ob1_17, or0_17] <;> omega), by first | with_reducible rfl | with_reducible assumption | omega | (simp -implicitDefEqProofs (maxSteps := 1000000) (disch := omega) [go_sem, bdP, t0_17, t1_17, t6_17, t28_17, t29_17, t30_17, ob0_17, ob1_17, or0_17] <;> omega), by first | with_reducible rfl | with_reducible assumption | omega | (simp -implicitDefEqProofs (maxSteps := 1000000) (disch := omega) [go_sem, bdP, t0_17, t1_17, t6_17, t28_17, t29_17, t30_17, ob0_17, ob1_17, or0_17] <;> omega), by first | with_reducible rfl | with_reducible assumption | omega | (simp -implicitDefEqProofs (maxSteps := 1000000) (disch := omega) [go_sem, bdP, t0_17, t1_17, t6_17, t28_17, t29_17, t30_17, ob0_17, ob1_17, or0_17] <;> omega), by first | with_reducible rfl | with_reducible assumption | omega | (simp -implicitDefEqProofs (maxSteps := 1000000) (disch := omega) [go_sem, bdP, t0_17, t1_17, t6_17, t28_17, t29_17, t30_17, ob0_17, ob1_17, or0_17] <;> omega), by first | with_reducible rfl | with_reducible assumption | (simp -implicitDefEqProofs (maxSteps := 1000000) (disch := omega) [go_sem, bdP, t0_17, t1_17, t6_17, t28_17, t29_17, t30_17, ob0_17, ob1_17, or0_17] <;> omega), by first | with_reducible rfl | with_reducible assumption | (simp -implicitDefEqProofs (maxSteps := 1000000) (disch := omega) [go_sem, bdP, t0_17, t1_17, t6_17, t28_17, t29_17, t30_17, ob0_17, ob1_17, or0_17] <;> omega), by first | with_reducible rfl | with_reducible assumption | (simp -implicitDefEqProofs (maxSteps := 1000000) (disch := omega) [go_sem, bdP, t0_17, t1_17, t6_17, t28_17, t29_17, t30_17, ob0_17, ob1_17, or0_17] <;> omega), by first | with_reducible rfl | with_reducible assumption | (simp -implicitDefEqProofs (maxSteps := 1000000) (disch := omega) [go_sem, bdP, t0_17, t1_17, t6_17, t28_17, t29_17, t30_17, ob0_17, ob1_17, or0_17] <;> omega), by first | with_reducible rfl | with_reducible assumption | (simp -implicitDefEqProofs (maxSteps := 1000000) (disch := omega) [go_sem, bdP, t0_17, t1_17, t6_17, t28_17, t29_17, t30_17, ob0_17, ob1_17, or0_17] <;> omega), by first | with_reducible rfl | with_reducible assumption | (simp -implicitDefEqProofs (maxSteps := 1000000) (disch := omega) [go_sem, bdP, t0_17, t1_17, t6_17, t28_17, t29_17, t30_17, ob0_17, ob1_17, or0_17] <;> omega), by first | with_reducible rfl | with_reducible assumption | (simp -implicitDefEqProofs (maxSteps := 1000000) (disch := omega) [go_sem, bdP, t0_17, t1_17, t6_17, t28_17, t29_17, t30_17, ob0_17, ob1_17, or0_17] <;> omega), by first | with_reducible rfl | with_reducible assumption | (simp -implicitDefEqProofs (maxSteps := 1000000) (disch := omega) [go_sem, bdP, t0_17, t1_17, t6_17, t28_17, t29_17, t30_17, ob0_17, ob1_17, or0_17] <;> omega), by first | with_reducible rfl | with_reducible assumption | (simp -implicitDefEqProofs (maxSteps := 1000000) (disch := omega) [go_sem, bdP, t0_17, t1_17, t6_17, t28_17, t29_17, t30_17, ob0_17, ob1_17, or0_17] <;> omega)⟩
        ·intro c42 h
         try simp -implicitDefEqProofs (disch := omega) at c42
         refine vcK ?_
         simp -implicitDefEqProofs only [go_sem]
         subst hc34
         refine vcK ?_
         obtain ⟨g44, h⟩ := gd_some.1 h
         try simp -implicitDefEqProofs (disch := omega) at g44
         try simp -implicitDefEqProofs (maxSteps := 1000000) (disch := omega) [go_sem, bdP, t0_17, t1_17, t6_17, t28_17, t29_17, t30_17, ob0_17, ob1_17, or0_17]
         subst hc27
         refine vcK ?_
         try simp -implicitDefEqProofs (maxSteps := 1000000) (disch := omega) [go_sem, bdP, t0_17, t1_17, t6_17, t28_17, t29_17, t30_17, ob0_17, ob1_17, or0_17]
         have e17 := Option.some.inj h
         subst e17
         refine loopN_mk hI17 ((v18 ++ ([(⟨3, x16.getD v20.toNat [], x32⟩ : S48)]), IntKind.i64.wrap (v20 + 1))) ?_
         refine .same ⟨n19, by repeat (first | exact he17 | refine Ext.new ?_ _ | refine Ext.set ?_ (by first | omega | (simp [go_sem]; done) | (simp [go_sem]; omega)) _ | refine Ext.del ?_ (by first | omega | (simp [go_sem]; done) | (simp [go_sem]; omega))), by first | with_reducible rfl | with_reducible assumption | omega | (simp -implicitDefEqProofs (maxSteps := 1000000) (disch := omega) [go_sem, bdP, t0_17, t1_17, t6_17, t28_17, t29_17, t30_17, ob0_17, ob1_17, or0_17] <;> omega), by first | with_reducible rfl | with_reducible assumption | omega | (simp -implicitDefEqProofs (maxSteps := 1000000) (disch := omega) [go_sem, bdP, t0_17, t1_17, t6_17, t28_17, t29_17, t30_17, ob0_17, ob1_17, or0_17] <;> omega), by first | with_reducible rfl | with_reducible assumption | omega | (simp -implicitDefEqProofs (maxSteps := 1000000) (disch := omega) [go_sem, bdP, t0_17, t1_17, t6_17, t28_17, t29_17, t30_17, ob0_17, ob1_17, or0_17] <;> omega), by first | with_reducible rfl | with_reducible assumption | omega | (simp -implicitDefEqProofs (maxSteps := 1000000) (disch := omega) [go_sem, bdP, t0_17, t1_17, t6_17, t28_17, t29_17, t30_17, ob0_17, ob1_17, or0_17] <;> omega), by first | with_reducible rfl | with_reducible assumption | omega | (simp -implicitDefEqProofs (maxSteps := 1000000) (disch := omega) [go_sem, bdP, t0_17, t1_17, t6_17, t28_17, t29_17, t30_17, ob0_17, ob1_17, or0_17] <;> omega), by first | with_reducible rfl | with_reducible assumption | (simp -implicitDefEqProofs (maxSteps := 1000000) (disch := omega) [go_sem, bdP, t0_17, t1_17, t6_17, t28_17, t29_17, t30_17, ob0_17, ob1_17, or0_17] <;> omega), by first | with_reducible rfl | with_reducible assumption | (simp -implicitDefEqProofs (maxSteps := 1000000) (disch := omega) [go_sem, bdP, t0_17, t1_17, t6_17, t28_17, t29_17, t30_17, ob0_17, ob1_17, or0_17] <;> omega), by first | with_reducible rfl | with_reducible assumption | (simp -implicitDefEqProofs (maxSteps := 1000000) (disch := omega) [go_sem, bdP, t0_17, t1_17, t6_17, t28_17, t29_17, t30_17, ob0_17, ob1_17, or0_17] <;> omega), by first | with_reducible rfl | with_reducible assumption | (simp -implicitDefEqProofs (maxSteps := 1000000) (disch := omega) [go_sem, bdP, t0_17, t1_17, t6_17, t28_17, t29_17, t30_17, ob0_17, ob1_17, or0_17] <;> omega), by first | with_reducible rfl | with_reducible assumption | (simp -implicitDefEqProofs (maxSteps := 1000000) (disch := omega) [go_sem, bdP, t0_17, t1_17, t6_17, t28_17, t29_17, t30_17, ob0_17, ob1_17, or0_17] <;> omega), by first | with_reducible rfl | with_reducible assumption | (simp -implicitDefEqProofs (maxSteps := 1000000) (disch := omega) [go_sem, bdP, t0_17, t1_17, t6_17, t28_17, t29_17, t30_17, ob0_17, ob1_17, or0_17] <;> omega), by first | with_reducible rfl | with_reducible assumption | (simp -implicitDefEqProofs (maxSteps := 1000000) (disch := omega) [go_sem, bdP, t0_17, t1_17, t6_17, t28_17, t29_17, t30_17, ob0_17, ob1_17, or0_17] <;> omega), by first | with_reducible rfl | with_reducible assumption | (simp -implicitDefEqProofs (maxSteps := 1000000) (disch := omega) [go_sem, bdP, t0_17, t1_17, t6_17, t28_17, t29_17, t30_17, ob0_17, ob1_17, or0_17] <;> omega), by first | with_reducible rfl | with_reducible assumption | (simp -implicitDefEqProofs (maxSteps := 1000000) (disch := omega) [go_sem, bdP, t0_17, t1_17, t6_17, t28_17, t29_17, t30_17, ob0_17, ob1_17, or0_17] <;> omega)⟩
     ·intro c26 h
      try simp -implicitDefEqProofs (disch := omega) at c26
      refine vcK ?_
      simp -implicitDefEqProofs only [go_sem]
      have e17 := Option.some.inj h
      subst e17
      have hy17 := hret17 _ rfl
      refine hc17 _ _ ?_
      refine .same ⟨n19, v18, hy17, by repeat (first | exact he17 | refine Ext.new ?_ _ | refine Ext.set ?_ (by first | omega | (simp [go_sem]; done) | (simp [go_sem]; omega)) _ | refine Ext.del ?_ (by first | omega | (simp [go_sem]; done) | (simp [go_sem]; omega))), by first | with_reducible rfl | with_reducible assumption | omega | (simp -implicitDefEqProofs (maxSteps := 1000000) (disch := omega) [go_sem, bdP, t0_17, t1_17, t6_17, t28_17, t29_17, t30_17, ob0_17, ob1_17, or0_17] <;> omega), by first | with_reducible rfl | with_reducible assumption | omega | (simp -implicitDefEqProofs (maxSteps := 1000000) (disch := omega) [go_sem, bdP, t0_17, t1_17, t6_17, t28_17, t29_17, t30_17, ob0_17, ob1_17, or0_17] <;> omega), by first | with_reducible rfl | with_reducible assumption | omega | (simp -implicitDefEqProofs (maxSteps := 1000000) (disch := omega) [go_sem, bdP, t0_17, t1_17, t6_17, t28_17, t29_17, t30_17, ob0_17, ob1_17, or0_17] <;> omega), by first | with_reducible rfl | with_reducible assumption | omega | (simp -implicitDefEqProofs (maxSteps := 1000000) (disch := omega) [go_sem, bdP, t0_17, t1_17, t6_17, t28_17, t29_17, t30_17, ob0_17, ob1_17, or0_17] <;> omega), by first | with_reducible rfl | with_reducible assumption | omega | (simp -implicitDefEqProofs (maxSteps := 1000000) (disch := omega) [go_sem, bdP, t0_17, t1_17, t6_17, t28_17, t29_17, t30_17, ob0_17, ob1_17, or0_17] <;> omega), by first | with_reducible rfl | with_reducible assumption | (simp -implicitDefEqProofs (maxSteps := 1000000) (disch := omega) [go_sem, bdP, t0_17, t1_17, t6_17, t28_17, t29_17, t30_17, ob0_17, ob1_17, or0_17] <;> omega), by first | with_reducible rfl | with_reducible assumption | (simp -implicitDefEqProofs (maxSteps := 1000000) (disch := omega) [go_sem, bdP, t0_17, t1_17, t6_17, t28_17, t29_17, t30_17, ob0_17, ob1_17, or0_17] <;> omega), by first | with_reducible rfl | with_reducible assumption | (simp -implicitDefEqProofs (maxSteps := 1000000) (disch := omega) [go_sem, bdP, t0_17, t1_17, t6_17, t28_17, t29_17, t30_17, ob0_17, ob1_17, or0_17] <;> omega), by first | with_reducible rfl | with_reducible assumption | (simp -implicitDefEqProofs (maxSteps := 1000000) (disch := omega) [go_sem, bdP, t0_17, t1_17, t6_17, t28_17, t29_17, t30_17, ob0_17, ob1_17, or0_17] <;> omega)⟩

/-! cardcase/cardcaselaw07.known -/

noncomputable def F13  : Option Bool :=
 (F19 ([(⟨[77, 97, 105, 108], [[98], [97]]⟩ : S50), (⟨[67, 78], [[120]]⟩ : S50)])).bind fun (x3 : (List S50) × Int) => (F14 x3.1 ([(⟨1, [99, 110], [[121]]⟩ : S48), (⟨2, [99, 110], [[120]]⟩ : S48)])).bind fun (x5 : (List S50) × Int) => (F24 x3.1 x5.1).bind fun (x7 : (List S48) × Int) => (F30 x5.1).bind fun (x9 : (List UInt8) × Int) => if x3.2 = 0 then (if x5.2 = 0 then (if x7.2 = 0 then (if x9.2 = 0 then (if (x7.1.length : Int) = 1 then (gd (0 < x7.1.length) (if ((x7.1.getD 0 S48.zero).fKind) = 3 then (some (decide (x9.1 = ([99, 110, 32, 49, 10, 49, 32, 121, 10, 109, 97, 105, 108, 32, 50, 10, 49, 32, 97, 10, 49, 32, 98, 10])))) else (some false))) else (some false)) else (some false)) else (some false)) else (some false)) else (some false)

set_option maxHeartbeats 8000000 in
set_option pp.deepTerms false in
set_option maxRecDepth 60000 in
theorem F13_ok {H : IHeap} {K : IEnd → IHeap → Prop}  {r : Bool} (h : F13  = some r) (hK : K (.ret (.v (.bool r))) H) : ICalls prog 13 [] H K := by
 refine ICalls_iwp (N := 69) func13 (by kernel_rfl) rfl (by kernel_rfl) (by kernel_rfl) fun cb hcb hw hbd hnb => ?_
 clear hbd hnb
 subst hcb
 unfold F13 at h
 refine IWp_seqF fun cb hc1 => ?_
 refine vcK ?_
 try simp -implicitDefEqProofs (maxSteps := 1000000) (disch := omega) [go_sem, bdP]
 subst hc1
 refine IWp_seqF fun cb hc2 => ?_
 refine vcK ?_
 try simp -implicitDefEqProofs (maxSteps := 1000000) (disch := omega) [go_sem, bdP]
 obtain ⟨x3, hx3, h⟩ := bind_some' h
 refine ICalls.eqA (args' := [.sl 2 (([(⟨[77, 97, 105, 108], [[98], [97]]⟩ : S50), (⟨[67, 78], [[120]]⟩ : S50)]).map fun x => [.v (str x.fName), .sl 1 (x.fValues.map fun x => [.v (str x)])])]) (by first | with_reducible rfl | (simp -implicitDefEqProofs (maxSteps := 1000000) (disch := omega) [go_sem, bdP] <;> omega)) (F19_ok ([(⟨[77, 97, 105, 108], [[98], [97]]⟩ : S50), (⟨[67, 78], [[120]]⟩ : S50)]) hx3 ?_)
 try simp -implicitDefEqProofs (maxSteps := 1000000) (disch := omega) [go_sem, bdP]
 subst hc2
 refine IWp_seqF fun cb hc4 => ?_
 refine vcK ?_
 try simp -implicitDefEqProofs (maxSteps := 1000000) (disch := omega) [go_sem, bdP]
 obtain ⟨x5, hx5, h⟩ := bind_some' h
 refine ICalls.eqA (args' := [.sl 2 (x3.1.map fun x => [.v (str x.fName), .sl 1 (x.fValues.map fun x => [.v (str x)])]), .sl 3 (([(⟨1, [99, 110], [[121]]⟩ : S48), (⟨2, [99, 110], [[120]]⟩ : S48)]).map fun x => [.v (.int .i64 x.fKind), .v (str x.fName), .sl 1 (x.fValues.map fun x => [.v (str x)])])]) (by first | with_reducible rfl | (simp -implicitDefEqProofs (maxSteps := 1000000) (disch := omega) [go_sem, bdP] <;> omega)) (F14_ok x3.1 ([(⟨1, [99, 110], [[121]]⟩ : S48), (⟨2, [99, 110], [[120]]⟩ : S48)]) hx5 ?_)
 try simp -implicitDefEqProofs (maxSteps := 1000000) (disch := omega) [go_sem, bdP]
 subst hc4
 refine IWp_seqF fun cb hc6 => ?_
 refine vcK ?_
 try simp -implicitDefEqProofs (maxSteps := 1000000) (disch := omega) [go_sem, bdP]
 obtain ⟨x7, hx7, h⟩ := bind_some' h
 refine ICalls.eqA (args' := [.sl 2 (x3.1.map fun x => [.v (str x.fName), .sl 1 (x.fValues.map fun x => [.v (str x)])]), .sl 2 (x5.1.map fun x => [.v (str x.fName), .sl 1 (x.fValues.map fun x => [.v (str x)])])]) (by first | with_reducible rfl | (simp -implicitDefEqProofs (maxSteps := 1000000) (disch := omega) [go_sem, bdP] <;> omega)) (F24_ok x3.1 x5.1 hx7 ?_)
 try simp -implicitDefEqProofs (maxSteps := 1000000) (disch := omega) [go_sem, bdP]
 subst hc6
 refine IWp_seqF fun cb hc8 => ?_
 refine vcK ?_
 try simp -implicitDefEqProofs (maxSteps := 1000000) (disch := omega) [go_sem, bdP]
 obtain ⟨x9, hx9, h⟩ := bind_some' h
 refine ICalls.eqA (args' := [.sl 2 (x5.1.map fun x => [.v (str x.fName), .sl 1 (x.fValues.map fun x => [.v (str x)])])]) (by first | with_reducible rfl | (simp -implicitDefEqProofs (maxSteps := 1000000) (disch := omega) [go_sem, bdP] <;> omega)) (F30_ok x5.1 hx9 ?_)
 try simp -implicitDefEqProofs (maxSteps := 1000000) (disch := omega) [go_sem, bdP]
 subst hc8
 refine IWp_seqF fun cb hc10 => ?_
 refine vcK ?_
 try simp -implicitDefEqProofs (maxSteps := 1000000) (disch := omega) [go_sem, bdP]
 refine splitG_f h (by first | with_reducible rfl | (simp -implicitDefEqProofs (maxSteps := 1000000) (disch := omega) [go_sem, bdP] <;> omega)) ?_ ?_
 ·intro c17 h
  try simp -implicitDefEqProofs (disch := omega) at c17
  try simp -implicitDefEqProofs (maxSteps := 1000000) (disch := omega) [go_sem, bdP]
  refine splitG_f h (by first | with_reducible rfl | (simp -implicitDefEqProofs (maxSteps := 1000000) (disch := omega) [go_sem, bdP] <;> omega)) ?_ ?_
  ·intro c16 h
   try simp -implicitDefEqProofs (disch := omega) at c16
   try simp -implicitDefEqProofs (maxSteps := 1000000) (disch := omega) [go_sem, bdP]
   refine splitG_f h (by first | with_reducible rfl | (simp -implicitDefEqProofs (maxSteps := 1000000) (disch := omega) [go_sem, bdP] <;> omega)) ?_ ?_
   ·intro c15 h
    try simp -implicitDefEqProofs (disch := omega) at c15
    try simp -implicitDefEqProofs (maxSteps := 1000000) (disch := omega) [go_sem, bdP]
    refine splitG_f h (by first | with_reducible rfl | (simp -implicitDefEqProofs (maxSteps := 1000000) (disch := omega) [go_sem, bdP] <;> omega)) ?_ ?_
    ·intro c14 h
     try simp -implicitDefEqProofs (disch := omega) at c14
     try simp -implicitDefEqProofs (maxSteps := 1000000) (disch := omega) [go_sem, bdP]
     refine splitG_f h (by first | with_reducible rfl | (simp -implicitDefEqProofs (maxSteps := 1000000) (disch := omega) [go_sem, bdP] <;> omega)) ?_ ?_
     ·intro c13 h
      try simp -implicitDefEqProofs (disch := omega) at c13
      obtain ⟨g11, h⟩ := gd_some.1 h
      try simp -implicitDefEqProofs (disch := omega) at g11
      try simp -implicitDefEqProofs (maxSteps := 1000000) (disch := omega) [go_sem, bdP]
      refine splitG_f h (by first | with_reducible rfl | (simp -implicitDefEqProofs (maxSteps := 1000000) (disch := omega) [go_sem, bdP] <;> omega)) ?_ ?_
      ·intro c12 h
       try simp -implicitDefEqProofs (disch := omega) at c12
       try simp -implicitDefEqProofs (maxSteps := 1000000) (disch := omega) [go_sem, bdP]
       subst hc10
       refine vcK ?_
       simp -implicitDefEqProofs only [go_sem]
       have er := Option.some.inj h
       subst er
       try simp -implicitDefEqProofs (maxSteps := 1000000) (disch := omega) [go_sem, bdP]
       refine retG_pureA (Ext.refl hw) hK (e := by first | with_reducible rfl | (simp -implicitDefEqProofs (maxSteps := 1000000) (disch := omega) [go_sem, bdP] <;> omega))
      ·intro c12 h
       try simp -implicitDefEqProofs (disch := omega) at c12
       try simp -implicitDefEqProofs (maxSteps := 1000000) (disch := omega) [go_sem, bdP]
       subst hc10
       refine vcK ?_
       simp -implicitDefEqProofs only [go_sem]
       have er := Option.some.inj h
       subst er
       try simp -implicitDefEqProofs (maxSteps := 1000000) (disch := omega) [go_sem, bdP]
       refine retG_pureA (Ext.refl hw) hK (e := by first | with_reducible rfl | (simp -implicitDefEqProofs (maxSteps := 1000000) (disch := omega) [go_sem, bdP] <;> omega))
     ·intro c13 h
      try simp -implicitDefEqProofs (disch := omega) at c13
      try simp -implicitDefEqProofs (maxSteps := 1000000) (disch := omega) [go_sem, bdP]
      subst hc10
      refine vcK ?_
      simp -implicitDefEqProofs only [go_sem]
      have er := Option.some.inj h
      subst er
      try simp -implicitDefEqProofs (maxSteps := 1000000) (disch := omega) [go_sem, bdP]
      refine retG_pureA (Ext.refl hw) hK (e := by first | with_reducible rfl | (simp -implicitDefEqProofs (maxSteps := 1000000) (disch := omega) [go_sem, bdP] <;> omega))
    ·intro c14 h
     try simp -implicitDefEqProofs (disch := omega) at c14
     try simp -implicitDefEqProofs (maxSteps := 1000000) (disch := omega) [go_sem, bdP]
     subst hc10
     refine vcK ?_
     simp -implicitDefEqProofs only [go_sem]
     have er := Option.some.inj h
     subst er
     try simp -implicitDefEqProofs (maxSteps := 1000000) (disch := omega) [go_sem, bdP]
     refine retG_pureA (Ext.refl hw) hK (e := by first | with_reducible rfl | (simp -implicitDefEqProofs (maxSteps := 1000000) (disch := omega) [go_sem, bdP] <;> omega))
   ·intro c15 h
    try simp -implicitDefEqProofs (disch := omega) at c15
    try simp -implicitDefEqProofs (maxSteps := 1000000) (disch := omega) [go_sem, bdP]
    subst hc10
    refine vcK ?_
    simp -implicitDefEqProofs only [go_sem]
    have er := Option.some.inj h
    subst er
    try simp -implicitDefEqProofs (maxSteps := 1000000) (disch := omega) [go_sem, bdP]
    refine retG_pureA (Ext.refl hw) hK (e := by first | with_reducible rfl | (simp -implicitDefEqProofs (maxSteps := 1000000) (disch := omega) [go_sem, bdP] <;> omega))
  ·intro c16 h
   try simp -implicitDefEqProofs (disch := omega) at c16
   try simp -implicitDefEqProofs (maxSteps := 1000000) (disch := omega) [go_sem, bdP]
   subst hc10
   refine vcK ?_
   simp -implicitDefEqProofs only [go_sem]
   have er := Option.some.inj h
   subst er
   try simp -implicitDefEqProofs (maxSteps := 1000000) (disch := omega) [go_sem, bdP]
   refine retG_pureA (Ext.refl hw) hK (e := by first | with_reducible rfl | (simp -implicitDefEqProofs (maxSteps := 1000000) (disch := omega) [go_sem, bdP] <;> omega))
 ·intro c17 h
  try simp -implicitDefEqProofs (disch := omega) at c17
  try simp -implicitDefEqProofs (maxSteps := 1000000) (disch := omega) [go_sem, bdP]
  subst hc10
  refine vcK ?_
  simp -implicitDefEqProofs only [go_sem]
  have er := Option.some.inj h
  subst er
  try simp -implicitDefEqProofs (maxSteps := 1000000) (disch := omega) [go_sem, bdP]
  refine retG_pureA (Ext.refl hw) hK (e := by first | with_reducible rfl | (simp -implicitDefEqProofs (maxSteps := 1000000) (disch := omega) [go_sem, bdP] <;> omega))

/-! cardcase/cardcaselaw07.mods -/

noncomputable def F12_k9 (v13 : List S50) : Option Bool :=
 (F11 v13).bind fun (x16 : Bool) => some x16

noncomputable def F12_b9 (a0 : List S48) (v10 : List S50) (v12 : Int) : Option (((List S50) × Int) ⊕ (List S50)) :=
 if v12 < (a0.length : Int) then (gd (0 ≤ v12 ∧ v12 < a0.length) (gd ((v10.length + ([(⟨(a0.getD v12.toNat S48.zero).fName, (a0.getD v12.toNat S48.zero).fValues⟩ : S50)]).length) * 40 ≤ 140737488355328) (some (.inl ((v10 ++ ([(⟨(a0.getD v12.toNat S48.zero).fName, (a0.getD v12.toNat S48.zero).fValues⟩ : S50)]), IntKind.i64.wrap (v12 + 1))))))) else (some (.inr v10))

noncomputable def F12 (a0 : List S48) : Option Bool :=
 if 12 < (a0.length : Int) then (some false) else ((loopO (fun (s : (List S50) × Int) => F12_b9 a0 s.1 s.2) ([], 0)).bind fun (e : (List S50)) => F12_k9 e)

set_option maxHeartbeats 8000000 in
set_option pp.deepTerms false in
set_option maxRecDepth 60000 in
theorem F12_ok {H : IHeap} {K : IEnd → IHeap → Prop} (a0 : List S48) {r : Bool} (h : F12 a0 = some r) (hK : K (.ret (.v (.bool r))) H) : ICalls prog 12 [.sl 3 (a0.map fun x => [.v (.int .i64 x.fKind), .v (str x.fName), .sl 1 (x.fValues.map fun x => [.v (str x)])])] H K := by
 refine ICalls_iwp (N := 30) func12 (by kernel_rfl) rfl (by kernel_rfl) (by kernel_rfl) fun cb hcb hw hbd hnb => ?_
 clear hbd hnb
 subst hcb
 unfold F12 at h
 refine IWp_seqF fun cb hc1 => ?_
 refine vcK ?_
 try simp -implicitDefEqProofs (maxSteps := 1000000) (disch := omega) [go_sem, bdP]
 subst hc1
 refine IWp_seqF fun cb hc2 => ?_
 refine vcK ?_
 try simp -implicitDefEqProofs (maxSteps := 1000000) (disch := omega) [go_sem, bdP]
 subst hc2
 refine IWp_seqF fun cb hc3 => ?_
 refine IWp_seqF fun cb hc4 => ?_
 refine vcK ?_
 try simp -implicitDefEqProofs (maxSteps := 1000000) (disch := omega) [go_sem, bdP]
 subst hc4
 refine IWp_cond_i h (by first | with_reducible rfl | (simp -implicitDefEqProofs (maxSteps := 1000000) (disch := omega) [go_sem, bdP] <;> omega)) rfl ?_ ?_
 ·intro c5 h
  try simp -implicitDefEqProofs (disch := omega) at c5
  refine IWp_seqF fun cb hc6 => ?_
  refine vcK ?_
  try simp -implicitDefEqProofs (maxSteps := 1000000) (disch := omega) [go_sem, bdP]
  subst hc6
  refine vcK ?_
  simp -implicitDefEqProofs only [go_sem]
  have er := Option.some.inj h
  subst er
  try simp -implicitDefEqProofs (maxSteps := 1000000) (disch := omega) [go_sem, bdP]
  refine retG_pureA (Ext.refl hw) hK (e := by first | with_reducible rfl | (simp -implicitDefEqProofs (maxSteps := 1000000) (disch := omega) [go_sem, bdP] <;> omega))
 ·intro c5 h
  try simp -implicitDefEqProofs (disch := omega) at c5
  refine vcK ?_
  simp -implicitDefEqProofs only [go_sem]
  subst hc3
  refine IWp_seqF fun cb hc7 => ?_
  refine IWp_seqF fun cb hc8 => ?_
  refine vcK ?_
  try simp -implicitDefEqProofs (maxSteps := 1000000) (disch := omega) [go_sem, bdP]
  subst hc8
  obtain ⟨y9, hl9q, hk9⟩ := bind_some' h
  refine IWp_tailC (fun tm' H' => ∃ n14 : Nat, ∃ v13 : List S50, v13 = y9 ∧ Ext H H' ∧ H.next ≤ H'.next ∧ H.next ≤ n14 ∧ n14 < H'.next ∧ tm' 3 = .os n14 v13.length ∧ H'.obj n14 = some (.row 2 (v13.map fun x => [.v (str x.fName), .sl 1 (x.fValues.map fun x => [.v (str x)])]))) ?_ fun cb hc9 => ?_
  ·rintro tm9e H9e ⟨n14, v13, rfl, he9e, hl9e, hr0_9e, hs0_9e, t3_9e, or0_9e⟩
   have h : F12_k9 v13 = some r := hk9
   unfold F12_k9 at h
   simp -implicitDefEqProofs only [go_sem]
   subst hc7
   refine IWp_seqF fun cb hc15 => ?_
   refine IWp.gh (Gh.freeze (d := 3) (k := n14) (sz := 2) (es := v13.map fun x => [.v (str x.fName), .sl 1 (x.fValues.map fun x => [.v (str x)])]) (by simp -implicitDefEqProofs (maxSteps := 1000000) (disch := omega) [go_sem, bdP, t3_9e, or0_9e]) (by simp -implicitDefEqProofs (maxSteps := 1000000) (disch := omega) [go_sem, bdP, t3_9e, or0_9e])) ?_
   refine vcK ?_
   try simp -implicitDefEqProofs (maxSteps := 1000000) (disch := omega) [go_sem, bdP, t3_9e, or0_9e]
   obtain ⟨x16, hx16, h⟩ := bind_some' h
   refine ICalls.eqA (args' := [.sl 2 (v13.map fun x => [.v (str x.fName), .sl 1 (x.fValues.map fun x => [.v (str x)])])]) (by first | with_reducible rfl | (simp -implicitDefEqProofs (maxSteps := 1000000) (disch := omega) [go_sem, bdP, t3_9e, or0_9e] <;> omega)) (F11_ok v13 hx16 ?_)
   try simp -implicitDefEqProofs (maxSteps := 1000000) (disch := omega) [go_sem, bdP, t3_9e, or0_9e]
   subst hc15
   refine vcK ?_
   simp -implicitDefEqProofs only [go_sem]
   have er := Option.some.inj h
   subst er
   try simp -implicitDefEqProofs (maxSteps := 1000000) (disch := omega) [go_sem, bdP, t3_9e, or0_9e]
   refine retG_pureA he9e hK (e := by first | with_reducible rfl | (simp -implicitDefEqProofs (maxSteps := 1000000) (disch := omega) [go_sem, bdP, t3_9e, or0_9e] <;> omega))
  ·refine IWp_block ?_
   refine IWp_loopF (fun (s : (List S50) × Int) tm' H' => ∃ n11 : Nat, Ext H H' ∧ H.next ≤ H'.next ∧ H.next ≤ n11 ∧ n11 < H'.next ∧ tm' 0 = .sl 3 (a0.map fun x => [.v (.int .i64 x.fKind), .v (str x.fName), .sl 1 (x.fValues.map fun x => [.v (str x)])]) ∧ tm' 3 = .os n11 s.1.length ∧ tm' 4 = .v (.int .i64 s.2) ∧ H'.obj n11 = some (.row 2 (s.1.map fun x => [.v (str x.fName), .sl 1 (x.fValues.map fun x => [.v (str x)])]))) hl9q ?_ ?_
   ·refine UpI.gh (Gh.nilrow (d := 3) (sz := 2) (by omega) (by (simp -implicitDefEqProofs (maxSteps := 1000000) (disch := omega) [go_sem, bdP] <;> omega))) ?_
    refine .same ⟨H.next, by repeat (first | exact (Ext.refl hw) | refine Ext.new ?_ _ | refine Ext.set ?_ (by first | omega | (simp [go_sem]; done) | (simp [go_sem]; omega)) _ | refine Ext.del ?_ (by first | omega | (simp [go_sem]; done) | (simp [go_sem]; omega))), by first | with_reducible rfl | with_reducible assumption | omega | (simp -implicitDefEqProofs (maxSteps := 1000000) (disch := omega) [go_sem, bdP] <;> omega), by first | with_reducible rfl | with_reducible assumption | omega | (simp -implicitDefEqProofs (maxSteps := 1000000) (disch := omega) [go_sem, bdP] <;> omega), by first | with_reducible rfl | with_reducible assumption | omega | (simp -implicitDefEqProofs (maxSteps := 1000000) (disch := omega) [go_sem, bdP] <;> omega), by first | with_reducible rfl | with_reducible assumption | (simp -implicitDefEqProofs (maxSteps := 1000000) (disch := omega) [go_sem, bdP] <;> omega), by first | with_reducible rfl | with_reducible assumption | (simp -implicitDefEqProofs (maxSteps := 1000000) (disch := omega) [go_sem, bdP] <;> omega), by first | with_reducible rfl | with_reducible assumption | (simp -implicitDefEqProofs (maxSteps := 1000000) (disch := omega) [go_sem, bdP] <;> omega), by first | with_reducible rfl | with_reducible assumption | (simp -implicitDefEqProofs (maxSteps := 1000000) (disch := omega) [go_sem, bdP] <;> omega)⟩
   ·rintro I9 hI9 ⟨v10, v12⟩ x9 tm9 H9 ⟨n11, he9, hl9, hr0_9, hs0_9, t0_9, t3_9, t4_9, or0_9⟩ h hret9
    replace h : F12_b9 a0 v10 v12 = some x9 := h
    unfold F12_b9 at h
    refine IWp_seqF fun cb hc17 => ?_
    refine IWp_seqF fun cb hc18 => ?_
    refine vcK ?_
    try simp -implicitDefEqProofs (maxSteps := 1000000) (disch := omega) [go_sem, bdP, t0_9, t3_9, t4_9, or0_9]
    subst hc18
    refine IWp_cond_i h (by first | with_reducible rfl | (simp -implicitDefEqProofs (maxSteps := 1000000) (disch := omega) [go_sem, bdP, t0_9, t3_9, t4_9, or0_9] <;> omega)) rfl ?_ ?_
    ·intro c19 h
     try simp -implicitDefEqProofs (disch := omega) at c19
     refine vcK ?_
     simp -implicitDefEqProofs only [go_sem]
     subst hc17
     refine IWp_seqF fun cb hc20 => ?_
     refine IWp_block ?_
     refine IWp_drawP [] [0, 1, 2, 3, 4, 5, 6, 7, 8, 9, 10, 11, 12, 13, 14] (by kernel_rfl) (by kernel_rfl) (fun _ _ _ _ h => h) ?_
     obtain ⟨g21, h⟩ := gd_some.1 h
     try simp -implicitDefEqProofs (disch := omega) at g21
     obtain ⟨g22, h⟩ := gd_some.1 h
     try simp -implicitDefEqProofs (disch := omega) at g22
     try simp -implicitDefEqProofs (maxSteps := 1000000) (disch := omega) [go_sem, bdP, t0_9, t3_9, t4_9, or0_9]
     subst hc20
     refine vcK ?_
     try simp -implicitDefEqProofs (maxSteps := 1000000) (disch := omega) [go_sem, bdP, t0_9, t3_9, t4_9, or0_9]
     have e9 := Option.some.inj h
     subst e9
     refine loopN_mk hI9 ((v10 ++ ([(⟨(a0.getD v12.toNat S48.zero).fName, (a0.getD v12.toNat S48.zero).fValues⟩ : S50)]), IntKind.i64.wrap (v12 + 1))) ?_
     refine .same ⟨n11, by repeat (first | exact he9 | refine Ext.new ?_ _ | refine Ext.set ?_ (by first | omega | (simp [go_sem]; done) | (simp [go_sem]; omega)) _ | refine Ext.del ?_ (by first | omega | (simp [go_sem]; done) | (simp [go_sem]; omega))), by first | with_reducible rfl | with_reducible assumption | omega | (simp -implicitDefEqProofs (maxSteps := 1000000) (disch := omega) [go_sem, bdP, t0_9, t3_9, t4_9, or0_9] <;> omega), by first | with_reducible rfl | with_reducible assumption | omega | (simp -implicitDefEqProofs (maxSteps := 1000000) (disch := omega) [go_sem, bdP, t0_9, t3_9, t4_9, or0_9] <;> omega), by first | with_reducible rfl | with_reducible assumption | omega | (simp -implicitDefEqProofs (maxSteps := 1000000) (disch := omega) [go_sem, bdP, t0_9, t3_9, t4_9, or0_9] <;> omega), by first | with_reducible rfl | with_reducible assumption | (simp -implicitDefEqProofs (maxSteps := 1000000) (disch := omega) [go_sem, bdP, t0_9, t3_9, t4_9, or0_9] <;> omega), by first | with_reducible rfl | with_reducible assumption | (simp -implicitDefEqProofs (maxSteps := 1000000) (disch := omega) [go_sem, bdP, t0_9, t3_9, t4_9, or0_9] <;> omega), by first | with_reducible rfl | with_reducible assumption | (simp -implicitDefEqProofs (maxSteps := 1000000) (disch := omega) [go_sem, bdP, t0_9, t3_9, t4_9, or0_9] <;> omega), by first | with_reducible rfl | with_reducible assumption | (simp -implicitDefEqProofs (maxSteps := 1000000) (disch := omega) [go_sem, bdP, t0_9, t3_9, t4_9, or0_9] <;> omega)⟩
    ·intro c19 h
     try simp -implicitDefEqProofs (disch := omega) at c19
     refine vcK ?_
     simp -implicitDefEqProofs only [go_sem]
     have e9 := Option.some.inj h
     subst e9
     have hy9 := hret9 _ rfl
     refine hc9 _ _ ?_
     refine .same ⟨n11, v10, hy9, by repeat (first | exact he9 | refine Ext.new ?_ _ | refine Ext.set ?_ (by first | omega | (simp [go_sem]; done) | (simp [go_sem]; omega)) _ | refine Ext.del ?_ (by first | omega | (simp [go_sem]; done) | (simp [go_sem]; omega))), by first | with_reducible rfl | with_reducible assumption | omega | (simp -implicitDefEqProofs (maxSteps := 1000000) (disch := omega) [go_sem, bdP, t0_9, t3_9, t4_9, or0_9] <;> omega), by first | with_reducible rfl | with_reducible assumption | omega | (simp -implicitDefEqProofs (maxSteps := 1000000) (disch := omega) [go_sem, bdP, t0_9, t3_9, t4_9, or0_9] <;> omega), by first | with_reducible rfl | with_reducible assumption | omega | (simp -implicitDefEqProofs (maxSteps := 1000000) (disch := omega) [go_sem, bdP, t0_9, t3_9, t4_9, or0_9] <;> omega), by first | with_reducible rfl | with_reducible assumption | (simp -implicitDefEqProofs (maxSteps := 1000000) (disch := omega) [go_sem, bdP, t0_9, t3_9, t4_9, or0_9] <;> omega), by first | with_reducible rfl | with_reducible assumption | (simp -implicitDefEqProofs (maxSteps := 1000000) (disch := omega) [go_sem, bdP, t0_9, t3_9, t4_9, or0_9] <;> omega)⟩

/-! cardcase/cardcaseref06.letter -/

noncomputable def F87 (a0 : Int) : Option Bool :=
 if 65 ≤ a0 then (if a0 ≤ 90 then (some true) else (if 97 ≤ a0 then (some (decide (a0 ≤ 122))) else (some false))) else (if 97 ≤ a0 then (some (decide (a0 ≤ 122))) else (some false))

set_option maxHeartbeats 8000000 in
set_option pp.deepTerms false in
set_option maxRecDepth 60000 in
theorem F87_ok {H : IHeap} {K : IEnd → IHeap → Prop} (a0 : Int) {r : Bool} (h : F87 a0 = some r) (hK : K (.ret (.v (.bool r))) H) : ICalls prog 87 [.v (.int .u8 a0)] H K := by
 refine ICalls_iwp (N := 17) func87 (by kernel_rfl) rfl (by kernel_rfl) (by kernel_rfl) fun cb hcb hw hbd hnb => ?_
 clear hbd hnb
 subst hcb
 unfold F87 at h
 refine IWp_seqF fun cb hc1 => ?_
 refine vcK ?_
 try simp -implicitDefEqProofs (maxSteps := 1000000) (disch := omega) [go_sem]
 subst hc1
 refine IWp_seqF fun cb hc2 => ?_
 refine vcK ?_
 try simp -implicitDefEqProofs (maxSteps := 1000000) (disch := omega) [go_sem]
 refine splitG_f h (by first | with_reducible rfl | (simp -implicitDefEqProofs (maxSteps := 1000000) (disch := omega) [go_sem] <;> omega)) ?_ ?_
 ·intro c6 h
  try simp -implicitDefEqProofs (disch := omega) at c6
  try simp -implicitDefEqProofs (maxSteps := 1000000) (disch := omega) [go_sem]
  refine splitG_f h (by first | with_reducible rfl | (simp -implicitDefEqProofs (maxSteps := 1000000) (disch := omega) [go_sem] <;> omega)) ?_ ?_
  ·intro c4 h
   try simp -implicitDefEqProofs (disch := omega) at c4
   try simp -implicitDefEqProofs (maxSteps := 1000000) (disch := omega) [go_sem]
   subst hc2
   refine vcK ?_
   simp -implicitDefEqProofs only [go_sem]
   have er := Option.some.inj h
   subst er
   try simp -implicitDefEqProofs (maxSteps := 1000000) (disch := omega) [go_sem]
   refine retG_pureA (Ext.refl hw) hK (e := by first | with_reducible rfl | (simp -implicitDefEqProofs (maxSteps := 1000000) (disch := omega) [go_sem] <;> omega))
  ·intro c4 h
   try simp -implicitDefEqProofs (disch := omega) at c4
   try simp -implicitDefEqProofs (maxSteps := 1000000) (disch := omega) [go_sem]
   refine splitG_f h (by first | with_reducible rfl | (simp -implicitDefEqProofs (maxSteps := 1000000) (disch := omega) [go_sem] <;> omega)) ?_ ?_
   ·intro c3 h
    try simp -implicitDefEqProofs (disch := omega) at c3
    try simp -implicitDefEqProofs (maxSteps := 1000000) (disch := omega) [go_sem]
    subst hc2
    refine vcK ?_
    simp -implicitDefEqProofs only [go_sem]
    have er := Option.some.inj h
    subst er
    try simp -implicitDefEqProofs (maxSteps := 1000000) (disch := omega) [go_sem]
    refine retG_pureA (Ext.refl hw) hK (e := by first | with_reducible rfl | (simp -implicitDefEqProofs (maxSteps := 1000000) (disch := omega) [go_sem] <;> omega))
   ·intro c3 h
    try simp -implicitDefEqProofs (disch := omega) at c3
    try simp -implicitDefEqProofs (maxSteps := 1000000) (disch := omega) [go_sem]
    subst hc2
    refine vcK ?_
    simp -implicitDefEqProofs only [go_sem]
    have er := Option.some.inj h
    subst er
    try simp -implicitDefEqProofs (maxSteps := 1000000) (disch := omega) [go_sem]
    refine retG_pureA (Ext.refl hw) hK (e := by first | with_reducible rfl | (simp -implicitDefEqProofs (maxSteps := 1000000) (disch := omega) [go_sem] <;> omega))
 ·intro c6 h
  try simp -implicitDefEqProofs (disch := omega) at c6
  try simp -implicitDefEqProofs (maxSteps := 1000000) (disch := omega) [go_sem]
  refine splitG_f h (by first | with_reducible rfl | (simp -implicitDefEqProofs (maxSteps := 1000000) (disch := omega) [go_sem] <;> omega)) ?_ ?_
  ·intro c5 h
   try simp -implicitDefEqProofs (disch := omega) at c5
   try simp -implicitDefEqProofs (maxSteps := 1000000) (disch := omega) [go_sem]
   subst hc2
   refine vcK ?_
   simp -implicitDefEqProofs only [go_sem]
   have er := Option.some.inj h
   subst er
   try simp -implicitDefEqProofs (maxSteps := 1000000) (disch := omega) [go_sem]
   refine retG_pureA (Ext.refl hw) hK (e := by first | with_reducible rfl | (simp -implicitDefEqProofs (maxSteps := 1000000) (disch := omega) [go_sem] <;> omega))
  ·intro c5 h
   try simp -implicitDefEqProofs (disch := omega) at c5
   try simp -implicitDefEqProofs (maxSteps := 1000000) (disch := omega) [go_sem]
   subst hc2
   refine vcK ?_
   simp -implicitDefEqProofs only [go_sem]
   have er := Option.some.inj h
   subst er
   try simp -implicitDefEqProofs (maxSteps := 1000000) (disch := omega) [go_sem]
   refine retG_pureA (Ext.refl hw) hK (e := by first | with_reducible rfl | (simp -implicitDefEqProofs (maxSteps := 1000000) (disch := omega) [go_sem] <;> omega))

end Go.Idl

namespace Go.Idl

open Go Go.Proofs.Tryz

/-! cardcase/cardcaseref06.Name -/

noncomputable def F49_k12  : Option Bool :=
 some true

noncomputable def F49_b12 (a0 : List UInt8) (v13 : Int) : Option (Int ⊕ (Unit ⊕ Bool)) :=
 if v13 < (a0.length : Int) then (gd (0 ≤ v13 ∧ v13 < a0.length) ((F87 (((a0.getD v13.toNat 0).toNat : Int))).bind fun (x21 : Bool) => if ¬ (x21 = true) then (if (((a0.getD v13.toNat 0).toNat : Int)) < 48 then (if ¬ (((a0.getD v13.toNat 0).toNat : Int)) = 45 then (some (.inr (.inr false))) else (some (.inl (IntKind.i64.wrap (v13 + 1))))) else (if 57 < (((a0.getD v13.toNat 0).toNat : Int)) then (if ¬ (((a0.getD v13.toNat 0).toNat : Int)) = 45 then (some (.inr (.inr false))) else (some (.inl (IntKind.i64.wrap (v13 + 1))))) else (some (.inl (IntKind.i64.wrap (v13 + 1)))))) else (some (.inl (IntKind.i64.wrap (v13 + 1)))))) else (some (.inr (.inl ())))

noncomputable def F49 (a0 : List UInt8) : Option Bool :=
 if (a0.length : Int) < 1 then (some false) else (if 64 < (a0.length : Int) then (some false) else (gd (0 < a0.length) ((F87 (((a0.getD 0 0).toNat : Int))).bind fun (x7 : Bool) => if ¬ (x7 = true) then (some false) else ((loopO (fun (s : Int) => F49_b12 a0 s) 0).bind fun y => Sum.elim (fun (e : Unit) => F49_k12) (fun (q : Bool) => some q) y))))

set_option maxHeartbeats 8000000 in
set_option pp.deepTerms false in
set_option maxRecDepth 60000 in
theorem F49_ok {H : IHeap} {K : IEnd → IHeap → Prop} (a0 : List UInt8) {r : Bool} (h : F49 a0 = some r) (hK : K (.ret (.v (.bool r))) H) : ICalls prog 49 [.v (str a0)] H K := by
 refine ICalls_iwp (N := 47) func49 (by kernel_rfl) rfl (by kernel_rfl) (by kernel_rfl) fun cb hcb hw hbd hnb => ?_
 clear hbd hnb
 subst hcb
 unfold F49 at h
 refine IWp_seqF fun cb hc1 => ?_
 refine vcK ?_
 try simp -implicitDefEqProofs (maxSteps := 1000000) (disch := omega) [go_sem]
 subst hc1
 refine IWp_seqF fun cb hc2 => ?_
 refine IWp_seqF fun cb hc3 => ?_
 refine vcK ?_
 try simp -implicitDefEqProofs (maxSteps := 1000000) (disch := omega) [go_sem]
 refine splitG_f h (by first | with_reducible rfl | (simp -implicitDefEqProofs (maxSteps := 1000000) (disch := omega) [go_sem] <;> omega)) ?_ ?_
 ·intro c30 h
  try simp -implicitDefEqProofs (disch := omega) at c30
  try simp -implicitDefEqProofs (maxSteps := 1000000) (disch := omega) [go_sem]
  subst hc3
  refine IWp_cond_t (by first | with_reducible rfl | (simp -implicitDefEqProofs (maxSteps := 1000000) (disch := omega) [go_sem] <;> omega)) rfl ?_
  refine IWp_seqF fun cb hc4 => ?_
  refine vcK ?_
  try simp -implicitDefEqProofs (maxSteps := 1000000) (disch := omega) [go_sem]
  subst hc4
  refine vcK ?_
  simp -implicitDefEqProofs only [go_sem]
  have er := Option.some.inj h
  subst er
  try simp -implicitDefEqProofs (maxSteps := 1000000) (disch := omega) [go_sem]
  refine retG_pureA (Ext.refl hw) hK (e := by first | with_reducible rfl | (simp -implicitDefEqProofs (maxSteps := 1000000) (disch := omega) [go_sem] <;> omega))
 ·intro c30 h
  try simp -implicitDefEqProofs (disch := omega) at c30
  try simp -implicitDefEqProofs (maxSteps := 1000000) (disch := omega) [go_sem]
  refine splitG_f h (by first | with_reducible rfl | (simp -implicitDefEqProofs (maxSteps := 1000000) (disch := omega) [go_sem] <;> omega)) ?_ ?_
  ·intro c29 h
   try simp -implicitDefEqProofs (disch := omega) at c29
   try simp -implicitDefEqProofs (maxSteps := 1000000) (disch := omega) [go_sem]
   subst hc3
   refine IWp_cond_t (by first | with_reducible rfl | (simp -implicitDefEqProofs (maxSteps := 1000000) (disch := omega) [go_sem] <;> omega)) rfl ?_
   refine IWp_seqF fun cb hc5 => ?_
   refine vcK ?_
   try simp -implicitDefEqProofs (maxSteps := 1000000) (disch := omega) [go_sem]
   subst hc5
   refine vcK ?_
   simp -implicitDefEqProofs only [go_sem]
   have er := Option.some.inj h
   subst er
   try simp -implicitDefEqProofs (maxSteps := 1000000) (disch := omega) [go_sem]
   refine retG_pureA (Ext.refl hw) hK (e := by first | with_reducible rfl | (simp -implicitDefEqProofs (maxSteps := 1000000) (disch := omega) [go_sem] <;> omega))
  ·intro c29 h
   try simp -implicitDefEqProofs (disch := omega) at c29
   obtain ⟨g6, h⟩ := gd_some.1 h
   try simp -implicitDefEqProofs (disch := omega) at g6
   try simp -implicitDefEqProofs (maxSteps := 1000000) (disch := omega) [go_sem]
   obtain ⟨x7, hx7, h⟩ := bind_some' h
   refine ICalls.eqA (args' := [.v (.int .u8 (((a0.getD 0 0).toNat : Int)))]) (by first | with_reducible rfl | (simp -implicitDefEqProofs (maxSteps := 1000000) (disch := omega) [go_sem] <;> omega)) (F87_ok (((a0.getD 0 0).toNat : Int)) hx7 ?_)
   try simp -implicitDefEqProofs (maxSteps := 1000000) (disch := omega) [go_sem]
   subst hc3
   refine IWp_cond_i h (by first | with_reducible rfl | (simp -implicitDefEqProofs (maxSteps := 1000000) (disch := omega) [go_sem] <;> omega)) rfl ?_ ?_
   ·intro c8 h
    try simp -implicitDefEqProofs (disch := omega) at c8
    refine IWp_seqF fun cb hc9 => ?_
    refine vcK ?_
    try simp -implicitDefEqProofs (maxSteps := 1000000) (disch := omega) [go_sem]
    subst hc9
    refine vcK ?_
    simp -implicitDefEqProofs only [go_sem]
    have er := Option.some.inj h
    subst er
    try simp -implicitDefEqProofs (maxSteps := 1000000) (disch := omega) [go_sem]
    refine retG_pureA (Ext.refl hw) hK (e := by first | with_reducible rfl | (simp -implicitDefEqProofs (maxSteps := 1000000) (disch := omega) [go_sem] <;> omega))
   ·intro c8 h
    try simp -implicitDefEqProofs (disch := omega) at c8
    refine vcK ?_
    simp -implicitDefEqProofs only [go_sem]
    subst hc2
    refine IWp_seqF fun cb hc10 => ?_
    refine IWp_seqF fun cb hc11 => ?_
    refine vcK ?_
    try simp -implicitDefEqProofs (maxSteps := 1000000) (disch := omega) [go_sem]
    subst hc11
    obtain ⟨y12, hl12q, hk12⟩ := bind_some' h
    refine IWp_tailC (fun tm' H' => .inl () = y12 ∧ H = H') ?_ fun cb hc12 => ?_
    ·rintro tm12e H12e ⟨rfl, rfl⟩
     have h : F49_k12 = some r := hk12
     unfold F49_k12 at h
     simp -implicitDefEqProofs only [go_sem]
     subst hc10
     refine IWp_seqF fun cb hc14 => ?_
     refine vcK ?_
     try simp -implicitDefEqProofs (maxSteps := 1000000) (disch := omega) [go_sem]
     subst hc14
     refine vcK ?_
     simp -implicitDefEqProofs only [go_sem]
     have er := Option.some.inj h
     subst er
     try simp -implicitDefEqProofs (maxSteps := 1000000) (disch := omega) [go_sem]
     refine retG_pureA (Ext.refl hw) hK (e := by first | with_reducible rfl | (simp -implicitDefEqProofs (maxSteps := 1000000) (disch := omega) [go_sem] <;> omega))
    ·refine IWp_block ?_
     refine IWp_loopF (fun (s : Int) tm' H' => H = H' ∧ tm' 0 = .v (str a0) ∧ tm' 3 = .v (.int .i64 s)) hl12q ?_ ?_
     ·refine .same ⟨rfl, ?_, ?_⟩ <;> first | with_reducible rfl | with_reducible assumption | (simp -implicitDefEqProofs (maxSteps := 1000000) (disch := omega) [go_sem] <;> omega)
     ·rintro I12 hI12 v13 x12 tm12 H12 ⟨rfl, t0_12, t3_12⟩ h hret12
      replace h : F49_b12 a0 v13 = some x12 := h
      unfold F49_b12 at h
      refine IWp_seqF fun cb hc15 => ?_
      refine IWp_seqF fun cb hc16 => ?_
      refine vcK ?_
      try simp -implicitDefEqProofs (maxSteps := 1000000) (disch := omega) [go_sem, t0_12, t3_12]
      subst hc16
      refine IWp_cond_i h (by first | with_reducible rfl | (simp -implicitDefEqProofs (maxSteps := 1000000) (disch := omega) [go_sem, t0_12, t3_12] <;> omega)) rfl ?_ ?_
      ·intro c17 h
       try simp -implicitDefEqProofs (disch := omega) at c17
       refine vcK ?_
       simp -implicitDefEqProofs only [go_sem]
       subst hc15
       refine IWp_seqF fun cb hc18 => ?_
       refine IWp_block ?_
       refine IWp_seqF fun cb hc19 => ?_
       refine vcK ?_
       obtain ⟨g20, h⟩ := gd_some.1 h
       try simp -implicitDefEqProofs (disch := omega) at g20
       try simp -implicitDefEqProofs (maxSteps := 1000000) (disch := omega) [go_sem, t0_12, t3_12]
       obtain ⟨x21, hx21, h⟩ := bind_some' h
       refine ICalls.eqA (args' := [.v (.int .u8 (((a0.getD v13.toNat 0).toNat : Int)))]) (by first | with_reducible rfl | (simp -implicitDefEqProofs (maxSteps := 1000000) (disch := omega) [go_sem, t0_12, t3_12] <;> omega)) (F87_ok (((a0.getD v13.toNat 0).toNat : Int)) hx21 ?_)
       try simp -implicitDefEqProofs (maxSteps := 1000000) (disch := omega) [go_sem, t0_12, t3_12]
       refine splitG_f h (by first | with_reducible rfl | (simp -implicitDefEqProofs (maxSteps := 1000000) (disch := omega) [go_sem, t0_12, t3_12] <;> omega)) ?_ ?_
       ·intro c28 h
        try simp -implicitDefEqProofs (disch := omega) at c28
        try simp -implicitDefEqProofs (maxSteps := 1000000) (disch := omega) [go_sem, t0_12, t3_12]
        refine splitG_f h (by first | with_reducible rfl | (simp -implicitDefEqProofs (maxSteps := 1000000) (disch := omega) [go_sem, t0_12, t3_12] <;> omega)) ?_ ?_
        ·intro c27 h
         try simp -implicitDefEqProofs (disch := omega) at c27
         try simp -implicitDefEqProofs (maxSteps := 1000000) (disch := omega) [go_sem, t0_12, t3_12]
         subst hc19
         refine IWp_cond_i h (by first | with_reducible rfl | (simp -implicitDefEqProofs (maxSteps := 1000000) (disch := omega) [go_sem, t0_12, t3_12] <;> omega)) rfl ?_ ?_
         ·intro c22 h
          try simp -implicitDefEqProofs (disch := omega) at c22
          refine IWp_seqF fun cb hc23 => ?_
          refine vcK ?_
          try simp -implicitDefEqProofs (maxSteps := 1000000) (disch := omega) [go_sem, t0_12, t3_12]
          subst hc23
          refine vcK ?_
          simp -implicitDefEqProofs only [go_sem]
          have e12 := Option.some.inj h
          subst e12
          have e12 := hret12 _ rfl
          subst e12
          replace h : some false = some r := hk12
          have er := Option.some.inj h
          subst er
          try simp -implicitDefEqProofs (maxSteps := 1000000) (disch := omega) [go_sem, t0_12, t3_12]
          refine retG_pureA (Ext.refl hw) hK (e := by first | with_reducible rfl | (simp -implicitDefEqProofs (maxSteps := 1000000) (disch := omega) [go_sem, t0_12, t3_12] <;> omega))
         ·intro c22 h
          try simp -implicitDefEqProofs (disch := omega) at c22
          refine vcK ?_
          simp -implicitDefEqProofs only [go_sem]
          subst hc18
          refine vcK ?_
          try simp -implicitDefEqProofs (maxSteps := 1000000) (disch := omega) [go_sem, t0_12, t3_12]
          have e12 := Option.some.inj h
          subst e12
          refine loopN_mk hI12 (IntKind.i64.wrap (v13 + 1)) ?_
          refine .same ⟨rfl, ?_, ?_⟩ <;> first | with_reducible rfl | with_reducible assumption | (simp -implicitDefEqProofs (maxSteps := 1000000) (disch := omega) [go_sem, t0_12, t3_12] <;> omega)
        ·intro c27 h
         try simp -implicitDefEqProofs (disch := omega) at c27
         try simp -implicitDefEqProofs (maxSteps := 1000000) (disch := omega) [go_sem, t0_12, t3_12]
         refine splitG_f h (by first | with_reducible rfl | (simp -implicitDefEqProofs (maxSteps := 1000000) (disch := omega) [go_sem, t0_12, t3_12] <;> omega)) ?_ ?_
         ·intro c26 h
          try simp -implicitDefEqProofs (disch := omega) at c26
          try simp -implicitDefEqProofs (maxSteps := 1000000) (disch := omega) [go_sem, t0_12, t3_12]
          subst hc19
          refine IWp_cond_i h (by first | with_reducible rfl | (simp -implicitDefEqProofs (maxSteps := 1000000) (disch := omega) [go_sem, t0_12, t3_12] <;> omega)) rfl ?_ ?_
          ·intro c24 h
           try simp -implicitDefEqProofs (disch := omega) at c24
           refine IWp_seqF fun cb hc25 => ?_
           refine vcK ?_
           try simp -implicitDefEqProofs (maxSteps := 1000000) (disch := omega) [go_sem, t0_12, t3_12]
           subst hc25
           refine vcK ?_
           simp -implicitDefEqProofs only [go_sem]
           have e12 := Option.some.inj h
           subst e12
           have e12 := hret12 _ rfl
           subst e12
           replace h : some false = some r := hk12
           have er := Option.some.inj h
           subst er
           try simp -implicitDefEqProofs (maxSteps := 1000000) (disch := omega) [go_sem, t0_12, t3_12]
           refine retG_pureA (Ext.refl hw) hK (e := by first | with_reducible rfl | (simp -implicitDefEqProofs (maxSteps := 1000000) (disch := omega) [go_sem, t0_12, t3_12] <;> omega))
          ·intro c24 h
           try simp -implicitDefEqProofs (disch := omega) at c24
           refine vcK ?_
           simp -implicitDefEqProofs only [go_sem]
           subst hc18
           refine vcK ?_
           try simp -implicitDefEqProofs (maxSteps := 1000000) (disch := omega) [go_sem, t0_12, t3_12]
           have e12 := Option.some.inj h
           subst e12
           refine loopN_mk hI12 (IntKind.i64.wrap (v13 + 1)) ?_
           refine .same ⟨rfl, ?_, ?_⟩ <;> first | with_reducible rfl | with_reducible assumption | (simp -implicitDefEqProofs (maxSteps := 1000000) (disch := omega) [go_sem, t0_12, t3_12] <;> omega)
         ·intro c26 h
          try simp -implicitDefEqProofs (disch := omega) at c26
          try simp -implicitDefEqProofs (maxSteps := 1000000) (disch := omega) [go_sem, t0_12, t3_12]
          subst hc19
          refine IWp_cond_f (by first | with_reducible rfl | (simp -implicitDefEqProofs (maxSteps := 1000000) (disch := omega) [go_sem, t0_12, t3_12] <;> omega)) rfl ?_
          refine vcK ?_
          simp -implicitDefEqProofs only [go_sem]
          subst hc18
          refine vcK ?_
          try simp -implicitDefEqProofs (maxSteps := 1000000) (disch := omega) [go_sem, t0_12, t3_12]
          have e12 := Option.some.inj h
          subst e12
          refine loopN_mk hI12 (IntKind.i64.wrap (v13 + 1)) ?_
          refine .same ⟨rfl, ?_, ?_⟩ <;> first | with_reducible rfl | with_reducible assumption | (simp -implicitDefEqProofs (maxSteps := 1000000) (disch := omega) [go_sem, t0_12, t3_12] <;> omega)
       ·intro c28 h
        try simp -implicitDefEqProofs (disch := omega) at c28
        try simp -implicitDefEqProofs (maxSteps := 1000000) (disch := omega) [go_sem, t0_12, t3_12]
        subst hc19
        refine IWp_cond_f (by first | with_reducible rfl | (simp -implicitDefEqProofs (maxSteps := 1000000) (disch := omega) [go_sem, t0_12, t3_12] <;> omega)) rfl ?_
        refine vcK ?_
        simp -implicitDefEqProofs only [go_sem]
        subst hc18
        refine vcK ?_
        try simp -implicitDefEqProofs (maxSteps := 1000000) (disch := omega) [go_sem, t0_12, t3_12]
        have e12 := Option.some.inj h
        subst e12
        refine loopN_mk hI12 (IntKind.i64.wrap (v13 + 1)) ?_
        refine .same ⟨rfl, ?_, ?_⟩ <;> first | with_reducible rfl | with_reducible assumption | (simp -implicitDefEqProofs (maxSteps := 1000000) (disch := omega) [go_sem, t0_12, t3_12] <;> omega)
      ·intro c17 h
       try simp -implicitDefEqProofs (disch := omega) at c17
       refine vcK ?_
       simp -implicitDefEqProofs only [go_sem]
       have e12 := Option.some.inj h
       subst e12
       have hy12 := hret12 _ rfl
       refine hc12 _ _ ?_
       refine .same ⟨hy12, rfl⟩

/-! cardcase/cardcaseref06.Small -/

noncomputable def F50_k5 (v8 : List UInt8) : Option (List UInt8) :=
 some v8

noncomputable def F50_b5 (a0 : List UInt8) (v6 : List UInt8) (v7 : Int) : Option (((List UInt8) × Int) ⊕ (List UInt8)) :=
 if v7 < (a0.length : Int) then (gd (0 ≤ v7 ∧ v7 < a0.length) (if 65 ≤ (((a0.getD v7.toNat 0).toNat : Int)) then (if (((a0.getD v7.toNat 0).toNat : Int)) ≤ 90 then (gd (0 ≤ (IntKind.u8.wrap ((((a0.getD v7.toNat 0).toNat : Int)) + 32)) ∧ (IntKind.u8.wrap ((((a0.getD v7.toNat 0).toNat : Int)) + 32)) ≤ 255) (gd ((v6.length : Int) + ([UInt8.ofNat (IntKind.u8.wrap ((((a0.getD v7.toNat 0).toNat : Int)) + 32)).toNat]).length ≤ 9223372036854775807) (some (.inl ((v6 ++ ([UInt8.ofNat (IntKind.u8.wrap ((((a0.getD v7.toNat 0).toNat : Int)) + 32)).toNat]), IntKind.i64.wrap (v7 + 1))))))) else (gd (0 ≤ (((a0.getD v7.toNat 0).toNat : Int)) ∧ (((a0.getD v7.toNat 0).toNat : Int)) ≤ 255) (gd ((v6.length : Int) + ([UInt8.ofNat (((a0.getD v7.toNat 0).toNat : Int)).toNat]).length ≤ 9223372036854775807) (some (.inl ((v6 ++ ([UInt8.ofNat (((a0.getD v7.toNat 0).toNat : Int)).toNat]), IntKind.i64.wrap (v7 + 1)))))))) else (gd (0 ≤ (((a0.getD v7.toNat 0).toNat : Int)) ∧ (((a0.getD v7.toNat 0).toNat : Int)) ≤ 255) (gd ((v6.length : Int) + ([UInt8.ofNat (((a0.getD v7.toNat 0).toNat : Int)).toNat]).length ≤ 9223372036854775807) (some (.inl ((v6 ++ ([UInt8.ofNat (((a0.getD v7.toNat 0).toNat : Int)).toNat]), IntKind.i64.wrap (v7 + 1))))))))) else (some (.inr v6))

noncomputable def F50 (a0 : List UInt8) : Option (List UInt8) :=
 (loopO (fun (s : (List UInt8) × Int) => F50_b5 a0 s.1 s.2) ([], 0)).bind fun (e : (List UInt8)) => F50_k5 e

set_option maxHeartbeats 8000000 in
set_option pp.deepTerms false in
set_option maxRecDepth 60000 in
theorem F50_ok {H : IHeap} {K : IEnd → IHeap → Prop} (a0 : List UInt8) {r : (List UInt8)} (h : F50 a0 = some r) (hK : K (.ret (.v (str r))) H) : ICalls prog 50 [.v (str a0)] H K := by
 refine ICalls_iwp (N := 29) func50 (by kernel_rfl) rfl (by kernel_rfl) (by kernel_rfl) fun cb hcb hw hbd hnb => ?_
 clear hbd hnb
 subst hcb
 unfold F50 at h
 refine IWp_seqF fun cb hc1 => ?_
 refine vcK ?_
 try simp -implicitDefEqProofs (maxSteps := 1000000) (disch := omega) [go_sem]
 subst hc1
 refine IWp_seqF fun cb hc2 => ?_
 refine vcK ?_
 try simp -implicitDefEqProofs (maxSteps := 1000000) (disch := omega) [go_sem]
 subst hc2
 refine IWp_seqF fun cb hc3 => ?_
 refine IWp_seqF fun cb hc4 => ?_
 refine vcK ?_
 try simp -implicitDefEqProofs (maxSteps := 1000000) (disch := omega) [go_sem]
 subst hc4
 obtain ⟨y5, hl5q, hk5⟩ := bind_some' h
 refine IWp_tailC (fun tm' H' => ∃ v8 : List UInt8, v8 = y5 ∧ H = H' ∧ tm' 3 = .v (str v8)) ?_ fun cb hc5 => ?_
 ·rintro tm5e H5e ⟨v8, rfl, rfl, t3_5e⟩
  have h : F50_k5 v8 = some r := hk5
  unfold F50_k5 at h
  simp -implicitDefEqProofs only [go_sem]
  subst hc3
  refine IWp_seqF fun cb hc9 => ?_
  refine vcK ?_
  try simp -implicitDefEqProofs (maxSteps := 1000000) (disch := omega) [go_sem, t3_5e]
  subst hc9
  refine vcK ?_
  simp -implicitDefEqProofs only [go_sem]
  have er := Option.some.inj h
  subst er
  try simp -implicitDefEqProofs (maxSteps := 1000000) (disch := omega) [go_sem, t3_5e]
  refine retG_pureA (Ext.refl hw) hK (e := by first | with_reducible rfl | (simp -implicitDefEqProofs (maxSteps := 1000000) (disch := omega) [go_sem, t3_5e] <;> omega))
 ·refine IWp_block ?_
  refine IWp_loopF (fun (s : (List UInt8) × Int) tm' H' => H = H' ∧ tm' 0 = .v (str a0) ∧ tm' 3 = .v (str s.1) ∧ tm' 4 = .v (.int .i64 s.2)) hl5q ?_ ?_
  ·refine .same ⟨rfl, ?_, ?_, ?_⟩ <;> first | with_reducible rfl | with_reducible assumption | (simp -implicitDefEqProofs (maxSteps := 1000000) (disch := omega) [go_sem] <;> omega)
  ·rintro I5 hI5 ⟨v6, v7⟩ x5 tm5 H5 ⟨rfl, t0_5, t3_5, t4_5⟩ h hret5
   replace h : F50_b5 a0 v6 v7 = some x5 := h
   unfold F50_b5 at h
   refine IWp_seqF fun cb hc10 => ?_
   refine IWp_seqF fun cb hc11 => ?_
   refine vcK ?_
   try simp -implicitDefEqProofs (maxSteps := 1000000) (disch := omega) [go_sem, t0_5, t3_5, t4_5]
   subst hc11
   refine IWp_cond_i h (by first | with_reducible rfl | (simp -implicitDefEqProofs (maxSteps := 1000000) (disch := omega) [go_sem, t0_5, t3_5, t4_5] <;> omega)) rfl ?_ ?_
   ·intro c12 h
    try simp -implicitDefEqProofs (disch := omega) at c12
    refine vcK ?_
    simp -implicitDefEqProofs only [go_sem]
    subst hc10
    refine IWp_seqF fun cb hc13 => ?_
    refine IWp_block ?_
    refine IWp_seqF fun cb hc14 => ?_
    refine vcK ?_
    obtain ⟨g15, h⟩ := gd_some.1 h
    try simp -implicitDefEqProofs (disch := omega) at g15
    try simp -implicitDefEqProofs (maxSteps := 1000000) (disch := omega) [go_sem, t0_5, t3_5, t4_5]
    subst hc14
    refine IWp_seqF fun cb hc16 => ?_
    refine IWp_seqF fun cb hc17 => ?_
    refine vcK ?_
    try simp -implicitDefEqProofs (maxSteps := 1000000) (disch := omega) [go_sem, t0_5, t3_5, t4_5]
    refine splitG_f h (by first | with_reducible rfl | (simp -implicitDefEqProofs (maxSteps := 1000000) (disch := omega) [go_sem, t0_5, t3_5, t4_5] <;> omega)) ?_ ?_
    ·intro c25 h
     try simp -implicitDefEqProofs (disch := omega) at c25
     try simp -implicitDefEqProofs (maxSteps := 1000000) (disch := omega) [go_sem, t0_5, t3_5, t4_5]
     subst hc17
     refine IWp_cond_i h (by first | with_reducible rfl | (simp -implicitDefEqProofs (maxSteps := 1000000) (disch := omega) [go_sem, t0_5, t3_5, t4_5] <;> omega)) rfl ?_ ?_
     ·intro c18 h
      try simp -implicitDefEqProofs (disch := omega) at c18
      refine vcK ?_
      try simp -implicitDefEqProofs (maxSteps := 1000000) (disch := omega) [go_sem, t0_5, t3_5, t4_5]
      subst hc16
      refine vcK ?_
      obtain ⟨g19, h⟩ := gd_some.1 h
      try simp -implicitDefEqProofs (disch := omega) at g19
      obtain ⟨g20, h⟩ := gd_some.1 h
      try simp -implicitDefEqProofs (disch := omega) at g20
      try simp -implicitDefEqProofs (maxSteps := 1000000) (disch := omega) [go_sem, t0_5, t3_5, t4_5]
      subst hc13
      refine vcK ?_
      try simp -implicitDefEqProofs (maxSteps := 1000000) (disch := omega) [go_sem, t0_5, t3_5, t4_5]
      have e5 := Option.some.inj h
      subst e5
      refine loopN_mk hI5 ((v6 ++ ([UInt8.ofNat (IntKind.u8.wrap ((((a0.getD v7.toNat 0).toNat : Int)) + 32)).toNat]), IntKind.i64.wrap (v7 + 1))) ?_
      refine .same ⟨rfl, ?_, ?_, ?_⟩ <;> first | with_reducible rfl | with_reducible assumption | (simp -implicitDefEqProofs (maxSteps := 1000000) (disch := omega) [go_sem, t0_5, t3_5, t4_5] <;> omega)
     ·intro c18 h
      try simp -implicitDefEqProofs (disch := omega) at c18
      refine vcK ?_
      simp -implicitDefEqProofs only [go_sem]
      subst hc16
      refine vcK ?_
      obtain ⟨g21, h⟩ := gd_some.1 h
      try simp -implicitDefEqProofs (disch := omega) at g21
      obtain ⟨g22, h⟩ := gd_some.1 h
      try simp -implicitDefEqProofs (disch := omega) at g22
      try simp -implicitDefEqProofs (maxSteps := 1000000) (disch := omega) [go_sem, t0_5, t3_5, t4_5]
      subst hc13
      refine vcK ?_
      try simp -implicitDefEqProofs (maxSteps := 1000000) (disch := omega) [go_sem, t0_5, t3_5, t4_5]
      have e5 := Option.some.inj h
      subst e5
      refine loopN_mk hI5 ((v6 ++ ([UInt8.ofNat (((a0.getD v7.toNat 0).toNat : Int)).toNat]), IntKind.i64.wrap (v7 + 1))) ?_
      refine .same ⟨rfl, ?_, ?_, ?_⟩ <;> first | with_reducible rfl | with_reducible assumption | (simp -implicitDefEqProofs (maxSteps := 1000000) (disch := omega) [go_sem, t0_5, t3_5, t4_5] <;> omega)
    ·intro c25 h
     try simp -implicitDefEqProofs (disch := omega) at c25
     try simp -implicitDefEqProofs (maxSteps := 1000000) (disch := omega) [go_sem, t0_5, t3_5, t4_5]
     subst hc17
     refine IWp_cond_f (by first | with_reducible rfl | (simp -implicitDefEqProofs (maxSteps := 1000000) (disch := omega) [go_sem, t0_5, t3_5, t4_5] <;> omega)) rfl ?_
     refine vcK ?_
     simp -implicitDefEqProofs only [go_sem]
     subst hc16
     refine vcK ?_
     obtain ⟨g23, h⟩ := gd_some.1 h
     try simp -implicitDefEqProofs (disch := omega) at g23
     obtain ⟨g24, h⟩ := gd_some.1 h
     try simp -implicitDefEqProofs (disch := omega) at g24
     try simp -implicitDefEqProofs (maxSteps := 1000000) (disch := omega) [go_sem, t0_5, t3_5, t4_5]
     subst hc13
     refine vcK ?_
     try simp -implicitDefEqProofs (maxSteps := 1000000) (disch := omega) [go_sem, t0_5, t3_5, t4_5]
     have e5 := Option.some.inj h
     subst e5
     refine loopN_mk hI5 ((v6 ++ ([UInt8.ofNat (((a0.getD v7.toNat 0).toNat : Int)).toNat]), IntKind.i64.wrap (v7 + 1))) ?_
     refine .same ⟨rfl, ?_, ?_, ?_⟩ <;> first | with_reducible rfl | with_reducible assumption | (simp -implicitDefEqProofs (maxSteps := 1000000) (disch := omega) [go_sem, t0_5, t3_5, t4_5] <;> omega)
   ·intro c12 h
    try simp -implicitDefEqProofs (disch := omega) at c12
    refine vcK ?_
    simp -implicitDefEqProofs only [go_sem]
    have e5 := Option.some.inj h
    subst e5
    have hy5 := hret5 _ rfl
    refine hc5 _ _ ?_
    refine .same ⟨v6, hy5, rfl, by first | with_reducible rfl | with_reducible assumption | (simp -implicitDefEqProofs (maxSteps := 1000000) (disch := omega) [go_sem, t0_5, t3_5, t4_5] <;> omega)⟩

/-! cardcase/cardcaseref07.values -/

noncomputable def F51_k4  : Option Bool :=
 some true

noncomputable def F51_b4 (a0 : List (List UInt8)) (v5 : Int) : Option (Int ⊕ (Unit ⊕ Bool)) :=
 if v5 < (a0.length : Int) then (gd (0 ≤ v5 ∧ v5 < a0.length) (if (((a0.getD v5.toNat []).length : Int)) < 1 then (some (.inr (.inr false))) else (if 2048 < (((a0.getD v5.toNat []).length : Int)) then (some (.inr (.inr false))) else (some (.inl (IntKind.i64.wrap (v5 + 1))))))) else (some (.inr (.inl ())))

noncomputable def F51 (a0 : List (List UInt8)) : Option Bool :=
 (loopO (fun (s : Int) => F51_b4 a0 s) 0).bind fun y => Sum.elim (fun (e : Unit) => F51_k4) (fun (q : Bool) => some q) y

set_option maxHeartbeats 8000000 in
set_option pp.deepTerms false in
set_option maxRecDepth 60000 in
theorem F51_ok {H : IHeap} {K : IEnd → IHeap → Prop} (a0 : List (List UInt8)) {r : Bool} (h : F51 a0 = some r) (hK : K (.ret (.v (.bool r))) H) : ICalls prog 51 [.sl 1 (a0.map fun x => [.v (str x)])] H K := by
 refine ICalls_iwp (N := 24) func51 (by kernel_rfl) rfl (by kernel_rfl) (by kernel_rfl) fun cb hcb hw hbd hnb => ?_
 clear hbd hnb
 subst hcb
 unfold F51 at h
 refine IWp_seqF fun cb hc1 => ?_
 refine vcK ?_
 try simp -implicitDefEqProofs (maxSteps := 1000000) (disch := omega) [go_sem]
 subst hc1
 refine IWp_seqF fun cb hc2 => ?_
 refine IWp_seqF fun cb hc3 => ?_
 refine vcK ?_
 try simp -implicitDefEqProofs (maxSteps := 1000000) (disch := omega) [go_sem]
 subst hc3
 obtain ⟨y4, hl4q, hk4⟩ := bind_some' h
 refine IWp_tailC (fun tm' H' => .inl () = y4 ∧ H = H') ?_ fun cb hc4 => ?_
 ·rintro tm4e H4e ⟨rfl, rfl⟩
  have h : F51_k4 = some r := hk4
  unfold F51_k4 at h
  simp -implicitDefEqProofs only [go_sem]
  subst hc2
  refine IWp_seqF fun cb hc6 => ?_
  refine vcK ?_
  try simp -implicitDefEqProofs (maxSteps := 1000000) (disch := omega) [go_sem]
  subst hc6
  refine vcK ?_
  simp -implicitDefEqProofs only [go_sem]
  have er := Option.some.inj h
  subst er
  try simp -implicitDefEqProofs (maxSteps := 1000000) (disch := omega) [go_sem]
  refine retG_pureA (Ext.refl hw) hK (e := by first | with_reducible rfl | (simp -implicitDefEqProofs (maxSteps := 1000000) (disch := omega) [go_sem] <;> omega))
 ·refine IWp_block ?_
  refine IWp_loopF (fun (s : Int) tm' H' => H = H' ∧ tm' 0 = .sl 1 (a0.map fun x => [.v (str x)]) ∧ tm' 3 = .v (.int .i64 s)) hl4q ?_ ?_
  ·refine .same ⟨rfl, ?_, ?_⟩ <;> first | with_reducible rfl | with_reducible assumption | (simp -implicitDefEqProofs (maxSteps := 1000000) (disch := omega) [go_sem] <;> omega)
  ·rintro I4 hI4 v5 x4 tm4 H4 ⟨rfl, t0_4, t3_4⟩ h hret4
   replace h : F51_b4 a0 v5 = some x4 := h
   unfold F51_b4 at h
   refine IWp_seqF fun cb hc7 => ?_
   refine IWp_seqF fun cb hc8 => ?_
   refine vcK ?_
   try simp -implicitDefEqProofs (maxSteps := 1000000) (disch := omega) [go_sem, t0_4, t3_4]
   subst hc8
   refine IWp_cond_i h (by first | with_reducible rfl | (simp -implicitDefEqProofs (maxSteps := 1000000) (disch := omega) [go_sem, t0_4, t3_4] <;> omega)) rfl ?_ ?_
   ·intro c9 h
    try simp -implicitDefEqProofs (disch := omega) at c9
    refine vcK ?_
    simp -implicitDefEqProofs only [go_sem]
    subst hc7
    refine IWp_seqF fun cb hc10 => ?_
    refine IWp_block ?_
    refine IWp_seqF fun cb hc11 => ?_
    refine vcK ?_
    obtain ⟨g12, h⟩ := gd_some.1 h
    try simp -implicitDefEqProofs (disch := omega) at g12
    try simp -implicitDefEqProofs (maxSteps := 1000000) (disch := omega) [go_sem, t0_4, t3_4]
    refine splitG_f h (by first | with_reducible rfl | (simp -implicitDefEqProofs (maxSteps := 1000000) (disch := omega) [go_sem, t0_4, t3_4] <;> omega)) ?_ ?_
    ·intro c16 h
     try simp -implicitDefEqProofs (disch := omega) at c16
     try simp -implicitDefEqProofs (maxSteps := 1000000) (disch := omega) [go_sem, t0_4, t3_4]
     subst hc11
     refine IWp_cond_t (by first | with_reducible rfl | (simp -implicitDefEqProofs (maxSteps := 1000000) (disch := omega) [go_sem, t0_4, t3_4] <;> omega)) rfl ?_
     refine IWp_seqF fun cb hc13 => ?_
     refine vcK ?_
     try simp -implicitDefEqProofs (maxSteps := 1000000) (disch := omega) [go_sem, t0_4, t3_4]
     subst hc13
     refine vcK ?_
     simp -implicitDefEqProofs only [go_sem]
     have e4 := Option.some.inj h
     subst e4
     have e4 := hret4 _ rfl
     subst e4
     replace h : some false = some r := hk4
     have er := Option.some.inj h
     subst er
     try simp -implicitDefEqProofs (maxSteps := 1000000) (disch := omega) [go_sem, t0_4, t3_4]
     refine retG_pureA (Ext.refl hw) hK (e := by first | with_reducible rfl | (simp -implicitDefEqProofs (maxSteps := 1000000) (disch := omega) [go_sem, t0_4, t3_4] <;> omega))
    ·intro c16 h
     try simp -implicitDefEqProofs (disch := omega) at c16
     try simp -implicitDefEqProofs (maxSteps := 1000000) (disch := omega) [go_sem, t0_4, t3_4]
     subst hc11
     refine IWp_cond_i h (by first | with_reducible rfl | (simp -implicitDefEqProofs (maxSteps := 1000000) (disch := omega) [go_sem, t0_4, t3_4] <;> omega)) rfl ?_ ?_
     ·intro c14 h
      try simp -implicitDefEqProofs (disch := omega) at c14
      refine IWp_seqF fun cb hc15 => ?_
      refine vcK ?_
      try simp -implicitDefEqProofs (maxSteps := 1000000) (disch := omega) [go_sem, t0_4, t3_4]
      subst hc15
      refine vcK ?_
      simp -implicitDefEqProofs only [go_sem]
      have e4 := Option.some.inj h
      subst e4
      have e4 := hret4 _ rfl
      subst e4
      replace h : some false = some r := hk4
      have er := Option.some.inj h
      subst er
      try simp -implicitDefEqProofs (maxSteps := 1000000) (disch := omega) [go_sem, t0_4, t3_4]
      refine retG_pureA (Ext.refl hw) hK (e := by first | with_reducible rfl | (simp -implicitDefEqProofs (maxSteps := 1000000) (disch := omega) [go_sem, t0_4, t3_4] <;> omega))
     ·intro c14 h
      try simp -implicitDefEqProofs (disch := omega) at c14
      refine vcK ?_
      simp -implicitDefEqProofs only [go_sem]
      subst hc10
      refine vcK ?_
      try simp -implicitDefEqProofs (maxSteps := 1000000) (disch := omega) [go_sem, t0_4, t3_4]
      have e4 := Option.some.inj h
      subst e4
      refine loopN_mk hI4 (IntKind.i64.wrap (v5 + 1)) ?_
      refine .same ⟨rfl, ?_, ?_⟩ <;> first | with_reducible rfl | with_reducible assumption | (simp -implicitDefEqProofs (maxSteps := 1000000) (disch := omega) [go_sem, t0_4, t3_4] <;> omega)
   ·intro c9 h
    try simp -implicitDefEqProofs (disch := omega) at c9
    refine vcK ?_
    simp -implicitDefEqProofs only [go_sem]
    have e4 := Option.some.inj h
    subst e4
    have hy4 := hret4 _ rfl
    refine hc4 _ _ ?_
    refine .same ⟨hy4, rfl⟩

/-! cardcase/cardcaseref07.Right -/

noncomputable def F18_k8  : Option Bool :=
 some true

noncomputable def F18_k19 (v9 : Int) : Option (Int ⊕ (Unit ⊕ Bool)) :=
 some (.inl (IntKind.i64.wrap (v9 + 1)))

noncomputable def F18_b19 (a0 : List S50) (v9 : Int) (v20 : Int) : Option (Int ⊕ (Unit ⊕ Bool)) :=
 if v20 < ((((a0.getD v9.toNat S50.zero).fValues).length : Int)) then (gd (0 ≤ (IntKind.i64.wrap (v20 - 1)) ∧ (IntKind.i64.wrap (v20 - 1)) < ((a0.getD v9.toNat S50.zero).fValues).length) (gd (0 ≤ v20 ∧ v20 < ((a0.getD v9.toNat S50.zero).fValues).length) (if ¬ Op.bytesLess (((a0.getD v9.toNat S50.zero).fValues).getD (IntKind.i64.wrap (v20 - 1)).toNat []) (((a0.getD v9.toNat S50.zero).fValues).getD v20.toNat []) = true then (some (.inr (.inr false))) else (some (.inl (IntKind.i64.wrap (v20 + 1))))))) else (some (.inr (.inl ())))

noncomputable def F18_k17 (a0 : List S50) (v9 : Int) : Option (Int ⊕ (Unit ⊕ Bool)) :=
 (loopO (fun (s : Int) => F18_b19 a0 v9 s) 1).bind fun y => Sum.elim (fun (e : Unit) => F18_k19 v9) (fun (q : Bool) => some (.inr (.inr q))) y

noncomputable def F18_b8 (a0 : List S50) (v9 : Int) : Option (Int ⊕ (Unit ⊕ Bool)) :=
 if v9 < (a0.length : Int) then (gd (0 ≤ v9 ∧ v9 < a0.length) ((F49 ((a0.getD v9.toNat S50.zero).fName)).bind fun (x31 : Bool) => if ¬ (x31 = true) then (some (.inr (.inr false))) else ((F50 ((a0.getD v9.toNat S50.zero).fName)).bind fun (x33 : (List UInt8)) => if ¬ x33 = ((a0.getD v9.toNat S50.zero).fName) then (some (.inr (.inr false))) else (if ((((a0.getD v9.toNat S50.zero).fValues).length : Int)) < 1 then (some (.inr (.inr false))) else (if 16 < ((((a0.getD v9.toNat S50.zero).fValues).length : Int)) then (some (.inr (.inr false))) else ((F51 ((a0.getD v9.toNat S50.zero).fValues)).bind fun (x37 : Bool) => if ¬ (x37 = true) then (some (.inr (.inr false))) else (if 0 < v9 then (gd (0 ≤ (IntKind.i64.wrap (v9 - 1)) ∧ (IntKind.i64.wrap (v9 - 1)) < a0.length) (if ¬ Op.bytesLess ((a0.getD (IntKind.i64.wrap (v9 - 1)).toNat S50.zero).fName) ((a0.getD v9.toNat S50.zero).fName) = true then (some (.inr (.inr false))) else (F18_k17 a0 v9))) else (F18_k17 a0 v9)))))))) else (some (.inr (.inl ())))

noncomputable def F18 (a0 : List S50) : Option Bool :=
 if 24 < (a0.length : Int) then (some false) else ((loopO (fun (s : Int) => F18_b8 a0 s) 0).bind fun y => Sum.elim (fun (e : Unit) => F18_k8) (fun (q : Bool) => some q) y)

set_option maxHeartbeats 8000000 in
set_option pp.deepTerms false in
set_option maxRecDepth 60000 in
theorem F18_ok {H : IHeap} {K : IEnd → IHeap → Prop} (a0 : List S50) {r : Bool} (h : F18 a0 = some r) (hK : K (.ret (.v (.bool r))) H) : ICalls prog 18 [.sl 2 (a0.map fun x => [.v (str x.fName), .sl 1 (x.fValues.map fun x => [.v (str x)])])] H K := by
 refine ICalls_iwp (N := 83) func18 (by kernel_rfl) rfl (by kernel_rfl) (by kernel_rfl) fun cb hcb hw hbd hnb => ?_
 clear hbd hnb
 subst hcb
 unfold F18 at h
 refine IWp_seqF fun cb hc1 => ?_
 refine vcK ?_
 try simp -implicitDefEqProofs (maxSteps := 1000000) (disch := omega) [go_sem]
 subst hc1
 refine IWp_seqF fun cb hc2 => ?_
 refine IWp_seqF fun cb hc3 => ?_
 refine vcK ?_
 try simp -implicitDefEqProofs (maxSteps := 1000000) (disch := omega) [go_sem]
 subst hc3
 refine IWp_cond_i h (by first | with_reducible rfl | (simp -implicitDefEqProofs (maxSteps := 1000000) (disch := omega) [go_sem] <;> omega)) rfl ?_ ?_
 ·intro c4 h
  try simp -implicitDefEqProofs (disch := omega) at c4
  refine IWp_seqF fun cb hc5 => ?_
  refine vcK ?_
  try simp -implicitDefEqProofs (maxSteps := 1000000) (disch := omega) [go_sem]
  subst hc5
  refine vcK ?_
  simp -implicitDefEqProofs only [go_sem]
  have er := Option.some.inj h
  subst er
  try simp -implicitDefEqProofs (maxSteps := 1000000) (disch := omega) [go_sem]
  refine retG_pureA (Ext.refl hw) hK (e := by first | with_reducible rfl | (simp -implicitDefEqProofs (maxSteps := 1000000) (disch := omega) [go_sem] <;> omega))
 ·intro c4 h
  try simp -implicitDefEqProofs (disch := omega) at c4
  refine vcK ?_
  simp -implicitDefEqProofs only [go_sem]
  subst hc2
  refine IWp_seqF fun cb hc6 => ?_
  refine IWp_seqF fun cb hc7 => ?_
  refine vcK ?_
  try simp -implicitDefEqProofs (maxSteps := 1000000) (disch := omega) [go_sem]
  subst hc7
  obtain ⟨y8, hl8q, hk8⟩ := bind_some' h
  refine IWp_tailC (fun tm' H' => .inl () = y8 ∧ Ext H H' ∧ H.next ≤ H'.next) ?_ fun cb hc8 => ?_
  ·rintro tm8e H8e ⟨rfl, he8e, hl8e⟩
   have h : F18_k8 = some r := hk8
   unfold F18_k8 at h
   simp -implicitDefEqProofs only [go_sem]
   subst hc6
   refine IWp_seqF fun cb hc10 => ?_
   refine vcK ?_
   try simp -implicitDefEqProofs (maxSteps := 1000000) (disch := omega) [go_sem]
   subst hc10
   refine vcK ?_
   simp -implicitDefEqProofs only [go_sem]
   have er := Option.some.inj h
   subst er
   try simp -implicitDefEqProofs (maxSteps := 1000000) (disch := omega) [go_sem]
   refine retG_pureA he8e hK (e := by first | with_reducible rfl | (simp -implicitDefEqProofs (maxSteps := 1000000) (disch := omega) [go_sem] <;> omega))
  ·refine IWp_block ?_
   refine IWp_loopF (fun (s : Int) tm' H' => Ext H H' ∧ H.next ≤ H'.next ∧ tm' 0 = .sl 2 (a0.map fun x => [.v (str x.fName), .sl 1 (x.fValues.map fun x => [.v (str x)])]) ∧ tm' 3 = .v (.int .i64 s)) hl8q ?_ ?_
   ·refine .same ⟨by repeat (first | exact (Ext.refl hw) | refine Ext.new ?_ _ | refine Ext.set ?_ (by first | omega | (simp [go_sem]; done) | (simp [go_sem]; omega)) _ | refine Ext.del ?_ (by first | omega | (simp [go_sem]; done) | (simp [go_sem]; omega))), by first | with_reducible rfl | with_reducible assumption | omega | (simp -implicitDefEqProofs (maxSteps := 1000000) (disch := omega) [go_sem] <;> omega), by first | with_reducible rfl | with_reducible assumption | (simp -implicitDefEqProofs (maxSteps := 1000000) (disch := omega) [go_sem] <;> omega), by first | with_reducible rfl | with_reducible assumption | (simp -implicitDefEqProofs (maxSteps := 1000000) (disch := omega) [go_sem] <;> omega)⟩
   ·rintro I8 hI8 v9 x8 tm8 H8 ⟨he8, hl8, t0_8, t3_8⟩ h hret8
    replace h : F18_b8 a0 v9 = some x8 := h
    unfold F18_b8 at h
    refine IWp_seqF fun cb hc11 => ?_
    refine IWp_seqF fun cb hc12 => ?_
    refine vcK ?_
    try simp -implicitDefEqProofs (maxSteps := 1000000) (disch := omega) [go_sem, t0_8, t3_8]
    subst hc12
    refine IWp_cond_i h (by first | with_reducible rfl | (simp -implicitDefEqProofs (maxSteps := 1000000) (disch := omega) [go_sem, t0_8, t3_8] <;> omega)) rfl ?_ ?_
    ·intro c13 h
     try simp -implicitDefEqProofs (disch := omega) at c13
     refine vcK ?_
     simp -implicitDefEqProofs only [go_sem]
     subst hc11
     refine IWp_seqF fun cb hc14 => ?_
     refine IWp_block ?_
     refine IWp_seqF fun cb hc15 => ?_
     refine vcK ?_
     obtain ⟨g16, h⟩ := gd_some.1 h
     try simp -implicitDefEqProofs (disch := omega) at g16
     try simp -implicitDefEqProofs (maxSteps := 1000000) (disch := omega) [go_sem, t0_8, t3_8]
     subst hc15
     refine IWp_seqC (fun tm' H' => Ext H H' ∧ H8.next + 1 ≤ H'.next ∧ tm' 0 = .sl 2 (a0.map fun x => [.v (str x.fName), .sl 1 (x.fValues.map fun x => [.v (str x)])]) ∧ tm' 3 = .v (.int .i64 v9) ∧ tm' 4 = .p H8.next 0 ∧ H'.obj H8.next = some (.cells ([.v (str ((a0.getD v9.toNat S50.zero).fName)), .sl 1 (((a0.getD v9.toNat S50.zero).fValues).map fun x => [.v (str x)])])) ∧ F18_k17 a0 v9 = some x8) ?_ fun cb hc17 => ?_
     ·rintro tm17 H17 ⟨he17, hl17, t0_17, t3_17, t4_17, ob0_17, h⟩
      unfold F18_k17 at h
      refine IWp_seqF fun cb hc18 => ?_
      refine vcK ?_
      try simp -implicitDefEqProofs (maxSteps := 1000000) (disch := omega) [go_sem, t0_17, t3_17, t4_17, ob0_17]
      subst hc18
      obtain ⟨y19, hl19q, hk19⟩ := bind_some' h
      refine IWp_tailC (fun tm' H' => .inl () = y19 ∧ H17 = H' ∧ tm' 0 = .sl 2 (a0.map fun x => [.v (str x.fName), .sl 1 (x.fValues.map fun x => [.v (str x)])]) ∧ tm' 3 = .v (.int .i64 v9)) ?_ fun cb hc19 => ?_
      ·rintro tm19e H19e ⟨rfl, rfl, t0_19e, t3_19e⟩
       have h : F18_k19 v9 = some x8 := hk19
       unfold F18_k19 at h
       simp -implicitDefEqProofs only [go_sem]
       subst hc14
       refine vcK ?_
       try simp -implicitDefEqProofs (maxSteps := 1000000) (disch := omega) [go_sem, t0_19e, t3_19e, ob0_17]
       have e8 := Option.some.inj h
       subst e8
       refine loopN_mk hI8 (IntKind.i64.wrap (v9 + 1)) ?_
       refine .same ⟨by repeat (first | exact he17 | refine Ext.new ?_ _ | refine Ext.set ?_ (by first | omega | (simp [go_sem]; done) | (simp [go_sem]; omega)) _ | refine Ext.del ?_ (by first | omega | (simp [go_sem]; done) | (simp [go_sem]; omega))), by first | with_reducible rfl | with_reducible assumption | omega | (simp -implicitDefEqProofs (maxSteps := 1000000) (disch := omega) [go_sem, t0_19e, t3_19e, ob0_17] <;> omega), by first | with_reducible rfl | with_reducible assumption | (simp -implicitDefEqProofs (maxSteps := 1000000) (disch := omega) [go_sem, t0_19e, t3_19e, ob0_17] <;> omega), by first | with_reducible rfl | with_reducible assumption | (simp -implicitDefEqProofs (maxSteps := 1000000) (disch := omega) [go_sem, t0_19e, t3_19e, ob0_17] <;> omega)⟩
      ·refine IWp_block ?_
       refine IWp_loopF (fun (s : Int) tm' H' => H17 = H' ∧ tm' 0 = .sl 2 (a0.map fun x => [.v (str x.fName), .sl 1 (x.fValues.map fun x => [.v (str x)])]) ∧ tm' 3 = .v (.int .i64 v9) ∧ tm' 4 = .p H8.next 0 ∧ tm' 5 = .v (.int .i64 s)) hl19q ?_ ?_
       ·refine .same ⟨rfl, ?_, ?_, ?_, ?_⟩ <;> first | with_reducible rfl | with_reducible assumption | (simp -implicitDefEqProofs (maxSteps := 1000000) (disch := omega) [go_sem, t0_17, t3_17, t4_17, ob0_17] <;> omega)
       ·rintro I19 hI19 v20 x19 tm19 H19 ⟨rfl, t0_19, t3_19, t4_19, t5_19⟩ h hret19
        replace h : F18_b19 a0 v9 v20 = some x19 := h
        unfold F18_b19 at h
        refine IWp_seqF fun cb hc21 => ?_
        refine IWp_seqF fun cb hc22 => ?_
        refine vcK ?_
        try simp -implicitDefEqProofs (maxSteps := 1000000) (disch := omega) [go_sem, t0_19, t3_19, t4_19, t5_19, ob0_17]
        subst hc22
        refine IWp_cond_i h (by first | with_reducible rfl | (simp -implicitDefEqProofs (maxSteps := 1000000) (disch := omega) [go_sem, t0_19, t3_19, t4_19, t5_19, ob0_17] <;> omega)) rfl ?_ ?_
        ·intro c23 h
         try simp -implicitDefEqProofs (disch := omega) at c23
         refine vcK ?_
         simp -implicitDefEqProofs only [go_sem]
         subst hc21
         refine IWp_seqF fun cb hc24 => ?_
         refine IWp_block ?_
         refine IWp_seqF fun cb hc25 => ?_
         refine IWp_drawP [] [0, 1, 2, 3, 4, 5, 6, 7, 8, 9, 10, 11] (by kernel_rfl) (by kernel_rfl) (fun _ _ _ _ h => h) ?_
         obtain ⟨g26, h⟩ := gd_some.1 h
         try simp -implicitDefEqProofs (disch := omega) at g26
         obtain ⟨g27, h⟩ := gd_some.1 h
         try simp -implicitDefEqProofs (disch := omega) at g27
         try simp -implicitDefEqProofs (maxSteps := 1000000) (disch := omega) [go_sem, t0_19, t3_19, t4_19, t5_19, ob0_17]
         subst hc25
         refine IWp_cond_i h (by first | with_reducible rfl | (simp -implicitDefEqProofs (maxSteps := 1000000) (disch := omega) [go_sem, t0_19, t3_19, t4_19, t5_19, ob0_17] <;> omega)) rfl ?_ ?_
         ·intro c28 h
          try simp -implicitDefEqProofs (disch := omega) at c28
          refine IWp_seqF fun cb hc29 => ?_
          refine vcK ?_
          try simp -implicitDefEqProofs (maxSteps := 1000000) (disch := omega) [go_sem, t0_19, t3_19, t4_19, t5_19, ob0_17]
          subst hc29
          refine vcK ?_
          simp -implicitDefEqProofs only [go_sem]
          have e19 := Option.some.inj h
          subst e19
          have e19 := hret19 _ rfl
          subst e19
          replace h : some (.inr (.inr false)) = some x8 := hk19
          have e8 := Option.some.inj h
          subst e8
          have e8 := hret8 _ rfl
          subst e8
          replace h : some false = some r := hk8
          have er := Option.some.inj h
          subst er
          try simp -implicitDefEqProofs (maxSteps := 1000000) (disch := omega) [go_sem, t0_19, t3_19, t4_19, t5_19, ob0_17]
          refine retG_pureA he17 hK (e := by first | with_reducible rfl | (simp -implicitDefEqProofs (maxSteps := 1000000) (disch := omega) [go_sem, t0_19, t3_19, t4_19, t5_19, ob0_17] <;> omega))
         ·intro c28 h
          try simp -implicitDefEqProofs (disch := omega) at c28
          refine vcK ?_
          simp -implicitDefEqProofs only [go_sem]
          subst hc24
          refine vcK ?_
          try simp -implicitDefEqProofs (maxSteps := 1000000) (disch := omega) [go_sem, t0_19, t3_19, t4_19, t5_19, ob0_17]
          have e19 := Option.some.inj h
          subst e19
          refine loopN_mk hI19 (IntKind.i64.wrap (v20 + 1)) ?_
          refine .same ⟨rfl, ?_, ?_, ?_, ?_⟩ <;> first | with_reducible rfl | with_reducible assumption | (simp -implicitDefEqProofs (maxSteps := 1000000) (disch := omega) [go_sem, t0_19, t3_19, t4_19, t5_19, ob0_17] <;> omega)
        ·intro c23 h
         try simp -implicitDefEqProofs (disch := omega) at c23
         refine vcK ?_
         simp -implicitDefEqProofs only [go_sem]
         have e19 := Option.some.inj h
         subst e19
         have hy19 := hret19 _ rfl
         refine hc19 _ _ ?_
         refine .same ⟨hy19, rfl, ?_, ?_⟩ <;> first | with_reducible rfl | with_reducible assumption | (simp -implicitDefEqProofs (maxSteps := 1000000) (disch := omega) [go_sem, t0_19, t3_19, t4_19, t5_19, ob0_17] <;> omega)
     ·refine IWp_seqF fun cb hc30 => ?_
      refine IWp_drawP [2, 7, 27] [0, 1, 2, 3, 4, 5, 6, 7, 8, 9, 10, 11, 12, 13, 14, 15, 16, 17, 18, 19, 20, 21, 22, 23, 24, 25, 26, 27, 28, 29, 30, 31, 32, 33, 34, 35, 36, 37, 38, 39, 40, 41, 42, 43, 44] (by kernel_rfl) (by kernel_rfl) (fun _ _ _ _ h => h) ?_
      try simp -implicitDefEqProofs (maxSteps := 1000000) (disch := omega) [go_sem, t0_8, t3_8]
      obtain ⟨x31, hx31, h⟩ := bind_some' h
      refine PureC.mk _ (fun _ _ hK => ICalls.eqA (args' := [.v (str ((a0.getD v9.toNat S50.zero).fName))]) (by first | with_reducible rfl | (simp -implicitDefEqProofs (maxSteps := 1000000) (disch := omega) [go_sem, t0_8, t3_8] <;> omega)) (F49_ok ((a0.getD v9.toNat S50.zero).fName) hx31 hK)) ?_
      try simp -implicitDefEqProofs (maxSteps := 1000000) (disch := omega) [go_sem, t0_8, t3_8]
      refine splitG_f h (by first | with_reducible rfl | (simp -implicitDefEqProofs (maxSteps := 1000000) (disch := omega) [go_sem, t0_8, t3_8] <;> omega)) ?_ ?_
      ·intro c47 h
       try simp -implicitDefEqProofs (disch := omega) at c47
       try simp -implicitDefEqProofs (maxSteps := 1000000) (disch := omega) [go_sem, t0_8, t3_8]
       subst hc30
       refine IWp_cond_t (by first | with_reducible rfl | (simp -implicitDefEqProofs (maxSteps := 1000000) (disch := omega) [go_sem, t0_8, t3_8] <;> omega)) rfl ?_
       refine IWp_seqF fun cb hc32 => ?_
       refine vcK ?_
       try simp -implicitDefEqProofs (maxSteps := 1000000) (disch := omega) [go_sem, t0_8, t3_8]
       subst hc32
       refine vcK ?_
       simp -implicitDefEqProofs only [go_sem]
       have e8 := Option.some.inj h
       subst e8
       have e8 := hret8 _ rfl
       subst e8
       replace h : some false = some r := hk8
       have er := Option.some.inj h
       subst er
       try simp -implicitDefEqProofs (maxSteps := 1000000) (disch := omega) [go_sem, t0_8, t3_8]
       refine retG_pureA he8 hK (e := by first | with_reducible rfl | (simp -implicitDefEqProofs (maxSteps := 1000000) (disch := omega) [go_sem, t0_8, t3_8] <;> omega))
      ·intro c47 h
       try simp -implicitDefEqProofs (disch := omega) at c47
       try simp -implicitDefEqProofs (maxSteps := 1000000) (disch := omega) [go_sem, t0_8, t3_8]
       obtain ⟨x33, hx33, h⟩ := bind_some' h
       refine PureC.mk _ (fun _ _ hK => ICalls.eqA (args' := [.v (str ((a0.getD v9.toNat S50.zero).fName))]) (by first | with_reducible rfl | (simp -implicitDefEqProofs (maxSteps := 1000000) (disch := omega) [go_sem, t0_8, t3_8] <;> omega)) (F50_ok ((a0.getD v9.toNat S50.zero).fName) hx33 hK)) ?_
       try simp -implicitDefEqProofs (maxSteps := 1000000) (disch := omega) [go_sem, t0_8, t3_8]
       refine splitG_f h (by first | with_reducible rfl | (simp -implicitDefEqProofs (maxSteps := 1000000) (disch := omega) [go_sem, t0_8, t3_8] <;> omega)) ?_ ?_
       ·intro c46 h
        try simp -implicitDefEqProofs (disch := omega) at c46
        try simp -implicitDefEqProofs (maxSteps := 1000000) (disch := omega) [go_sem, t0_8, t3_8]
        subst hc30
        refine IWp_cond_t (by first | with_reducible rfl | (simp -implicitDefEqProofs (maxSteps := 1000000) (disch := omega) [go_sem, t0_8, t3_8] <;> omega)) rfl ?_
        refine IWp_seqF fun cb hc34 => ?_
        refine vcK ?_
        try simp -implicitDefEqProofs (maxSteps := 1000000) (disch := omega) [go_sem, t0_8, t3_8]
        subst hc34
        refine vcK ?_
        simp -implicitDefEqProofs only [go_sem]
        have e8 := Option.some.inj h
        subst e8
        have e8 := hret8 _ rfl
        subst e8
        replace h : some false = some r := hk8
        have er := Option.some.inj h
        subst er
        try simp -implicitDefEqProofs (maxSteps := 1000000) (disch := omega) [go_sem, t0_8, t3_8]
        refine retG_pureA he8 hK (e := by first | with_reducible rfl | (simp -implicitDefEqProofs (maxSteps := 1000000) (disch := omega) [go_sem, t0_8, t3_8] <;> omega))
       ·intro c46 h
        try simp -implicitDefEqProofs (disch := omega) at c46
        try simp -implicitDefEqProofs (maxSteps := 1000000) (disch := omega) [go_sem, t0_8, t3_8]
        refine splitG_f h (by first | with_reducible rfl | (simp -implicitDefEqProofs (maxSteps := 1000000) (disch := omega) [go_sem, t0_8, t3_8] <;> omega)) ?_ ?_
        ·intro c45 h
         try simp -implicitDefEqProofs (disch := omega) at c45
         try simp -implicitDefEqProofs (maxSteps := 1000000) (disch := omega) [go_sem, t0_8, t3_8]
         subst hc30
         refine IWp_cond_t (by first | with_reducible rfl | (simp -implicitDefEqProofs (maxSteps := 1000000) (disch := omega) [go_sem, t0_8, t3_8] <;> omega)) rfl ?_
         refine IWp_seqF fun cb hc35 => ?_
         refine vcK ?_
         try simp -implicitDefEqProofs (maxSteps := 1000000) (disch := omega) [go_sem, t0_8, t3_8]
         subst hc35
         refine vcK ?_
         simp -implicitDefEqProofs only [go_sem]
         have e8 := Option.some.inj h
         subst e8
         have e8 := hret8 _ rfl
         subst e8
         replace h : some false = some r := hk8
         have er := Option.some.inj h
         subst er
         try simp -implicitDefEqProofs (maxSteps := 1000000) (disch := omega) [go_sem, t0_8, t3_8]
         refine retG_pureA he8 hK (e := by first | with_reducible rfl | (simp -implicitDefEqProofs (maxSteps := 1000000) (disch := omega) [go_sem, t0_8, t3_8] <;> omega))
        ·intro c45 h
         try simp -implicitDefEqProofs (disch := omega) at c45
         try simp -implicitDefEqProofs (maxSteps := 1000000) (disch := omega) [go_sem, t0_8, t3_8]
         refine splitG_f h (by first | with_reducible rfl | (simp -implicitDefEqProofs (maxSteps := 1000000) (disch := omega) [go_sem, t0_8, t3_8] <;> omega)) ?_ ?_
         ·intro c44 h
          try simp -implicitDefEqProofs (disch := omega) at c44
          try simp -implicitDefEqProofs (maxSteps := 1000000) (disch := omega) [go_sem, t0_8, t3_8]
          subst hc30
          refine IWp_cond_t (by first | with_reducible rfl | (simp -implicitDefEqProofs (maxSteps := 1000000) (disch := omega) [go_sem, t0_8, t3_8] <;> omega)) rfl ?_
          refine IWp_seqF fun cb hc36 => ?_
          refine vcK ?_
          try simp -implicitDefEqProofs (maxSteps := 1000000) (disch := omega) [go_sem, t0_8, t3_8]
          subst hc36
          refine vcK ?_
          simp -implicitDefEqProofs only [go_sem]
          have e8 := Option.some.inj h
          subst e8
          have e8 := hret8 _ rfl
          subst e8
          replace h : some false = some r := hk8
          have er := Option.some.inj h
          subst er
          try simp -implicitDefEqProofs (maxSteps := 1000000) (disch := omega) [go_sem, t0_8, t3_8]
          refine retG_pureA he8 hK (e := by first | with_reducible rfl | (simp -implicitDefEqProofs (maxSteps := 1000000) (disch := omega) [go_sem, t0_8, t3_8] <;> omega))
         ·intro c44 h
          try simp -implicitDefEqProofs (disch := omega) at c44
          try simp -implicitDefEqProofs (maxSteps := 1000000) (disch := omega) [go_sem, t0_8, t3_8]
          obtain ⟨x37, hx37, h⟩ := bind_some' h
          refine PureC.mk _ (fun _ _ hK => ICalls.eqA (args' := [.sl 1 (((a0.getD v9.toNat S50.zero).fValues).map fun x => [.v (str x)])]) (by first | with_reducible rfl | (simp -implicitDefEqProofs (maxSteps := 1000000) (disch := omega) [go_sem, t0_8, t3_8] <;> omega)) (F51_ok ((a0.getD v9.toNat S50.zero).fValues) hx37 hK)) ?_
          try simp -implicitDefEqProofs (maxSteps := 1000000) (disch := omega) [go_sem, t0_8, t3_8]
          refine splitG_f h (by first | with_reducible rfl | (simp -implicitDefEqProofs (maxSteps := 1000000) (disch := omega) [go_sem, t0_8, t3_8] <;> omega)) ?_ ?_
          ·intro c43 h
           try simp -implicitDefEqProofs (disch := omega) at c43
           try simp -implicitDefEqProofs (maxSteps := 1000000) (disch := omega) [go_sem, t0_8, t3_8]
           subst hc30
           refine IWp_cond_t (by first | with_reducible rfl | (simp -implicitDefEqProofs (maxSteps := 1000000) (disch := omega) [go_sem, t0_8, t3_8] <;> omega)) rfl ?_
           refine IWp_seqF fun cb hc38 => ?_
           refine vcK ?_
           try simp -implicitDefEqProofs (maxSteps := 1000000) (disch := omega) [go_sem, t0_8, t3_8]
           subst hc38
           refine vcK ?_
           simp -implicitDefEqProofs only [go_sem]
           have e8 := Option.some.inj h
           subst e8
           have e8 := hret8 _ rfl
           subst e8
           replace h : some false = some r := hk8
           have er := Option.some.inj h
           subst er
           try simp -implicitDefEqProofs (maxSteps := 1000000) (disch := omega) [go_sem, t0_8, t3_8]
           refine retG_pureA he8 hK (e := by first | with_reducible rfl | (simp -implicitDefEqProofs (maxSteps := 1000000) (disch := omega) [go_sem, t0_8, t3_8] <;> omega))
          ·intro c43 h
           try simp -implicitDefEqProofs (disch := omega) at c43
           try simp -implicitDefEqProofs (maxSteps := 1000000) (disch := omega) [go_sem, t0_8, t3_8]
           refine splitG_f h (by first | with_reducible rfl | (simp -implicitDefEqProofs (maxSteps := 1000000) (disch := omega) [go_sem, t0_8, t3_8] <;> omega)) ?_ ?_
           ·intro c42 h
            try simp -implicitDefEqProofs (disch := omega) at c42
            obtain ⟨g39, h⟩ := gd_some.1 h
            try simp -implicitDefEqProofs (disch := omega) at g39
            try simp -implicitDefEqProofs (maxSteps := 1000000) (disch := omega) [go_sem, t0_8, t3_8]
            subst hc30
            refine IWp_cond_i h (by first | with_reducible rfl | (simp -implicitDefEqProofs (maxSteps := 1000000) (disch := omega) [go_sem, t0_8, t3_8] <;> omega)) rfl ?_ ?_
            ·intro c40 h
             try simp -implicitDefEqProofs (disch := omega) at c40
             refine IWp_seqF fun cb hc41 => ?_
             refine vcK ?_
             try simp -implicitDefEqProofs (maxSteps := 1000000) (disch := omega) [go_sem, t0_8, t3_8]
             subst hc41
             refine vcK ?_
             simp -implicitDefEqProofs only [go_sem]
             have e8 := Option.some.inj h
             subst e8
             have e8 := hret8 _ rfl
             subst e8
             replace h : some false = some r := hk8
             have er := Option.some.inj h
             subst er
             try simp -implicitDefEqProofs (maxSteps := 1000000) (disch := omega) [go_sem, t0_8, t3_8]
             refine retG_pureA he8 hK (e := by first | with_reducible rfl | (simp -implicitDefEqProofs (maxSteps := 1000000) (disch := omega) [go_sem, t0_8, t3_8] <;> omega))
            ·intro c40 h
             try simp -implicitDefEqProofs (disch := omega) at c40
             refine vcK ?_
             simp -implicitDefEqProofs only [go_sem]
             refine hc17 _ _ ?_
             refine .same ⟨by repeat (first | exact he8 | refine Ext.new ?_ _ | refine Ext.set ?_ (by first | omega | (simp [go_sem]; done) | (simp [go_sem]; omega)) _ | refine Ext.del ?_ (by first | omega | (simp [go_sem]; done) | (simp [go_sem]; omega))), by first | with_reducible rfl | with_reducible assumption | omega | (simp -implicitDefEqProofs (maxSteps := 1000000) (disch := omega) [go_sem, t0_8, t3_8] <;> omega), by first | with_reducible rfl | with_reducible assumption | (simp -implicitDefEqProofs (maxSteps := 1000000) (disch := omega) [go_sem, t0_8, t3_8] <;> omega), by first | with_reducible rfl | with_reducible assumption | (simp -implicitDefEqProofs (maxSteps := 1000000) (disch := omega) [go_sem, t0_8, t3_8] <;> omega), by first | with_reducible rfl | with_reducible assumption | (simp -implicitDefEqProofs (maxSteps := 1000000) (disch := omega) [go_sem, t0_8, t3_8] <;> omega), by first | with_reducible rfl | with_reducible assumption | (simp -implicitDefEqProofs (maxSteps := 1000000) (disch := omega) [go_sem, t0_8, t3_8] <;> omega), h⟩
           ·intro c42 h
            try simp -implicitDefEqProofs (disch := omega) at c42
            try simp -implicitDefEqProofs (maxSteps := 1000000) (disch := omega) [go_sem, t0_8, t3_8]
            subst hc30
            refine IWp_cond_f (by first | with_reducible rfl | (simp -implicitDefEqProofs (maxSteps := 1000000) (disch := omega) [go_sem, t0_8, t3_8] <;> omega)) rfl ?_
            refine vcK ?_
            simp -implicitDefEqProofs only [go_sem]
            refine hc17 _ _ ?_
            refine .same ⟨by repeat (first | exact he8 | refine Ext.new ?_ _ | refine Ext.set ?_ (by first | omega | (simp [go_sem]; done) | (simp [go_sem]; omega)) _ | refine Ext.del ?_ (by first | omega | (simp [go_sem]; done) | (simp [go_sem]; omega))), by first | with_reducible rfl | with_reducible assumption | omega | (simp -implicitDefEqProofs (maxSteps := 1000000) (disch := omega) [go_sem, t0_8, t3_8] <;> omega), by first | with_reducible rfl | with_reducible assumption | (simp -implicitDefEqProofs (maxSteps := 1000000) (disch := omega) [go_sem, t0_8, t3_8] <;> omega), by first | with_reducible rfl | with_reducible assumption | (simp -implicitDefEqProofs (maxSteps := 1000000) (disch := omega) [go_sem, t0_8, t3_8] <;> omega), by first | with_reducible rfl | with_reducible assumption | (simp -implicitDefEqProofs (maxSteps := 1000000) (disch := omega) [go_sem, t0_8, t3_8] <;> omega), by first | with_reducible rfl | with_reducible assumption | (simp -implicitDefEqProofs (maxSteps := 1000000) (disch := omega) [go_sem, t0_8, t3_8] <;> omega), h⟩
    ·intro c13 h
     try simp -implicitDefEqProofs (disch := omega) at c13
     refine vcK ?_
     simp -implicitDefEqProofs only [go_sem]
     have e8 := Option.some.inj h
     subst e8
     have hy8 := hret8 _ rfl
     refine hc8 _ _ ?_
     refine .same ⟨hy8, by repeat (first | exact he8 | refine Ext.new ?_ _ | refine Ext.set ?_ (by first | omega | (simp [go_sem]; done) | (simp [go_sem]; omega)) _ | refine Ext.del ?_ (by first | omega | (simp [go_sem]; done) | (simp [go_sem]; omega))), by first | with_reducible rfl | with_reducible assumption | omega | (simp -implicitDefEqProofs (maxSteps := 1000000) (disch := omega) [go_sem, t0_8, t3_8] <;> omega)⟩

/-! cardcase/cardcaseref07.May -/

noncomputable def F43 (a0 : S48) : Option Bool :=
 if 1 ≤ a0.fKind then (if a0.fKind ≤ 3 then ((F49 a0.fName).bind fun (x4 : Bool) => if x4 = true then (if (a0.fValues.length : Int) ≤ 16 then ((F51 a0.fValues).bind fun (x5 : Bool) => if x5 = true then (if ¬ a0.fKind = 1 then (some true) else (some (decide (0 < (a0.fValues.length : Int))))) else (some false)) else (some false)) else (some false)) else (some false)) else (some false)

set_option maxHeartbeats 8000000 in
set_option pp.deepTerms false in
set_option maxRecDepth 60000 in
theorem F43_ok {H : IHeap} {K : IEnd → IHeap → Prop} (a0 : S48) {r : Bool} (h : F43 a0 = some r) (hK : K (.ret (.v (.bool r))) H) : ICalls prog 43 [.ag ([.v (.int .i64 a0.fKind), .v (str a0.fName), .sl 1 (a0.fValues.map fun x => [.v (str x)])])] H K := by
 refine ICalls_iwp (N := 38) func43 (by kernel_rfl) rfl (by kernel_rfl) (by kernel_rfl) fun cb hcb hw hbd hnb => ?_
 clear hbd hnb
 subst hcb
 unfold F43 at h
 refine IWp_seqF fun cb hc1 => ?_
 refine vcK ?_
 try simp -implicitDefEqProofs (maxSteps := 1000000) (disch := omega) [go_sem]
 subst hc1
 refine IWp_seqF fun cb hc2 => ?_
 refine vcK ?_
 try simp -implicitDefEqProofs (maxSteps := 1000000) (disch := omega) [go_sem]
 subst hc2
 refine IWp_seqF fun cb hc3 => ?_
 refine vcK ?_
 try simp -implicitDefEqProofs (maxSteps := 1000000) (disch := omega) [go_sem]
 refine splitG_f h (by first | with_reducible rfl | (simp -implicitDefEqProofs (maxSteps := 1000000) (disch := omega) [go_sem] <;> omega)) ?_ ?_
 ·intro c11 h
  try simp -implicitDefEqProofs (disch := omega) at c11
  try simp -implicitDefEqProofs (maxSteps := 1000000) (disch := omega) [go_sem]
  refine splitG_f h (by first | with_reducible rfl | (simp -implicitDefEqProofs (maxSteps := 1000000) (disch := omega) [go_sem] <;> omega)) ?_ ?_
  ·intro c10 h
   try simp -implicitDefEqProofs (disch := omega) at c10
   try simp -implicitDefEqProofs (maxSteps := 1000000) (disch := omega) [go_sem]
   obtain ⟨x4, hx4, h⟩ := bind_some' h
   refine ICalls.eqA (args' := [.v (str a0.fName)]) (by first | with_reducible rfl | (simp -implicitDefEqProofs (maxSteps := 1000000) (disch := omega) [go_sem] <;> omega)) (F49_ok a0.fName hx4 ?_)
   try simp -implicitDefEqProofs (maxSteps := 1000000) (disch := omega) [go_sem]
   refine splitG_f h (by first | with_reducible rfl | (simp -implicitDefEqProofs (maxSteps := 1000000) (disch := omega) [go_sem] <;> omega)) ?_ ?_
   ·intro c9 h
    try simp -implicitDefEqProofs (disch := omega) at c9
    try simp -implicitDefEqProofs (maxSteps := 1000000) (disch := omega) [go_sem]
    refine splitG_f h (by first | with_reducible rfl | (simp -implicitDefEqProofs (maxSteps := 1000000) (disch := omega) [go_sem] <;> omega)) ?_ ?_
    ·intro c8 h
     try simp -implicitDefEqProofs (disch := omega) at c8
     try simp -implicitDefEqProofs (maxSteps := 1000000) (disch := omega) [go_sem]
     obtain ⟨x5, hx5, h⟩ := bind_some' h
     refine ICalls.eqA (args' := [.sl 1 (a0.fValues.map fun x => [.v (str x)])]) (by first | with_reducible rfl | (simp -implicitDefEqProofs (maxSteps := 1000000) (disch := omega) [go_sem] <;> omega)) (F51_ok a0.fValues hx5 ?_)
     try simp -implicitDefEqProofs (maxSteps := 1000000) (disch := omega) [go_sem]
     refine splitG_f h (by first | with_reducible rfl | (simp -implicitDefEqProofs (maxSteps := 1000000) (disch := omega) [go_sem] <;> omega)) ?_ ?_
     ·intro c7 h
      try simp -implicitDefEqProofs (disch := omega) at c7
      try simp -implicitDefEqProofs (maxSteps := 1000000) (disch := omega) [go_sem]
      refine splitG_f h (by first | with_reducible rfl | (simp -implicitDefEqProofs (maxSteps := 1000000) (disch := omega) [go_sem] <;> omega)) ?_ ?_
      ·intro c6 h
       try simp -implicitDefEqProofs (disch := omega) at c6
       try simp -implicitDefEqProofs (maxSteps := 1000000) (disch := omega) [go_sem]
       subst hc3
       refine vcK ?_
       simp -implicitDefEqProofs only [go_sem]
       have er := Option.some.inj h
       subst er
       try simp -implicitDefEqProofs (maxSteps := 1000000) (disch := omega) [go_sem]
       refine retG_pureA (Ext.refl hw) hK (e := by first | with_reducible rfl | (simp -implicitDefEqProofs (maxSteps := 1000000) (disch := omega) [go_sem] <;> omega))
      ·intro c6 h
       try simp -implicitDefEqProofs (disch := omega) at c6
       try simp -implicitDefEqProofs (maxSteps := 1000000) (disch := omega) [go_sem]
       subst hc3
       refine vcK ?_
       simp -implicitDefEqProofs only [go_sem]
       have er := Option.some.inj h
       subst er
       try simp -implicitDefEqProofs (maxSteps := 1000000) (disch := omega) [go_sem]
       refine retG_pureA (Ext.refl hw) hK (e := by first | with_reducible rfl | (simp -implicitDefEqProofs (maxSteps := 1000000) (disch := omega) [go_sem] <;> omega))
     ·intro c7 h
      try simp -implicitDefEqProofs (disch := omega) at c7
      try simp -implicitDefEqProofs (maxSteps := 1000000) (disch := omega) [go_sem]
      subst hc3
      refine vcK ?_
      simp -implicitDefEqProofs only [go_sem]
      have er := Option.some.inj h
      subst er
      try simp -implicitDefEqProofs (maxSteps := 1000000) (disch := omega) [go_sem]
      refine retG_pureA (Ext.refl hw) hK (e := by first | with_reducible rfl | (simp -implicitDefEqProofs (maxSteps := 1000000) (disch := omega) [go_sem] <;> omega))
    ·intro c8 h
     try simp -implicitDefEqProofs (disch := omega) at c8
     try simp -implicitDefEqProofs (maxSteps := 1000000) (disch := omega) [go_sem]
     subst hc3
     refine vcK ?_
     simp -implicitDefEqProofs only [go_sem]
     have er := Option.some.inj h
     subst er
     try simp -implicitDefEqProofs (maxSteps := 1000000) (disch := omega) [go_sem]
     refine retG_pureA (Ext.refl hw) hK (e := by first | with_reducible rfl | (simp -implicitDefEqProofs (maxSteps := 1000000) (disch := omega) [go_sem] <;> omega))
   ·intro c9 h
    try simp -implicitDefEqProofs (disch := omega) at c9
    try simp -implicitDefEqProofs (maxSteps := 1000000) (disch := omega) [go_sem]
    subst hc3
    refine vcK ?_
    simp -implicitDefEqProofs only [go_sem]
    have er := Option.some.inj h
    subst er
    try simp -implicitDefEqProofs (maxSteps := 1000000) (disch := omega) [go_sem]
    refine retG_pureA (Ext.refl hw) hK (e := by first | with_reducible rfl | (simp -implicitDefEqProofs (maxSteps := 1000000) (disch := omega) [go_sem] <;> omega))
  ·intro c10 h
   try simp -implicitDefEqProofs (disch := omega) at c10
   try simp -implicitDefEqProofs (maxSteps := 1000000) (disch := omega) [go_sem]
   subst hc3
   refine vcK ?_
   simp -implicitDefEqProofs only [go_sem]
   have er := Option.some.inj h
   subst er
   try simp -implicitDefEqProofs (maxSteps := 1000000) (disch := omega) [go_sem]
   refine retG_pureA (Ext.refl hw) hK (e := by first | with_reducible rfl | (simp -implicitDefEqProofs (maxSteps := 1000000) (disch := omega) [go_sem] <;> omega))
 ·intro c11 h
  try simp -implicitDefEqProofs (disch := omega) at c11
  try simp -implicitDefEqProofs (maxSteps := 1000000) (disch := omega) [go_sem]
  subst hc3
  refine vcK ?_
  simp -implicitDefEqProofs only [go_sem]
  have er := Option.some.inj h
  subst er
  try simp -implicitDefEqProofs (maxSteps := 1000000) (disch := omega) [go_sem]
  refine retG_pureA (Ext.refl hw) hK (e := by first | with_reducible rfl | (simp -implicitDefEqProofs (maxSteps := 1000000) (disch := omega) [go_sem] <;> omega))

/-! cardcase/cardcaseref07.Get -/

noncomputable def F23_k4  : Option ((List (List UInt8))) :=
 some []

noncomputable def F23_b4 (a0 : List S50) (a1 : List UInt8) (v5 : Int) : Option (Int ⊕ (Unit ⊕ ((List (List UInt8))))) :=
 if v5 < (a0.length : Int) then (gd (0 ≤ v5 ∧ v5 < a0.length) ((F50 a1).bind fun (x13 : (List UInt8)) => if ((a0.getD v5.toNat S50.zero).fName) = x13 then (some (.inr (.inr ((a0.getD v5.toNat S50.zero).fValues)))) else (some (.inl (IntKind.i64.wrap (v5 + 1)))))) else (some (.inr (.inl ())))

noncomputable def F23 (a0 : List S50) (a1 : List UInt8) : Option ((List (List UInt8))) :=
 (loopO (fun (s : Int) => F23_b4 a0 a1 s) 0).bind fun y => Sum.elim (fun (e : Unit) => F23_k4) (fun (q : (List (List UInt8))) => some q) y

set_option maxHeartbeats 8000000 in
set_option pp.deepTerms false in
set_option maxRecDepth 60000 in
theorem F23_ok {H : IHeap} {K : IEnd → IHeap → Prop} (a0 : List S50) (a1 : List UInt8) {r : (List (List UInt8))} (h : F23 a0 a1 = some r) (hK : K (.ret (.sl 1 (r.map fun x => [.v (str x)]))) H) : ICalls prog 23 [.sl 2 (a0.map fun x => [.v (str x.fName), .sl 1 (x.fValues.map fun x => [.v (str x)])]), .v (str a1)] H K := by
 refine ICalls_iwp (N := 25) func23 (by kernel_rfl) rfl (by kernel_rfl) (by kernel_rfl) fun cb hcb hw hbd hnb => ?_
 clear hbd hnb
 subst hcb
 unfold F23 at h
 refine IWp_seqF fun cb hc1 => ?_
 refine vcK ?_
 try simp -implicitDefEqProofs (maxSteps := 1000000) (disch := omega) [go_sem]
 subst hc1
 refine IWp_seqF fun cb hc2 => ?_
 refine IWp_seqF fun cb hc3 => ?_
 refine vcK ?_
 try simp -implicitDefEqProofs (maxSteps := 1000000) (disch := omega) [go_sem]
 subst hc3
 obtain ⟨y4, hl4q, hk4⟩ := bind_some' h
 refine IWp_tailC (fun tm' H' => .inl () = y4 ∧ H = H') ?_ fun cb hc4 => ?_
 ·rintro tm4e H4e ⟨rfl, rfl⟩
  have h : F23_k4 = some r := hk4
  unfold F23_k4 at h
  simp -implicitDefEqProofs only [go_sem]
  subst hc2
  refine IWp_seqF fun cb hc6 => ?_
  refine vcK ?_
  try simp -implicitDefEqProofs (maxSteps := 1000000) (disch := omega) [go_sem]
  subst hc6
  refine IWp.gh (Gh.slotN 4 1 (by simp -implicitDefEqProofs (maxSteps := 1000000) (disch := omega) [go_sem])) ?_
  refine vcK ?_
  simp -implicitDefEqProofs only [go_sem]
  have er := Option.some.inj h
  subst er
  try simp -implicitDefEqProofs (maxSteps := 1000000) (disch := omega) [go_sem]
  refine retG_pureA (Ext.refl hw) hK (e := by first | with_reducible rfl | (simp -implicitDefEqProofs (maxSteps := 1000000) (disch := omega) [go_sem] <;> omega))
 ·refine IWp_block ?_
  refine IWp_loopF (fun (s : Int) tm' H' => H = H' ∧ tm' 0 = .sl 2 (a0.map fun x => [.v (str x.fName), .sl 1 (x.fValues.map fun x => [.v (str x)])]) ∧ tm' 1 = .v (str a1) ∧ tm' 5 = .v (.int .i64 s)) hl4q ?_ ?_
  ·refine .same ⟨rfl, ?_, ?_, ?_⟩ <;> first | with_reducible rfl | with_reducible assumption | (simp -implicitDefEqProofs (maxSteps := 1000000) (disch := omega) [go_sem] <;> omega)
  ·rintro I4 hI4 v5 x4 tm4 H4 ⟨rfl, t0_4, t1_4, t5_4⟩ h hret4
   replace h : F23_b4 a0 a1 v5 = some x4 := h
   unfold F23_b4 at h
   refine IWp_seqF fun cb hc7 => ?_
   refine IWp_seqF fun cb hc8 => ?_
   refine vcK ?_
   try simp -implicitDefEqProofs (maxSteps := 1000000) (disch := omega) [go_sem, t0_4, t1_4, t5_4]
   subst hc8
   refine IWp_cond_i h (by first | with_reducible rfl | (simp -implicitDefEqProofs (maxSteps := 1000000) (disch := omega) [go_sem, t0_4, t1_4, t5_4] <;> omega)) rfl ?_ ?_
   ·intro c9 h
    try simp -implicitDefEqProofs (disch := omega) at c9
    refine vcK ?_
    simp -implicitDefEqProofs only [go_sem]
    subst hc7
    refine IWp_seqF fun cb hc10 => ?_
    refine IWp_block ?_
    refine IWp_seqF fun cb hc11 => ?_
    refine IWp_drawP [6] [0, 1, 2, 3, 4, 5, 6, 7] (by kernel_rfl) (by kernel_rfl) (fun _ _ _ _ h => h) ?_
    obtain ⟨g12, h⟩ := gd_some.1 h
    try simp -implicitDefEqProofs (disch := omega) at g12
    try simp -implicitDefEqProofs (maxSteps := 1000000) (disch := omega) [go_sem, t0_4, t1_4, t5_4]
    obtain ⟨x13, hx13, h⟩ := bind_some' h
    refine PureC.mk _ (fun _ _ hK => ICalls.eqA (args' := [.v (str a1)]) (by first | with_reducible rfl | (simp -implicitDefEqProofs (maxSteps := 1000000) (disch := omega) [go_sem, t0_4, t1_4, t5_4] <;> omega)) (F50_ok a1 hx13 hK)) ?_
    try simp -implicitDefEqProofs (maxSteps := 1000000) (disch := omega) [go_sem, t0_4, t1_4, t5_4]
    subst hc11
    refine IWp_cond_i h (by first | with_reducible rfl | (simp -implicitDefEqProofs (maxSteps := 1000000) (disch := omega) [go_sem, t0_4, t1_4, t5_4] <;> omega)) rfl ?_ ?_
    ·intro c14 h
     try simp -implicitDefEqProofs (disch := omega) at c14
     refine IWp_seqF fun cb hc15 => ?_
     refine vcK ?_
     try simp -implicitDefEqProofs (maxSteps := 1000000) (disch := omega) [go_sem, t0_4, t1_4, t5_4]
     subst hc15
     refine vcK ?_
     simp -implicitDefEqProofs only [go_sem]
     have e4 := Option.some.inj h
     subst e4
     have e4 := hret4 _ rfl
     subst e4
     replace h : some ((a0.getD v5.toNat S50.zero).fValues) = some r := hk4
     have er := Option.some.inj h
     subst er
     try simp -implicitDefEqProofs (maxSteps := 1000000) (disch := omega) [go_sem, t0_4, t1_4, t5_4]
     refine retG_pureA (Ext.refl hw) hK (e := by first | with_reducible rfl | (simp -implicitDefEqProofs (maxSteps := 1000000) (disch := omega) [go_sem, t0_4, t1_4, t5_4] <;> omega))
    ·intro c14 h
     try simp -implicitDefEqProofs (disch := omega) at c14
     refine vcK ?_
     simp -implicitDefEqProofs only [go_sem]
     subst hc10
     refine vcK ?_
     try simp -implicitDefEqProofs (maxSteps := 1000000) (disch := omega) [go_sem, t0_4, t1_4, t5_4]
     have e4 := Option.some.inj h
     subst e4
     refine loopN_mk hI4 (IntKind.i64.wrap (v5 + 1)) ?_
     refine .same ⟨rfl, ?_, ?_, ?_⟩ <;> first | with_reducible rfl | with_reducible assumption | (simp -implicitDefEqProofs (maxSteps := 1000000) (disch := omega) [go_sem, t0_4, t1_4, t5_4] <;> omega)
   ·intro c9 h
    try simp -implicitDefEqProofs (disch := omega) at c9
    refine vcK ?_
    simp -implicitDefEqProofs only [go_sem]
    have e4 := Option.some.inj h
    subst e4
    have hy4 := hret4 _ rfl
    refine hc4 _ _ ?_
    refine .same ⟨hy4, rfl⟩

/-! cardcase/cardcaseref07.among -/

noncomputable def F83_k4  : Option Bool :=
 some false

noncomputable def F83_b4 (a0 : List (List UInt8)) (a1 : List UInt8) (v5 : Int) : Option (Int ⊕ (Unit ⊕ Bool)) :=
 if v5 < (a0.length : Int) then (gd (0 ≤ v5 ∧ v5 < a0.length) (if (a0.getD v5.toNat []) = a1 then (some (.inr (.inr true))) else (some (.inl (IntKind.i64.wrap (v5 + 1)))))) else (some (.inr (.inl ())))

noncomputable def F83 (a0 : List (List UInt8)) (a1 : List UInt8) : Option Bool :=
 (loopO (fun (s : Int) => F83_b4 a0 a1 s) 0).bind fun y => Sum.elim (fun (e : Unit) => F83_k4) (fun (q : Bool) => some q) y

set_option maxHeartbeats 8000000 in
set_option pp.deepTerms false in
set_option maxRecDepth 60000 in
theorem F83_ok {H : IHeap} {K : IEnd → IHeap → Prop} (a0 : List (List UInt8)) (a1 : List UInt8) {r : Bool} (h : F83 a0 a1 = some r) (hK : K (.ret (.v (.bool r))) H) : ICalls prog 83 [.sl 1 (a0.map fun x => [.v (str x)]), .v (str a1)] H K := by
 refine ICalls_iwp (N := 18) func83 (by kernel_rfl) rfl (by kernel_rfl) (by kernel_rfl) fun cb hcb hw hbd hnb => ?_
 clear hbd hnb
 subst hcb
 unfold F83 at h
 refine IWp_seqF fun cb hc1 => ?_
 refine vcK ?_
 try simp -implicitDefEqProofs (maxSteps := 1000000) (disch := omega) [go_sem]
 subst hc1
 refine IWp_seqF fun cb hc2 => ?_
 refine IWp_seqF fun cb hc3 => ?_
 refine vcK ?_
 try simp -implicitDefEqProofs (maxSteps := 1000000) (disch := omega) [go_sem]
 subst hc3
 obtain ⟨y4, hl4q, hk4⟩ := bind_some' h
 refine IWp_tailC (fun tm' H' => .inl () = y4 ∧ H = H') ?_ fun cb hc4 => ?_
 ·rintro tm4e H4e ⟨rfl, rfl⟩
  have h : F83_k4 = some r := hk4
  unfold F83_k4 at h
  simp -implicitDefEqProofs only [go_sem]
  subst hc2
  refine IWp_seqF fun cb hc6 => ?_
  refine vcK ?_
  try simp -implicitDefEqProofs (maxSteps := 1000000) (disch := omega) [go_sem]
  subst hc6
  refine vcK ?_
  simp -implicitDefEqProofs only [go_sem]
  have er := Option.some.inj h
  subst er
  try simp -implicitDefEqProofs (maxSteps := 1000000) (disch := omega) [go_sem]
  refine retG_pureA (Ext.refl hw) hK (e := by first | with_reducible rfl | (simp -implicitDefEqProofs (maxSteps := 1000000) (disch := omega) [go_sem] <;> omega))
 ·refine IWp_block ?_
  refine IWp_loopF (fun (s : Int) tm' H' => H = H' ∧ tm' 0 = .sl 1 (a0.map fun x => [.v (str x)]) ∧ tm' 1 = .v (str a1) ∧ tm' 5 = .v (.int .i64 s)) hl4q ?_ ?_
  ·refine .same ⟨rfl, ?_, ?_, ?_⟩ <;> first | with_reducible rfl | with_reducible assumption | (simp -implicitDefEqProofs (maxSteps := 1000000) (disch := omega) [go_sem] <;> omega)
  ·rintro I4 hI4 v5 x4 tm4 H4 ⟨rfl, t0_4, t1_4, t5_4⟩ h hret4
   replace h : F83_b4 a0 a1 v5 = some x4 := h
   unfold F83_b4 at h
   refine IWp_seqF fun cb hc7 => ?_
   refine IWp_seqF fun cb hc8 => ?_
   refine vcK ?_
   try simp -implicitDefEqProofs (maxSteps := 1000000) (disch := omega) [go_sem, t0_4, t1_4, t5_4]
   subst hc8
   refine IWp_cond_i h (by first | with_reducible rfl | (simp -implicitDefEqProofs (maxSteps := 1000000) (disch := omega) [go_sem, t0_4, t1_4, t5_4] <;> omega)) rfl ?_ ?_
   ·intro c9 h
    try simp -implicitDefEqProofs (disch := omega) at c9
    refine vcK ?_
    simp -implicitDefEqProofs only [go_sem]
    subst hc7
    refine IWp_seqF fun cb hc10 => ?_
    refine IWp_block ?_
    refine IWp_seqF fun cb hc11 => ?_
    refine vcK ?_
    obtain ⟨g12, h⟩ := gd_some.1 h
    try simp -implicitDefEqProofs (disch := omega) at g12
    try simp -implicitDefEqProofs (maxSteps := 1000000) (disch := omega) [go_sem, t0_4, t1_4, t5_4]
    subst hc11
    refine IWp_cond_i h (by first | with_reducible rfl | (simp -implicitDefEqProofs (maxSteps := 1000000) (disch := omega) [go_sem, t0_4, t1_4, t5_4] <;> omega)) rfl ?_ ?_
    ·intro c13 h
     try simp -implicitDefEqProofs (disch := omega) at c13
     refine IWp_seqF fun cb hc14 => ?_
     refine vcK ?_
     try simp -implicitDefEqProofs (maxSteps := 1000000) (disch := omega) [go_sem, t0_4, t1_4, t5_4]
     subst hc14
     refine vcK ?_
     simp -implicitDefEqProofs only [go_sem]
     have e4 := Option.some.inj h
     subst e4
     have e4 := hret4 _ rfl
     subst e4
     replace h : some true = some r := hk4
     have er := Option.some.inj h
     subst er
     try simp -implicitDefEqProofs (maxSteps := 1000000) (disch := omega) [go_sem, t0_4, t1_4, t5_4]
     refine retG_pureA (Ext.refl hw) hK (e := by first | with_reducible rfl | (simp -implicitDefEqProofs (maxSteps := 1000000) (disch := omega) [go_sem, t0_4, t1_4, t5_4] <;> omega))
    ·intro c13 h
     try simp -implicitDefEqProofs (disch := omega) at c13
     refine vcK ?_
     simp -implicitDefEqProofs only [go_sem]
     subst hc10
     refine vcK ?_
     try simp -implicitDefEqProofs (maxSteps := 1000000) (disch := omega) [go_sem, t0_4, t1_4, t5_4]
     have e4 := Option.some.inj h
     subst e4
     refine loopN_mk hI4 (IntKind.i64.wrap (v5 + 1)) ?_
     refine .same ⟨rfl, ?_, ?_, ?_⟩ <;> first | with_reducible rfl | with_reducible assumption | (simp -implicitDefEqProofs (maxSteps := 1000000) (disch := omega) [go_sem, t0_4, t1_4, t5_4] <;> omega)
   ·intro c9 h
    try simp -implicitDefEqProofs (disch := omega) at c9
    refine vcK ?_
    simp -implicitDefEqProofs only [go_sem]
    have e4 := Option.some.inj h
    subst e4
    have hy4 := hret4 _ rfl
    refine hc4 _ _ ?_
    refine .same ⟨hy4, rfl⟩

/-! cardcase/cardcaseref07.twice -/

noncomputable def F82_k4  : Option Bool :=
 some false

noncomputable def F82_b4 (a0 : List (List UInt8)) (v5 : Int) : Option (Int ⊕ (Unit ⊕ Bool)) :=
 if v5 < (a0.length : Int) then (gd (0 ≤ v5) (gd (v5 ≤ a0.length) (gd (0 ≤ v5 ∧ v5 < a0.length) ((F83 (a0.take v5.toNat) (a0.getD v5.toNat [])).bind fun (x15 : Bool) => if x15 = true then (some (.inr (.inr true))) else (some (.inl (IntKind.i64.wrap (v5 + 1)))))))) else (some (.inr (.inl ())))

noncomputable def F82 (a0 : List (List UInt8)) : Option Bool :=
 (loopO (fun (s : Int) => F82_b4 a0 s) 0).bind fun y => Sum.elim (fun (e : Unit) => F82_k4) (fun (q : Bool) => some q) y

set_option maxHeartbeats 8000000 in
set_option pp.deepTerms false in
set_option maxRecDepth 60000 in
theorem F82_ok {H : IHeap} {K : IEnd → IHeap → Prop} (a0 : List (List UInt8)) {r : Bool} (h : F82 a0 = some r) (hK : K (.ret (.v (.bool r))) H) : ICalls prog 82 [.sl 1 (a0.map fun x => [.v (str x)])] H K := by
 refine ICalls_iwp (N := 18) func82 (by kernel_rfl) rfl (by kernel_rfl) (by kernel_rfl) fun cb hcb hw hbd hnb => ?_
 clear hbd hnb
 subst hcb
 unfold F82 at h
 refine IWp_seqF fun cb hc1 => ?_
 refine vcK ?_
 try simp -implicitDefEqProofs (maxSteps := 1000000) (disch := omega) [go_sem]
 subst hc1
 refine IWp_seqF fun cb hc2 => ?_
 refine IWp_seqF fun cb hc3 => ?_
 refine vcK ?_
 try simp -implicitDefEqProofs (maxSteps := 1000000) (disch := omega) [go_sem]
 subst hc3
 obtain ⟨y4, hl4q, hk4⟩ := bind_some' h
 refine IWp_tailC (fun tm' H' => .inl () = y4 ∧ H = H') ?_ fun cb hc4 => ?_
 ·rintro tm4e H4e ⟨rfl, rfl⟩
  have h : F82_k4 = some r := hk4
  unfold F82_k4 at h
  simp -implicitDefEqProofs only [go_sem]
  subst hc2
  refine IWp_seqF fun cb hc6 => ?_
  refine vcK ?_
  try simp -implicitDefEqProofs (maxSteps := 1000000) (disch := omega) [go_sem]
  subst hc6
  refine vcK ?_
  simp -implicitDefEqProofs only [go_sem]
  have er := Option.some.inj h
  subst er
  try simp -implicitDefEqProofs (maxSteps := 1000000) (disch := omega) [go_sem]
  refine retG_pureA (Ext.refl hw) hK (e := by first | with_reducible rfl | (simp -implicitDefEqProofs (maxSteps := 1000000) (disch := omega) [go_sem] <;> omega))
 ·refine IWp_block ?_
  refine IWp_loopF (fun (s : Int) tm' H' => H = H' ∧ tm' 0 = .sl 1 (a0.map fun x => [.v (str x)]) ∧ tm' 3 = .v (.int .i64 s)) hl4q ?_ ?_
  ·refine .same ⟨rfl, ?_, ?_⟩ <;> first | with_reducible rfl | with_reducible assumption | (simp -implicitDefEqProofs (maxSteps := 1000000) (disch := omega) [go_sem] <;> omega)
  ·rintro I4 hI4 v5 x4 tm4 H4 ⟨rfl, t0_4, t3_4⟩ h hret4
   replace h : F82_b4 a0 v5 = some x4 := h
   unfold F82_b4 at h
   refine IWp_seqF fun cb hc7 => ?_
   refine IWp_seqF fun cb hc8 => ?_
   refine vcK ?_
   try simp -implicitDefEqProofs (maxSteps := 1000000) (disch := omega) [go_sem, t0_4, t3_4]
   subst hc8
   refine IWp_cond_i h (by first | with_reducible rfl | (simp -implicitDefEqProofs (maxSteps := 1000000) (disch := omega) [go_sem, t0_4, t3_4] <;> omega)) rfl ?_ ?_
   ·intro c9 h
    try simp -implicitDefEqProofs (disch := omega) at c9
    refine vcK ?_
    simp -implicitDefEqProofs only [go_sem]
    subst hc7
    refine IWp_seqF fun cb hc10 => ?_
    refine IWp_block ?_
    refine IWp_seqF fun cb hc11 => ?_
    refine IWp_drawP [7] [0, 1, 2, 3, 4, 5, 6, 7] (by kernel_rfl) (by kernel_rfl) (fun _ _ _ _ h => h) ?_
    obtain ⟨g12, h⟩ := gd_some.1 h
    try simp -implicitDefEqProofs (disch := omega) at g12
    obtain ⟨g13, h⟩ := gd_some.1 h
    try simp -implicitDefEqProofs (disch := omega) at g13
    obtain ⟨g14, h⟩ := gd_some.1 h
    try simp -implicitDefEqProofs (disch := omega) at g14
    try simp -implicitDefEqProofs (maxSteps := 1000000) (disch := omega) [go_sem, t0_4, t3_4]
    obtain ⟨x15, hx15, h⟩ := bind_some' h
    refine PureC.mk _ (fun _ _ hK => ICalls.eqA (args' := [.sl 1 ((a0.take v5.toNat).map fun x => [.v (str x)]), .v (str (a0.getD v5.toNat []))]) (by first | with_reducible rfl | (simp -implicitDefEqProofs (maxSteps := 1000000) (disch := omega) [go_sem, t0_4, t3_4] <;> omega)) (F83_ok (a0.take v5.toNat) (a0.getD v5.toNat []) hx15 hK)) ?_
    try simp -implicitDefEqProofs (maxSteps := 1000000) (disch := omega) [go_sem, t0_4, t3_4]
    subst hc11
    refine IWp_cond_i h (by first | with_reducible rfl | (simp -implicitDefEqProofs (maxSteps := 1000000) (disch := omega) [go_sem, t0_4, t3_4] <;> omega)) rfl ?_ ?_
    ·intro c16 h
     try simp -implicitDefEqProofs (disch := omega) at c16
     refine IWp_seqF fun cb hc17 => ?_
     refine vcK ?_
     try simp -implicitDefEqProofs (maxSteps := 1000000) (disch := omega) [go_sem, t0_4, t3_4]
     subst hc17
     refine vcK ?_
     simp -implicitDefEqProofs only [go_sem]
     have e4 := Option.some.inj h
     subst e4
     have e4 := hret4 _ rfl
     subst e4
     replace h : some true = some r := hk4
     have er := Option.some.inj h
     subst er
     try simp -implicitDefEqProofs (maxSteps := 1000000) (disch := omega) [go_sem, t0_4, t3_4]
     refine retG_pureA (Ext.refl hw) hK (e := by first | with_reducible rfl | (simp -implicitDefEqProofs (maxSteps := 1000000) (disch := omega) [go_sem, t0_4, t3_4] <;> omega))
    ·intro c16 h
     try simp -implicitDefEqProofs (disch := omega) at c16
     refine vcK ?_
     simp -implicitDefEqProofs only [go_sem]
     subst hc10
     refine vcK ?_
     try simp -implicitDefEqProofs (maxSteps := 1000000) (disch := omega) [go_sem, t0_4, t3_4]
     have e4 := Option.some.inj h
     subst e4
     refine loopN_mk hI4 (IntKind.i64.wrap (v5 + 1)) ?_
     refine .same ⟨rfl, ?_, ?_⟩ <;> first | with_reducible rfl | with_reducible assumption | (simp -implicitDefEqProofs (maxSteps := 1000000) (disch := omega) [go_sem, t0_4, t3_4] <;> omega)
   ·intro c9 h
    try simp -implicitDefEqProofs (disch := omega) at c9
    refine vcK ?_
    simp -implicitDefEqProofs only [go_sem]
    have e4 := Option.some.inj h
    subst e4
    have hy4 := hret4 _ rfl
    refine hc4 _ _ ?_
    refine .same ⟨hy4, rfl⟩

end Go.Idl

namespace Go.Idl

open Go Go.Proofs.Tryz

/-! cardcase/cardcaseref07.with -/

noncomputable def F54_k6 (a1 : List UInt8) (v11 : List (List UInt8)) (v13 : Bool) : Option ((List (List UInt8))) :=
 if ¬ (v13 = true) then (gd ((v11.length + ([a1]).length) * 16 ≤ 140737488355328) (some (v11 ++ ([a1])))) else (some v11)

noncomputable def F54_k24 (a0 : List (List UInt8)) (a1 : List UInt8) (v10 : Int) (v25 : List (List UInt8)) (v27 : Bool) : Option (((List (List UInt8)) × Bool × Int) ⊕ ((List (List UInt8)) × Bool)) :=
 gd (0 ≤ v10 ∧ v10 < a0.length) (if ¬ (a0.getD v10.toNat []) = a1 then (gd ((v25.length + ([a0.getD v10.toNat []]).length) * 16 ≤ 140737488355328) (some (.inl ((v25 ++ ([a0.getD v10.toNat []]), v27, IntKind.i64.wrap (v10 + 1)))))) else (some (.inl ((v25, v27, IntKind.i64.wrap (v10 + 1))))))

noncomputable def F54_b6 (a0 : List (List UInt8)) (a1 : List UInt8) (v7 : List (List UInt8)) (v9 : Bool) (v10 : Int) : Option (((List (List UInt8)) × Bool × Int) ⊕ ((List (List UInt8)) × Bool)) :=
 if v10 < (a0.length : Int) then (if ¬ (v9 = true) then (gd (0 ≤ v10 ∧ v10 < a0.length) (if ¬ Op.bytesLess (a0.getD v10.toNat []) a1 = true then (gd ((v7.length + ([a1]).length) * 16 ≤ 140737488355328) (F54_k24 a0 a1 v10 (v7 ++ ([a1])) true)) else (F54_k24 a0 a1 v10 v7 v9))) else (F54_k24 a0 a1 v10 v7 v9)) else (some (.inr (v7, v9)))

noncomputable def F54 (a0 : List (List UInt8)) (a1 : List UInt8) : Option ((List (List UInt8))) :=
 (loopO (fun (s : (List (List UInt8)) × Bool × Int) => F54_b6 a0 a1 s.1 s.2.1 s.2.2) ([], false, 0)).bind fun (e : (List (List UInt8)) × Bool) => F54_k6 a1 e.1 e.2

set_option maxHeartbeats 8000000 in
set_option pp.deepTerms false in
set_option maxRecDepth 60000 in
theorem F54_ok {H : IHeap} {K : IEnd → IHeap → Prop} (a0 : List (List UInt8)) (a1 : List UInt8) {r : (List (List UInt8))} (h : F54 a0 a1 = some r) (hK : K (.ret (.sl 1 (r.map fun x => [.v (str x)]))) H) : ICalls prog 54 [.sl 1 (a0.map fun x => [.v (str x)]), .v (str a1)] H K := by
 refine ICalls_iwp (N := 48) func54 (by kernel_rfl) rfl (by kernel_rfl) (by kernel_rfl) fun cb hcb hw hbd hnb => ?_
 clear hbd hnb
 subst hcb
 unfold F54 at h
 refine IWp_seqF fun cb hc1 => ?_
 refine vcK ?_
 try simp -implicitDefEqProofs (maxSteps := 1000000) (disch := omega) [go_sem]
 subst hc1
 refine IWp_seqF fun cb hc2 => ?_
 refine vcK ?_
 try simp -implicitDefEqProofs (maxSteps := 1000000) (disch := omega) [go_sem]
 subst hc2
 refine IWp_seqF fun cb hc3 => ?_
 refine vcK ?_
 try simp -implicitDefEqProofs (maxSteps := 1000000) (disch := omega) [go_sem]
 subst hc3
 refine IWp_seqF fun cb hc4 => ?_
 refine IWp_seqF fun cb hc5 => ?_
 refine vcK ?_
 try simp -implicitDefEqProofs (maxSteps := 1000000) (disch := omega) [go_sem]
 subst hc5
 obtain ⟨y6, hl6q, hk6⟩ := bind_some' h
 refine IWp_tailC (fun tm' H' => ∃ n12 : Nat, ∃ v11 : List (List UInt8), ∃ v13 : Bool, (v11, v13) = y6 ∧ Ext H H' ∧ H.next ≤ H'.next ∧ H.next ≤ n12 ∧ n12 < H'.next ∧ tm' 1 = .v (str a1) ∧ tm' 5 = .os n12 v11.length ∧ tm' 6 = .v (.bool v13) ∧ H'.obj n12 = some (.row 1 (v11.map fun x => [.v (str x)]))) ?_ fun cb hc6 => ?_
 ·rintro tm6e H6e ⟨n12, v11, v13, rfl, he6e, hl6e, hr0_6e, hs0_6e, t1_6e, t5_6e, t6_6e, or0_6e⟩
  have h : F54_k6 a1 v11 v13 = some r := hk6
  unfold F54_k6 at h
  simp -implicitDefEqProofs only [go_sem]
  subst hc4
  refine IWp_seqF fun cb hc14 => ?_
  refine IWp_seqF fun cb hc15 => ?_
  refine vcK ?_
  try simp -implicitDefEqProofs (maxSteps := 1000000) (disch := omega) [go_sem, t1_6e, t5_6e, t6_6e, or0_6e]
  subst hc15
  refine IWp_cond_i h (by first | with_reducible rfl | (simp -implicitDefEqProofs (maxSteps := 1000000) (disch := omega) [go_sem, t1_6e, t5_6e, t6_6e, or0_6e] <;> omega)) rfl ?_ ?_
  ·intro c16 h
   try simp -implicitDefEqProofs (disch := omega) at c16
   refine vcK ?_
   obtain ⟨g17, h⟩ := gd_some.1 h
   try simp -implicitDefEqProofs (disch := omega) at g17
   try simp -implicitDefEqProofs (maxSteps := 1000000) (disch := omega) [go_sem, t1_6e, t5_6e, t6_6e, or0_6e]
   subst hc14
   refine IWp_seqF fun cb hc18 => ?_
   refine vcK ?_
   try simp -implicitDefEqProofs (maxSteps := 1000000) (disch := omega) [go_sem, t1_6e, t5_6e, t6_6e, or0_6e]
   subst hc18
   refine IWp.gh (Gh.freeze (d := 4) (k := n12) (sz := 1) (es := (v11 ++ ([a1])).map fun x => [.v (str x)]) (by simp -implicitDefEqProofs (maxSteps := 1000000) (disch := omega) [go_sem, t1_6e, t5_6e, t6_6e, or0_6e]) (by simp -implicitDefEqProofs (maxSteps := 1000000) (disch := omega) [go_sem, t1_6e, t5_6e, t6_6e, or0_6e])) ?_
   refine vcK ?_
   simp -implicitDefEqProofs only [go_sem]
   have er := Option.some.inj h
   subst er
   try simp -implicitDefEqProofs (maxSteps := 1000000) (disch := omega) [go_sem, t1_6e, t5_6e, t6_6e, or0_6e]
   refine retG_pureA he6e hK (e := by first | with_reducible rfl | (simp -implicitDefEqProofs (maxSteps := 1000000) (disch := omega) [go_sem, t1_6e, t5_6e, t6_6e, or0_6e] <;> omega))
  ·intro c16 h
   try simp -implicitDefEqProofs (disch := omega) at c16
   refine vcK ?_
   simp -implicitDefEqProofs only [go_sem]
   subst hc14
   refine IWp_seqF fun cb hc19 => ?_
   refine vcK ?_
   try simp -implicitDefEqProofs (maxSteps := 1000000) (disch := omega) [go_sem, t1_6e, t5_6e, t6_6e, or0_6e]
   subst hc19
   refine IWp.gh (Gh.freeze (d := 4) (k := n12) (sz := 1) (es := v11.map fun x => [.v (str x)]) (by simp -implicitDefEqProofs (maxSteps := 1000000) (disch := omega) [go_sem, t1_6e, t5_6e, t6_6e, or0_6e]) (by simp -implicitDefEqProofs (maxSteps := 1000000) (disch := omega) [go_sem, t1_6e, t5_6e, t6_6e, or0_6e])) ?_
   refine vcK ?_
   simp -implicitDefEqProofs only [go_sem]
   have er := Option.some.inj h
   subst er
   try simp -implicitDefEqProofs (maxSteps := 1000000) (disch := omega) [go_sem, t1_6e, t5_6e, t6_6e, or0_6e]
   refine retG_pureA he6e hK (e := by first | with_reducible rfl | (simp -implicitDefEqProofs (maxSteps := 1000000) (disch := omega) [go_sem, t1_6e, t5_6e, t6_6e, or0_6e] <;> omega))
 ·refine IWp_block ?_
  refine IWp_loopF (fun (s : (List (List UInt8)) × Bool × Int) tm' H' => ∃ n8 : Nat, Ext H H' ∧ H.next ≤ H'.next ∧ H.next ≤ n8 ∧ n8 < H'.next ∧ tm' 0 = .sl 1 (a0.map fun x => [.v (str x)]) ∧ tm' 1 = .v (str a1) ∧ tm' 5 = .os n8 s.1.length ∧ tm' 6 = .v (.bool s.2.1) ∧ tm' 7 = .v (.int .i64 s.2.2) ∧ H'.obj n8 = some (.row 1 (s.1.map fun x => [.v (str x)]))) hl6q ?_ ?_
  ·refine UpI.gh (Gh.nilrow (d := 5) (sz := 1) (by omega) (by (simp -implicitDefEqProofs (maxSteps := 1000000) (disch := omega) [go_sem] <;> omega))) ?_
   refine .same ⟨H.next, by repeat (first | exact (Ext.refl hw) | refine Ext.new ?_ _ | refine Ext.set ?_ (by first | omega | (simp [go_sem]; done) | (simp [go_sem]; omega)) _ | refine Ext.del ?_ (by first | omega | (simp [go_sem]; done) | (simp [go_sem]; omega))), by first | with_reducible rfl | with_reducible assumption | omega | (simp -implicitDefEqProofs (maxSteps := 1000000) (disch := omega) [go_sem] <;> omega), by first | with_reducible rfl | with_reducible assumption | omega | (simp -implicitDefEqProofs (maxSteps := 1000000) (disch := omega) [go_sem] <;> omega), by first | with_reducible rfl | with_reducible assumption | omega | (simp -implicitDefEqProofs (maxSteps := 1000000) (disch := omega) [go_sem] <;> omega), by first | with_reducible rfl | with_reducible assumption | (simp -implicitDefEqProofs (maxSteps := 1000000) (disch := omega) [go_sem] <;> omega), by first | with_reducible rfl | with_reducible assumption | (simp -implicitDefEqProofs (maxSteps := 1000000) (disch := omega) [go_sem] <;> omega), by first | with_reducible rfl | with_reducible assumption | (simp -implicitDefEqProofs (maxSteps := 1000000) (disch := omega) [go_sem] <;> omega), by first | with_reducible rfl | with_reducible assumption | (simp -implicitDefEqProofs (maxSteps := 1000000) (disch := omega) [go_sem] <;> omega), by first | with_reducible rfl | with_reducible assumption | (simp -implicitDefEqProofs (maxSteps := 1000000) (disch := omega) [go_sem] <;> omega), by first | with_reducible rfl | with_reducible assumption | (simp -implicitDefEqProofs (maxSteps := 1000000) (disch := omega) [go_sem] <;> omega)⟩
  ·rintro I6 hI6 ⟨v7, v9, v10⟩ x6 tm6 H6 ⟨n8, he6, hl6, hr0_6, hs0_6, t0_6, t1_6, t5_6, t6_6, t7_6, or0_6⟩ h hret6
   replace h : F54_b6 a0 a1 v7 v9 v10 = some x6 := h
   unfold F54_b6 at h
   refine IWp_seqF fun cb hc20 => ?_
   refine IWp_seqF fun cb hc21 => ?_
   refine vcK ?_
   try simp -implicitDefEqProofs (maxSteps := 1000000) (disch := omega) [go_sem, t0_6, t1_6, t5_6, t6_6, t7_6, or0_6]
   subst hc21
   refine IWp_cond_i h (by first | with_reducible rfl | (simp -implicitDefEqProofs (maxSteps := 1000000) (disch := omega) [go_sem, t0_6, t1_6, t5_6, t6_6, t7_6, or0_6] <;> omega)) rfl ?_ ?_
   ·intro c22 h
    try simp -implicitDefEqProofs (disch := omega) at c22
    refine vcK ?_
    simp -implicitDefEqProofs only [go_sem]
    subst hc20
    refine IWp_seqF fun cb hc23 => ?_
    refine IWp_block ?_
    refine IWp_seqC (fun tm' H' => ∃ n26 : Nat, ∃ v25 : List (List UInt8), ∃ v27 : Bool, Ext H H' ∧ H6.next ≤ H'.next ∧ H.next ≤ n26 ∧ n26 < H'.next ∧ tm' 0 = .sl 1 (a0.map fun x => [.v (str x)]) ∧ tm' 1 = .v (str a1) ∧ tm' 5 = .os n26 v25.length ∧ tm' 6 = .v (.bool v27) ∧ tm' 7 = .v (.int .i64 v10) ∧ H'.obj n26 = some (.row 1 (v25.map fun x => [.v (str x)])) ∧ F54_k24 a0 a1 v10 v25 v27 = some x6) ?_ fun cb hc24 => ?_
    ·rintro tm24 H24 ⟨n26, v25, v27, he24, hl24, hr0_24, hs0_24, t0_24, t1_24, t5_24, t6_24, t7_24, or0_24, h⟩
     unfold F54_k24 at h
     refine IWp_seqF fun cb hc28 => ?_
     refine vcK ?_
     obtain ⟨g29, h⟩ := gd_some.1 h
     try simp -implicitDefEqProofs (disch := omega) at g29
     try simp -implicitDefEqProofs (maxSteps := 1000000) (disch := omega) [go_sem, t0_24, t1_24, t5_24, t6_24, t7_24, or0_24]
     subst hc28
     refine IWp_cond_i h (by first | with_reducible rfl | (simp -implicitDefEqProofs (maxSteps := 1000000) (disch := omega) [go_sem, t0_24, t1_24, t5_24, t6_24, t7_24, or0_24] <;> omega)) rfl ?_ ?_
     ·intro c30 h
      try simp -implicitDefEqProofs (disch := omega) at c30
      refine vcK ?_
      obtain ⟨g31, h⟩ := gd_some.1 h
      try simp -implicitDefEqProofs (disch := omega) at g31
      try simp -implicitDefEqProofs (maxSteps := 1000000) (disch := omega) [go_sem, t0_24, t1_24, t5_24, t6_24, t7_24, or0_24]
      subst hc23
      refine vcK ?_
      try simp -implicitDefEqProofs (maxSteps := 1000000) (disch := omega) [go_sem, t0_24, t1_24, t5_24, t6_24, t7_24, or0_24]
      have e6 := Option.some.inj h
      subst e6
      refine loopN_mk hI6 ((v25 ++ ([a0.getD v10.toNat []]), v27, IntKind.i64.wrap (v10 + 1))) ?_
      refine .same ⟨n26, by repeat (first | exact he24 | refine Ext.new ?_ _ | refine Ext.set ?_ (by first | omega | (simp [go_sem]; done) | (simp [go_sem]; omega)) _ | refine Ext.del ?_ (by first | omega | (simp [go_sem]; done) | (simp [go_sem]; omega))), by first | with_reducible rfl | with_reducible assumption | omega | (simp -implicitDefEqProofs (maxSteps := 1000000) (disch := omega) [go_sem, t0_24, t1_24, t5_24, t6_24, t7_24, or0_24] <;> omega), by first | with_reducible rfl | with_reducible assumption | omega | (simp -implicitDefEqProofs (maxSteps := 1000000) (disch := omega) [go_sem, t0_24, t1_24, t5_24, t6_24, t7_24, or0_24] <;> omega), by first | with_reducible rfl | with_reducible assumption | omega | (simp -implicitDefEqProofs (maxSteps := 1000000) (disch := omega) [go_sem, t0_24, t1_24, t5_24, t6_24, t7_24, or0_24] <;> omega), by first | with_reducible rfl | with_reducible assumption | (simp -implicitDefEqProofs (maxSteps := 1000000) (disch := omega) [go_sem, t0_24, t1_24, t5_24, t6_24, t7_24, or0_24] <;> omega), by first | with_reducible rfl | with_reducible assumption | (simp -implicitDefEqProofs (maxSteps := 1000000) (disch := omega) [go_sem, t0_24, t1_24, t5_24, t6_24, t7_24, or0_24] <;> omega), by first | with_reducible rfl | with_reducible assumption | (simp -implicitDefEqProofs (maxSteps := 1000000) (disch := omega) [go_sem, t0_24, t1_24, t5_24, t6_24, t7_24, or0_24] <;> omega), by first | with_reducible rfl | with_reducible assumption | (simp -implicitDefEqProofs (maxSteps := 1000000) (disch := omega) [go_sem, t0_24, t1_24, t5_24, t6_24, t7_24, or0_24] <;> omega), by first | with_reducible rfl | with_reducible assumption | (simp -implicitDefEqProofs (maxSteps := 1000000) (disch := omega) [go_sem, t0_24, t1_24, t5_24, t6_24, t7_24, or0_24] <;> omega), by first | with_reducible rfl | with_reducible assumption | (simp -implicitDefEqProofs (maxSteps := 1000000) (disch := omega) [go_sem, t0_24, t1_24, t5_24, t6_24, t7_24, or0_24] <;> omega)⟩
     ·intro c30 h
      try simp -implicitDefEqProofs (disch := omega) at c30
      refine vcK ?_
      simp -implicitDefEqProofs only [go_sem]
      subst hc23
      refine vcK ?_
      try simp -implicitDefEqProofs (maxSteps := 1000000) (disch := omega) [go_sem, t0_24, t1_24, t5_24, t6_24, t7_24, or0_24]
      have e6 := Option.some.inj h
      subst e6
      refine loopN_mk hI6 ((v25, v27, IntKind.i64.wrap (v10 + 1))) ?_
      refine .same ⟨n26, by repeat (first | exact he24 | refine Ext.new ?_ _ | refine Ext.set ?_ (by first | omega | (simp [go_sem]; done) | (simp [go_sem]; omega)) _ | refine Ext.del ?_ (by first | omega | (simp [go_sem]; done) | (simp [go_sem]; omega))), by first | with_reducible rfl | with_reducible assumption | omega | (simp -implicitDefEqProofs (maxSteps := 1000000) (disch := omega) [go_sem, t0_24, t1_24, t5_24, t6_24, t7_24, or0_24] <;> omega), by first | with_reducible rfl | with_reducible assumption | omega | (simp -implicitDefEqProofs (maxSteps := 1000000) (disch := omega) [go_sem, t0_24, t1_24, t5_24, t6_24, t7_24, or0_24] <;> omega), by first | with_reducible rfl | with_reducible assumption | omega | (simp -implicitDefEqProofs (maxSteps := 1000000) (disch := omega) [go_sem, t0_24, t1_24, t5_24, t6_24, t7_24, or0_24] <;> omega), by first | with_reducible rfl | with_reducible assumption | (simp -implicitDefEqProofs (maxSteps := 1000000) (disch := omega) [go_sem, t0_24, t1_24, t5_24, t6_24, t7_24, or0_24] <;> omega), by first | with_reducible rfl | with_reducible assumption | (simp -implicitDefEqProofs (maxSteps := 1000000) (disch := omega) [go_sem, t0_24, t1_24, t5_24, t6_24, t7_24, or0_24] <;> omega), by first | with_reducible rfl | with_reducible assumption | (simp -implicitDefEqProofs (maxSteps := 1000000) (disch := omega) [go_sem, t0_24, t1_24, t5_24, t6_24, t7_24, or0_24] <;> omega), by first | with_reducible rfl | with_reducible assumption | (simp -implicitDefEqProofs (maxSteps := 1000000) (disch := omega) [go_sem, t0_24, t1_24, t5_24, t6_24, t7_24, or0_24] <;> omega), by first | with_reducible rfl | with_reducible assumption | (simp -implicitDefEqProofs (maxSteps := 1000000) (disch := omega) [go_sem, t0_24, t1_24, t5_24, t6_24, t7_24, or0_24] <;> omega), by first | with_reducible rfl | with_reducible assumption | (simp -implicitDefEqProofs (maxSteps := 1000000) (disch := omega) [go_sem, t0_24, t1_24, t5_24, t6_24, t7_24, or0_24] <;> omega)⟩
    ·refine IWp_seqF fun cb hc32 => ?_
     refine vcK ?_
     try simp -implicitDefEqProofs (maxSteps := 1000000) (disch := omega) [go_sem, t0_6, t1_6, t5_6, t6_6, t7_6, or0_6]
     refine splitG_f h (by first | with_reducible rfl | (simp -implicitDefEqProofs (maxSteps := 1000000) (disch := omega) [go_sem, t0_6, t1_6, t5_6, t6_6, t7_6, or0_6] <;> omega)) ?_ ?_
     ·intro c37 h
      try simp -implicitDefEqProofs (disch := omega) at c37
      obtain ⟨g33, h⟩ := gd_some.1 h
      try simp -implicitDefEqProofs (disch := omega) at g33
      try simp -implicitDefEqProofs (maxSteps := 1000000) (disch := omega) [go_sem, t0_6, t1_6, t5_6, t6_6, t7_6, or0_6]
      subst hc32
      refine IWp_cond_i h (by first | with_reducible rfl | (simp -implicitDefEqProofs (maxSteps := 1000000) (disch := omega) [go_sem, t0_6, t1_6, t5_6, t6_6, t7_6, or0_6] <;> omega)) rfl ?_ ?_
      ·intro c34 h
       try simp -implicitDefEqProofs (disch := omega) at c34
       refine IWp_seqF fun cb hc35 => ?_
       refine vcK ?_
       obtain ⟨g36, h⟩ := gd_some.1 h
       try simp -implicitDefEqProofs (disch := omega) at g36
       try simp -implicitDefEqProofs (maxSteps := 1000000) (disch := omega) [go_sem, t0_6, t1_6, t5_6, t6_6, t7_6, or0_6]
       subst hc35
       refine vcK ?_
       try simp -implicitDefEqProofs (maxSteps := 1000000) (disch := omega) [go_sem, t0_6, t1_6, t5_6, t6_6, t7_6, or0_6]
       refine hc24 _ _ ?_
       refine .same ⟨n8, (v7 ++ ([a1])), true, by repeat (first | exact he6 | refine Ext.new ?_ _ | refine Ext.set ?_ (by first | omega | (simp [go_sem]; done) | (simp [go_sem]; omega)) _ | refine Ext.del ?_ (by first | omega | (simp [go_sem]; done) | (simp [go_sem]; omega))), by first | with_reducible rfl | with_reducible assumption | omega | (simp -implicitDefEqProofs (maxSteps := 1000000) (disch := omega) [go_sem, t0_6, t1_6, t5_6, t6_6, t7_6, or0_6] <;> omega), by first | with_reducible rfl | with_reducible assumption | omega | (simp -implicitDefEqProofs (maxSteps := 1000000) (disch := omega) [go_sem, t0_6, t1_6, t5_6, t6_6, t7_6, or0_6] <;> omega), by first | with_reducible rfl | with_reducible assumption | omega | (simp -implicitDefEqProofs (maxSteps := 1000000) (disch := omega) [go_sem, t0_6, t1_6, t5_6, t6_6, t7_6, or0_6] <;> omega), by first | with_reducible rfl | with_reducible assumption | (simp -implicitDefEqProofs (maxSteps := 1000000) (disch := omega) [go_sem, t0_6, t1_6, t5_6, t6_6, t7_6, or0_6] <;> omega), by first | with_reducible rfl | with_reducible assumption | (simp -implicitDefEqProofs (maxSteps := 1000000) (disch := omega) [go_sem, t0_6, t1_6, t5_6, t6_6, t7_6, or0_6] <;> omega), by first | with_reducible rfl | with_reducible assumption | (simp -implicitDefEqProofs (maxSteps := 1000000) (disch := omega) [go_sem, t0_6, t1_6, t5_6, t6_6, t7_6, or0_6] <;> omega), by first | with_reducible rfl | with_reducible assumption | (simp -implicitDefEqProofs (maxSteps := 1000000) (disch := omega) [go_sem, t0_6, t1_6, t5_6, t6_6, t7_6, or0_6] <;> omega), by first | with_reducible rfl | with_reducible assumption | (simp -implicitDefEqProofs (maxSteps := 1000000) (disch := omega) [go_sem, t0_6, t1_6, t5_6, t6_6, t7_6, or0_6] <;> omega), by first | with_reducible rfl | with_reducible assumption | (simp -implicitDefEqProofs (maxSteps := 1000000) (disch := omega) [go_sem, t0_6, t1_6, t5_6, t6_6, t7_6, or0_6] <;> omega), h⟩
      ·intro c34 h
       try simp -implicitDefEqProofs (disch := omega) at c34
       refine vcK ?_
       simp -implicitDefEqProofs only [go_sem]
       refine hc24 _ _ ?_
       refine .same ⟨n8, v7, v9, by repeat (first | exact he6 | refine Ext.new ?_ _ | refine Ext.set ?_ (by first | omega | (simp [go_sem]; done) | (simp [go_sem]; omega)) _ | refine Ext.del ?_ (by first | omega | (simp [go_sem]; done) | (simp [go_sem]; omega))), by first | with_reducible rfl | with_reducible assumption | omega | (simp -implicitDefEqProofs (maxSteps := 1000000) (disch := omega) [go_sem, t0_6, t1_6, t5_6, t6_6, t7_6, or0_6] <;> omega), by first | with_reducible rfl | with_reducible assumption | omega | (simp -implicitDefEqProofs (maxSteps := 1000000) (disch := omega) [go_sem, t0_6, t1_6, t5_6, t6_6, t7_6, or0_6] <;> omega), by first | with_reducible rfl | with_reducible assumption | omega | (simp -implicitDefEqProofs (maxSteps := 1000000) (disch := omega) [go_sem, t0_6, t1_6, t5_6, t6_6, t7_6, or0_6] <;> omega), by first | with_reducible rfl | with_reducible assumption | (simp -implicitDefEqProofs (maxSteps := 1000000) (disch := omega) [go_sem, t0_6, t1_6, t5_6, t6_6, t7_6, or0_6] <;> omega), by first | with_reducible rfl | with_reducible assumption | (simp -implicitDefEqProofs (maxSteps := 1000000) (disch := omega) [go_sem, t0_6, t1_6, t5_6, t6_6, t7_6, or0_6] <;> omega), by first | with_reducible rfl | with_reducible assumption | (simp -implicitDefEqProofs (maxSteps := 1000000) (disch := omega) [go_sem, t0_6, t1_6, t5_6, t6_6, t7_6, or0_6] <;> omega), by first | with_reducible rfl | with_reducible assumption | (simp -implicitDefEqProofs (maxSteps := 1000000) (disch := omega) [go_sem, t0_6, t1_6, t5_6, t6_6, t7_6, or0_6] <;> omega), by first | with_reducible rfl | with_reducible assumption | (simp -implicitDefEqProofs (maxSteps := 1000000) (disch := omega) [go_sem, t0_6, t1_6, t5_6, t6_6, t7_6, or0_6] <;> omega), by first | with_reducible rfl | with_reducible assumption | (simp -implicitDefEqProofs (maxSteps := 1000000) (disch := omega) [go_sem, t0_6, t1_6, t5_6, t6_6, t7_6, or0_6] <;> omega), h⟩
     ·intro c37 h
      try simp -implicitDefEqProofs (disch := omega) at c37
      try simp -implicitDefEqProofs (maxSteps := 1000000) (disch := omega) [go_sem, t0_6, t1_6, t5_6, t6_6, t7_6, or0_6]
      subst hc32
      refine IWp_cond_f (by first | with_reducible rfl | (simp -implicitDefEqProofs (maxSteps := 1000000) (disch := omega) [go_sem, t0_6, t1_6, t5_6, t6_6, t7_6, or0_6] <;> omega)) rfl ?_
      refine vcK ?_
      simp -implicitDefEqProofs only [go_sem]
      refine hc24 _ _ ?_
      refine .same ⟨n8, v7, v9, by repeat (first | exact he6 | refine Ext.new ?_ _ | refine Ext.set ?_ (by first | omega | (simp [go_sem]; done) | (simp [go_sem]; omega)) _ | refine Ext.del ?_ (by first | omega | (simp [go_sem]; done) | (simp [go_sem]; omega))), by first | with_reducible rfl | with_reducible assumption | omega | (simp -implicitDefEqProofs (maxSteps := 1000000) (disch := omega) [go_sem, t0_6, t1_6, t5_6, t6_6, t7_6, or0_6] <;> omega), by first | with_reducible rfl | with_reducible assumption | omega | (simp -implicitDefEqProofs (maxSteps := 1000000) (disch := omega) [go_sem, t0_6, t1_6, t5_6, t6_6, t7_6, or0_6] <;> omega), by first | with_reducible rfl | with_reducible assumption | omega | (simp -implicitDefEqProofs (maxSteps := 1000000) (disch := omega) [go_sem, t0_6, t1_6, t5_6, t6_6, t7_6, or0_6] <;> omega), by first | with_reducible rfl | with_reducible assumption | (simp -implicitDefEqProofs (maxSteps := 1000000) (disch := omega) [go_sem, t0_6, t1_6, t5_6, t6_6, t7_6, or0_6] <;> omega), by first | with_reducible rfl | with_reducible assumption | (simp -implicitDefEqProofs (maxSteps := 1000000) (disch := omega) [go_sem, t0_6, t1_6, t5_6, t6_6, t7_6, or0_6] <;> omega), by first | with_reducible rfl | with_reducible assumption | (simp -implicitDefEqProofs (maxSteps := 1000000) (disch := omega) [go_sem, t0_6, t1_6, t5_6, t6_6, t7_6, or0_6] <;> omega), by first | with_reducible rfl | with_reducible assumption | (simp -implicitDefEqProofs (maxSteps := 1000000) (disch := omega) [go_sem, t0_6, t1_6, t5_6, t6_6, t7_6, or0_6] <;> omega), by first | with_reducible rfl | with_reducible assumption | (simp -implicitDefEqProofs (maxSteps := 1000000) (disch := omega) [go_sem, t0_6, t1_6, t5_6, t6_6, t7_6, or0_6] <;> omega), by first | with_reducible rfl | with_reducible assumption | (simp -implicitDefEqProofs (maxSteps := 1000000) (disch := omega) [go_sem, t0_6, t1_6, t5_6, t6_6, t7_6, or0_6] <;> omega), h⟩
   ·intro c22 h
    try simp -implicitDefEqProofs (disch := omega) at c22
    refine vcK ?_
    simp -implicitDefEqProofs only [go_sem]
    have e6 := Option.some.inj h
    subst e6
    have hy6 := hret6 _ rfl
    refine hc6 _ _ ?_
    refine .same ⟨n8, v7, v9, hy6, by repeat (first | exact he6 | refine Ext.new ?_ _ | refine Ext.set ?_ (by first | omega | (simp [go_sem]; done) | (simp [go_sem]; omega)) _ | refine Ext.del ?_ (by first | omega | (simp [go_sem]; done) | (simp [go_sem]; omega))), by first | with_reducible rfl | with_reducible assumption | omega | (simp -implicitDefEqProofs (maxSteps := 1000000) (disch := omega) [go_sem, t0_6, t1_6, t5_6, t6_6, t7_6, or0_6] <;> omega), by first | with_reducible rfl | with_reducible assumption | omega | (simp -implicitDefEqProofs (maxSteps := 1000000) (disch := omega) [go_sem, t0_6, t1_6, t5_6, t6_6, t7_6, or0_6] <;> omega), by first | with_reducible rfl | with_reducible assumption | omega | (simp -implicitDefEqProofs (maxSteps := 1000000) (disch := omega) [go_sem, t0_6, t1_6, t5_6, t6_6, t7_6, or0_6] <;> omega), by first | with_reducible rfl | with_reducible assumption | (simp -implicitDefEqProofs (maxSteps := 1000000) (disch := omega) [go_sem, t0_6, t1_6, t5_6, t6_6, t7_6, or0_6] <;> omega), by first | with_reducible rfl | with_reducible assumption | (simp -implicitDefEqProofs (maxSteps := 1000000) (disch := omega) [go_sem, t0_6, t1_6, t5_6, t6_6, t7_6, or0_6] <;> omega), by first | with_reducible rfl | with_reducible assumption | (simp -implicitDefEqProofs (maxSteps := 1000000) (disch := omega) [go_sem, t0_6, t1_6, t5_6, t6_6, t7_6, or0_6] <;> omega), by first | with_reducible rfl | with_reducible assumption | (simp -implicitDefEqProofs (maxSteps := 1000000) (disch := omega) [go_sem, t0_6, t1_6, t5_6, t6_6, t7_6, or0_6] <;> omega)⟩

/-! cardcase/cardcaseref07.set -/

noncomputable def F55_k6 (a1 : List UInt8) (a2 : List (List UInt8)) (v11 : List S50) (v13 : Bool) : Option (List S50) :=
 if ¬ (v13 = true) then (gd ((v11.length + ([(⟨a1, a2⟩ : S50)]).length) * 40 ≤ 140737488355328) (some (v11 ++ ([(⟨a1, a2⟩ : S50)])))) else (some v11)

noncomputable def F55_k24 (a0 : List S50) (a1 : List UInt8) (v10 : Int) (v25 : List S50) (v27 : Bool) : Option (((List S50) × Bool × Int) ⊕ ((List S50) × Bool)) :=
 gd (0 ≤ v10 ∧ v10 < a0.length) (if ¬ ((a0.getD v10.toNat S50.zero).fName) = a1 then (gd ((v25.length + ([a0.getD v10.toNat S50.zero]).length) * 40 ≤ 140737488355328) (some (.inl ((v25 ++ ([a0.getD v10.toNat S50.zero]), v27, IntKind.i64.wrap (v10 + 1)))))) else (some (.inl ((v25, v27, IntKind.i64.wrap (v10 + 1))))))

noncomputable def F55_b6 (a0 : List S50) (a1 : List UInt8) (a2 : List (List UInt8)) (v7 : List S50) (v9 : Bool) (v10 : Int) : Option (((List S50) × Bool × Int) ⊕ ((List S50) × Bool)) :=
 if v10 < (a0.length : Int) then (if ¬ (v9 = true) then (gd (0 ≤ v10 ∧ v10 < a0.length) (if ¬ Op.bytesLess ((a0.getD v10.toNat S50.zero).fName) a1 = true then (gd ((v7.length + ([(⟨a1, a2⟩ : S50)]).length) * 40 ≤ 140737488355328) (F55_k24 a0 a1 v10 (v7 ++ ([(⟨a1, a2⟩ : S50)])) true)) else (F55_k24 a0 a1 v10 v7 v9))) else (F55_k24 a0 a1 v10 v7 v9)) else (some (.inr (v7, v9)))

noncomputable def F55 (a0 : List S50) (a1 : List UInt8) (a2 : List (List UInt8)) : Option (List S50) :=
 (loopO (fun (s : (List S50) × Bool × Int) => F55_b6 a0 a1 a2 s.1 s.2.1 s.2.2) ([], (decide ((a2.length : Int) = 0)), 0)).bind fun (e : (List S50) × Bool) => F55_k6 a1 a2 e.1 e.2

set_option maxHeartbeats 8000000 in
set_option pp.deepTerms false in
set_option maxRecDepth 60000 in
theorem F55_ok {H : IHeap} {K : IEnd → IHeap → Prop} (a0 : List S50) (a1 : List UInt8) (a2 : List (List UInt8)) {r : (List S50)} (h : F55 a0 a1 a2 = some r) (hK : K (.ret (.sl 2 (r.map fun x => [.v (str x.fName), .sl 1 (x.fValues.map fun x => [.v (str x)])]))) H) : ICalls prog 55 [.sl 2 (a0.map fun x => [.v (str x.fName), .sl 1 (x.fValues.map fun x => [.v (str x)])]), .v (str a1), .sl 1 (a2.map fun x => [.v (str x)])] H K := by
 refine ICalls_iwp (N := 59) func55 (by kernel_rfl) rfl (by kernel_rfl) (by kernel_rfl) fun cb hcb hw hbd hnb => ?_
 clear hbd hnb
 subst hcb
 unfold F55 at h
 refine IWp_seqF fun cb hc1 => ?_
 refine vcK ?_
 try simp -implicitDefEqProofs (maxSteps := 1000000) (disch := omega) [go_sem, bdP]
 subst hc1
 refine IWp_seqF fun cb hc2 => ?_
 refine vcK ?_
 try simp -implicitDefEqProofs (maxSteps := 1000000) (disch := omega) [go_sem, bdP]
 subst hc2
 refine IWp_seqF fun cb hc3 => ?_
 refine vcK ?_
 try simp -implicitDefEqProofs (maxSteps := 1000000) (disch := omega) [go_sem, bdP]
 subst hc3
 refine IWp_seqF fun cb hc4 => ?_
 refine IWp_seqF fun cb hc5 => ?_
 refine vcK ?_
 try simp -implicitDefEqProofs (maxSteps := 1000000) (disch := omega) [go_sem, bdP]
 subst hc5
 obtain ⟨y6, hl6q, hk6⟩ := bind_some' h
 refine IWp_tailC (fun tm' H' => ∃ n12 : Nat, ∃ v11 : List S50, ∃ v13 : Bool, (v11, v13) = y6 ∧ Ext H H' ∧ H.next ≤ H'.next ∧ H.next ≤ n12 ∧ n12 < H'.next ∧ tm' 1 = .v (str a1) ∧ tm' 2 = .sl 1 (a2.map fun x => [.v (str x)]) ∧ tm' 7 = .os n12 v11.length ∧ tm' 8 = .v (.bool v13) ∧ H'.obj n12 = some (.row 2 (v11.map fun x => [.v (str x.fName), .sl 1 (x.fValues.map fun x => [.v (str x)])]))) ?_ fun cb hc6 => ?_
 ·rintro tm6e H6e ⟨n12, v11, v13, rfl, he6e, hl6e, hr0_6e, hs0_6e, t1_6e, t2_6e, t7_6e, t8_6e, or0_6e⟩
  have h : F55_k6 a1 a2 v11 v13 = some r := hk6
  unfold F55_k6 at h
  simp -implicitDefEqProofs only [go_sem]
  subst hc4
  refine IWp_seqF fun cb hc14 => ?_
  refine IWp_seqF fun cb hc15 => ?_
  refine vcK ?_
  try simp -implicitDefEqProofs (maxSteps := 1000000) (disch := omega) [go_sem, bdP, t1_6e, t2_6e, t7_6e, t8_6e, or0_6e]
  subst hc15
  refine IWp_cond_i h (by first | with_reducible rfl | (simp -implicitDefEqProofs (maxSteps := 1000000) (disch := omega) [go_sem, bdP, t1_6e, t2_6e, t7_6e, t8_6e, or0_6e] <;> omega)) rfl ?_ ?_
  ·intro c16 h
   try simp -implicitDefEqProofs (disch := omega) at c16
   refine vcK ?_
   obtain ⟨g17, h⟩ := gd_some.1 h
   try simp -implicitDefEqProofs (disch := omega) at g17
   try simp -implicitDefEqProofs (maxSteps := 1000000) (disch := omega) [go_sem, bdP, t1_6e, t2_6e, t7_6e, t8_6e, or0_6e]
   subst hc14
   refine IWp_seqF fun cb hc18 => ?_
   refine vcK ?_
   try simp -implicitDefEqProofs (maxSteps := 1000000) (disch := omega) [go_sem, bdP, t1_6e, t2_6e, t7_6e, t8_6e, or0_6e]
   subst hc18
   refine IWp.gh (Gh.freeze (d := 6) (k := n12) (sz := 2) (es := (v11 ++ ([(⟨a1, a2⟩ : S50)])).map fun x => [.v (str x.fName), .sl 1 (x.fValues.map fun x => [.v (str x)])]) (by simp -implicitDefEqProofs (maxSteps := 1000000) (disch := omega) [go_sem, bdP, t1_6e, t2_6e, t7_6e, t8_6e, or0_6e]) (by simp -implicitDefEqProofs (maxSteps := 1000000) (disch := omega) [go_sem, bdP, t1_6e, t2_6e, t7_6e, t8_6e, or0_6e])) ?_
   refine vcK ?_
   simp -implicitDefEqProofs only [go_sem]
   have er := Option.some.inj h
   subst er
   try simp -implicitDefEqProofs (maxSteps := 1000000) (disch := omega) [go_sem, bdP, t1_6e, t2_6e, t7_6e, t8_6e, or0_6e]
   refine retG_pureA he6e hK (e := by first | with_reducible rfl | (simp -implicitDefEqProofs (maxSteps := 1000000) (disch := omega) [go_sem, bdP, t1_6e, t2_6e, t7_6e, t8_6e, or0_6e] <;> omega))
  ·intro c16 h
   try simp -implicitDefEqProofs (disch := omega) at c16
   refine vcK ?_
   simp -implicitDefEqProofs only [go_sem]
   subst hc14
   refine IWp_seqF fun cb hc19 => ?_
   refine vcK ?_
   try simp -implicitDefEqProofs (maxSteps := 1000000) (disch := omega) [go_sem, bdP, t1_6e, t2_6e, t7_6e, t8_6e, or0_6e]
   subst hc19
   refine IWp.gh (Gh.freeze (d := 6) (k := n12) (sz := 2) (es := v11.map fun x => [.v (str x.fName), .sl 1 (x.fValues.map fun x => [.v (str x)])]) (by simp -implicitDefEqProofs (maxSteps := 1000000) (disch := omega) [go_sem, bdP, t1_6e, t2_6e, t7_6e, t8_6e, or0_6e]) (by simp -implicitDefEqProofs (maxSteps := 1000000) (disch := omega) [go_sem, bdP, t1_6e, t2_6e, t7_6e, t8_6e, or0_6e])) ?_
   refine vcK ?_
   simp -implicitDefEqProofs only [go_sem]
   have er := Option.some.inj h
   subst er
   try simp -implicitDefEqProofs (maxSteps := 1000000) (disch := omega) [go_sem, bdP, t1_6e, t2_6e, t7_6e, t8_6e, or0_6e]
   refine retG_pureA he6e hK (e := by first | with_reducible rfl | (simp -implicitDefEqProofs (maxSteps := 1000000) (disch := omega) [go_sem, bdP, t1_6e, t2_6e, t7_6e, t8_6e, or0_6e] <;> omega))
 ·refine IWp_block ?_
  refine IWp_loopF (fun (s : (List S50) × Bool × Int) tm' H' => ∃ n8 : Nat, Ext H H' ∧ H.next ≤ H'.next ∧ H.next ≤ n8 ∧ n8 < H'.next ∧ tm' 0 = .sl 2 (a0.map fun x => [.v (str x.fName), .sl 1 (x.fValues.map fun x => [.v (str x)])]) ∧ tm' 1 = .v (str a1) ∧ tm' 2 = .sl 1 (a2.map fun x => [.v (str x)]) ∧ tm' 7 = .os n8 s.1.length ∧ tm' 8 = .v (.bool s.2.1) ∧ tm' 9 = .v (.int .i64 s.2.2) ∧ H'.obj n8 = some (.row 2 (s.1.map fun x => [.v (str x.fName), .sl 1 (x.fValues.map fun x => [.v (str x)])]))) hl6q ?_ ?_
  ·refine UpI.gh (Gh.nilrow (d := 7) (sz := 2) (by omega) (by (simp -implicitDefEqProofs (maxSteps := 1000000) (disch := omega) [go_sem, bdP] <;> omega))) ?_
   refine .same ⟨H.next, by repeat (first | exact (Ext.refl hw) | refine Ext.new ?_ _ | refine Ext.set ?_ (by first | omega | (simp [go_sem]; done) | (simp [go_sem]; omega)) _ | refine Ext.del ?_ (by first | omega | (simp [go_sem]; done) | (simp [go_sem]; omega))), by first | with_reducible rfl | with_reducible assumption | omega | (simp -implicitDefEqProofs (maxSteps := 1000000) (disch := omega) [go_sem, bdP] <;> omega), by first | with_reducible rfl | with_reducible assumption | omega | (simp -implicitDefEqProofs (maxSteps := 1000000) (disch := omega) [go_sem, bdP] <;> omega), by first | with_reducible rfl | with_reducible assumption | omega | (simp -implicitDefEqProofs (maxSteps := 1000000) (disch := omega) [go_sem, bdP] <;> omega), by first | with_reducible rfl | with_reducible assumption | (simp -implicitDefEqProofs (maxSteps := 1000000) (disch := omega) [go_sem, bdP] <;> omega), by first | with_reducible rfl | with_reducible assumption | (simp -implicitDefEqProofs (maxSteps := 1000000) (disch := omega) [go_sem, bdP] <;> omega), by first | with_reducible rfl | with_reducible assumption | (simp -implicitDefEqProofs (maxSteps := 1000000) (disch := omega) [go_sem, bdP] <;> omega), by first | with_reducible rfl | with_reducible assumption | (simp -implicitDefEqProofs (maxSteps := 1000000) (disch := omega) [go_sem, bdP] <;> omega), by first | with_reducible rfl | with_reducible assumption | (simp -implicitDefEqProofs (maxSteps := 1000000) (disch := omega) [go_sem, bdP] <;> omega), by first | with_reducible rfl | with_reducible assumption | (simp -implicitDefEqProofs (maxSteps := 1000000) (disch := omega) [go_sem, bdP] <;> omega), by first | with_reducible rfl | with_reducible assumption | (simp -implicitDefEqProofs (maxSteps := 1000000) (disch := omega) [go_sem, bdP] <;> omega)⟩
  ·rintro I6 hI6 ⟨v7, v9, v10⟩ x6 tm6 H6 ⟨n8, he6, hl6, hr0_6, hs0_6, t0_6, t1_6, t2_6, t7_6, t8_6, t9_6, or0_6⟩ h hret6
   replace h : F55_b6 a0 a1 a2 v7 v9 v10 = some x6 := h
   unfold F55_b6 at h
   refine IWp_seqF fun cb hc20 => ?_
   refine IWp_seqF fun cb hc21 => ?_
   refine vcK ?_
   try simp -implicitDefEqProofs (maxSteps := 1000000) (disch := omega) [go_sem, bdP, t0_6, t1_6, t2_6, t7_6, t8_6, t9_6, or0_6]
   subst hc21
   refine IWp_cond_i h (by first | with_reducible rfl | (simp -implicitDefEqProofs (maxSteps := 1000000) (disch := omega) [go_sem, bdP, t0_6, t1_6, t2_6, t7_6, t8_6, t9_6, or0_6] <;> omega)) rfl ?_ ?_
   ·intro c22 h
    try simp -implicitDefEqProofs (disch := omega) at c22
    refine vcK ?_
    simp -implicitDefEqProofs only [go_sem]
    subst hc20
    refine IWp_seqF fun cb hc23 => ?_
    refine IWp_block ?_
    refine IWp_seqC (fun tm' H' => ∃ n26 : Nat, ∃ v25 : List S50, ∃ v27 : Bool, Ext H H' ∧ H6.next ≤ H'.next ∧ H.next ≤ n26 ∧ n26 < H'.next ∧ tm' 0 = .sl 2 (a0.map fun x => [.v (str x.fName), .sl 1 (x.fValues.map fun x => [.v (str x)])]) ∧ tm' 1 = .v (str a1) ∧ tm' 2 = .sl 1 (a2.map fun x => [.v (str x)]) ∧ tm' 7 = .os n26 v25.length ∧ tm' 8 = .v (.bool v27) ∧ tm' 9 = .v (.int .i64 v10) ∧ H'.obj n26 = some (.row 2 (v25.map fun x => [.v (str x.fName), .sl 1 (x.fValues.map fun x => [.v (str x)])])) ∧ F55_k24 a0 a1 v10 v25 v27 = some x6) ?_ fun cb hc24 => ?_
    ·rintro tm24 H24 ⟨n26, v25, v27, he24, hl24, hr0_24, hs0_24, t0_24, t1_24, t2_24, t7_24, t8_24, t9_24, or0_24, h⟩
     unfold F55_k24 at h
     refine IWp_seqF fun cb hc28 => ?_
     refine vcK ?_
     obtain ⟨g29, h⟩ := gd_some.1 h
     try simp -implicitDefEqProofs (disch := omega) at g29
     try simp -implicitDefEqProofs (maxSteps := 1000000) (disch := omega) [go_sem, bdP, t0_24, t1_24, t2_24, t7_24, t8_24, t9_24, or0_24]
     subst hc28
     refine IWp_cond_i h (by first | with_reducible rfl | (simp -implicitDefEqProofs (maxSteps := 1000000) (disch := omega) [go_sem, bdP, t0_24, t1_24, t2_24, t7_24, t8_24, t9_24, or0_24] <;> omega)) rfl ?_ ?_
     ·intro c30 h
      try simp -implicitDefEqProofs (disch := omega) at c30
      refine vcK ?_
      obtain ⟨g31, h⟩ := gd_some.1 h
      try simp -implicitDefEqProofs (disch := omega) at g31
      try simp -implicitDefEqProofs (maxSteps := 1000000) (disch := omega) [go_sem, bdP, t0_24, t1_24, t2_24, t7_24, t8_24, t9_24, or0_24]
      subst hc23
      refine vcK ?_
      try simp -implicitDefEqProofs (maxSteps := 1000000) (disch := omega) [go_sem, bdP, t0_24, t1_24, t2_24, t7_24, t8_24, t9_24, or0_24]
      have e6 := Option.some.inj h
      subst e6
      refine loopN_mk hI6 ((v25 ++ ([a0.getD v10.toNat S50.zero]), v27, IntKind.i64.wrap (v10 + 1))) ?_
      refine .same ⟨n26, by repeat (first | exact he24 | refine Ext.new ?_ _ | refine Ext.set ?_ (by first | omega | (simp [go_sem]; done) | (simp [go_sem]; omega)) _ | refine Ext.del ?_ (by first | omega | (simp [go_sem]; done) | (simp [go_sem]; omega))), by first | with_reducible rfl | with_reducible assumption | omega | (simp -implicitDefEqProofs (maxSteps := 1000000) (disch := omega) [go_sem, bdP, t0_24, t1_24, t2_24, t7_24, t8_24, t9_24, or0_24] <;> omega), by first | with_reducible rfl | with_reducible assumption | omega | (simp -implicitDefEqProofs (maxSteps := 1000000) (disch := omega) [go_sem, bdP, t0_24, t1_24, t2_24, t7_24, t8_24, t9_24, or0_24] <;> omega), by first | with_reducible rfl | with_reducible assumption | omega | (simp -implicitDefEqProofs (maxSteps := 1000000) (disch := omega) [go_sem, bdP, t0_24, t1_24, t2_24, t7_24, t8_24, t9_24, or0_24] <;> omega), by first | with_reducible rfl | with_reducible assumption | (simp -implicitDefEqProofs (maxSteps := 1000000) (disch := omega) [go_sem, bdP, t0_24, t1_24, t2_24, t7_24, t8_24, t9_24, or0_24] <;> omega), by first | with_reducible rfl | with_reducible assumption | (simp -implicitDefEqProofs (maxSteps := 1000000) (disch := omega) [go_sem, bdP, t0_24, t1_24, t2_24, t7_24, t8_24, t9_24, or0_24] <;> omega), by first | with_reducible rfl | with_reducible assumption | (simp -implicitDefEqProofs (maxSteps := 1000000) (disch := omega) [go_sem, bdP, t0_24, t1_24, t2_24, t7_24, t8_24, t9_24, or0_24] <;> omega), by first | with_reducible rfl | with_reducible assumption | (simp -implicitDefEqProofs (maxSteps := 1000000) (disch := omega) [go_sem, bdP, t0_24, t1_24, t2_24, t7_24, t8_24, t9_24, or0_24] <;> omega), by first | with_reducible rfl | with_reducible assumption | (simp -implicitDefEqProofs (maxSteps := 1000000) (disch := omega) [go_sem, bdP, t0_24, t1_24, t2_24, t7_24, t8_24, t9_24, or0_24] <;> omega), by first | with_reducible rfl | with_reducible assumption | (simp -implicitDefEqProofs (maxSteps := 1000000) (disch := omega) [go_sem, bdP, t0_24, t1_24, t2_24, t7_24, t8_24, t9_24, or0_24] <;> omega), by first | with_reducible rfl | with_reducible assumption | (simp -implicitDefEqProofs (maxSteps := 1000000) (disch := omega) [go_sem, bdP, t0_24, t1_24, t2_24, t7_24, t8_24, t9_24, or0_24] <;> omega)⟩
     ·intro c30 h
      try simp -implicitDefEqProofs (disch := omega) at c30
      refine vcK ?_
      simp -implicitDefEqProofs only [go_sem]
      subst hc23
      refine vcK ?_
      try simp -implicitDefEqProofs (maxSteps := 1000000) (disch := omega) [go_sem, bdP, t0_24, t1_24, t2_24, t7_24, t8_24, t9_24, or0_24]
      have e6 := Option.some.inj h
      subst e6
      refine loopN_mk hI6 ((v25, v27, IntKind.i64.wrap (v10 + 1))) ?_
      refine .same ⟨n26, by repeat (first | exact he24 | refine Ext.new ?_ _ | refine Ext.set ?_ (by first | omega | (simp [go_sem]; done) | (simp [go_sem]; omega)) _ | refine Ext.del ?_ (by first | omega | (simp [go_sem]; done) | (simp [go_sem]; omega))), by first | with_reducible rfl | with_reducible assumption | omega | (simp -implicitDefEqProofs (maxSteps := 1000000) (disch := omega) [go_sem, bdP, t0_24, t1_24, t2_24, t7_24, t8_24, t9_24, or0_24] <;> omega), by first | with_reducible rfl | with_reducible assumption | omega | (simp -implicitDefEqProofs (maxSteps := 1000000) (disch := omega) [go_sem, bdP, t0_24, t1_24, t2_24, t7_24, t8_24, t9_24, or0_24] <;> omega), by first | with_reducible rfl | with_reducible assumption | omega | (simp -implicitDefEqProofs (maxSteps := 1000000) (disch := omega) [go_sem, bdP, t0_24, t1_24, t2_24, t7_24, t8_24, t9_24, or0_24] <;> omega), by first | with_reducible rfl | with_reducible assumption | (simp -implicitDefEqProofs (maxSteps := 1000000) (disch := omega) [go_sem, bdP, t0_24, t1_24, t2_24, t7_24, t8_24, t9_24, or0_24] <;> omega), by first | with_reducible rfl | with_reducible assumption | (simp -implicitDefEqProofs (maxSteps := 1000000) (disch := omega) [go_sem, bdP, t0_24, t1_24, t2_24, t7_24, t8_24, t9_24, or0_24] <;> omega), by first | with_reducible rfl | with_reducible assumption | (simp -implicitDefEqProofs (maxSteps := 1000000) (disch := omega) [go_sem, bdP, t0_24, t1_24, t2_24, t7_24, t8_24, t9_24, or0_24] <;> omega), by first | with_reducible rfl | with_reducible assumption | (simp -implicitDefEqProofs (maxSteps := 1000000) (disch := omega) [go_sem, bdP, t0_24, t1_24, t2_24, t7_24, t8_24, t9_24, or0_24] <;> omega), by first | with_reducible rfl | with_reducible assumption | (simp -implicitDefEqProofs (maxSteps := 1000000) (disch := omega) [go_sem, bdP, t0_24, t1_24, t2_24, t7_24, t8_24, t9_24, or0_24] <;> omega), by first | with_reducible rfl | with_reducible assumption | (simp -implicitDefEqProofs (maxSteps := 1000000) (disch := omega) [go_sem, bdP, t0_24, t1_24, t2_24, t7_24, t8_24, t9_24, or0_24] <;> omega), by first | with_reducible rfl | with_reducible assumption | (simp -implicitDefEqProofs (maxSteps := 1000000) (disch := omega) [go_sem, bdP, t0_24, t1_24, t2_24, t7_24, t8_24, t9_24, or0_24] <;> omega)⟩
    ·refine IWp_seqF fun cb hc32 => ?_
     refine vcK ?_
     try simp -implicitDefEqProofs (maxSteps := 1000000) (disch := omega) [go_sem, bdP, t0_6, t1_6, t2_6, t7_6, t8_6, t9_6, or0_6]
     refine splitG_f h (by first | with_reducible rfl | (simp -implicitDefEqProofs (maxSteps := 1000000) (disch := omega) [go_sem, bdP, t0_6, t1_6, t2_6, t7_6, t8_6, t9_6, or0_6] <;> omega)) ?_ ?_
     ·intro c37 h
      try simp -implicitDefEqProofs (disch := omega) at c37
      obtain ⟨g33, h⟩ := gd_some.1 h
      try simp -implicitDefEqProofs (disch := omega) at g33
      try simp -implicitDefEqProofs (maxSteps := 1000000) (disch := omega) [go_sem, bdP, t0_6, t1_6, t2_6, t7_6, t8_6, t9_6, or0_6]
      subst hc32
      refine IWp_cond_i h (by first | with_reducible rfl | (simp -implicitDefEqProofs (maxSteps := 1000000) (disch := omega) [go_sem, bdP, t0_6, t1_6, t2_6, t7_6, t8_6, t9_6, or0_6] <;> omega)) rfl ?_ ?_
      ·intro c34 h
       try simp -implicitDefEqProofs (disch := omega) at c34
       refine IWp_seqF fun cb hc35 => ?_
       refine vcK ?_
       obtain ⟨g36, h⟩ := gd_some.1 h
       try simp -implicitDefEqProofs (disch := omega) at g36
       try simp -implicitDefEqProofs (maxSteps := 1000000) (disch := omega) [go_sem, bdP, t0_6, t1_6, t2_6, t7_6, t8_6, t9_6, or0_6]
       subst hc35
       refine vcK ?_
       try simp -implicitDefEqProofs (maxSteps := 1000000) (disch := omega) [go_sem, bdP, t0_6, t1_6, t2_6, t7_6, t8_6, t9_6, or0_6]
       refine hc24 _ _ ?_
       refine .same ⟨n8, (v7 ++ ([(⟨a1, a2⟩ : S50)])), true, by repeat (first | exact he6 | refine Ext.new ?_ _ | refine Ext.set ?_ (by first | omega | (simp [go_sem]; done) | (simp [go_sem]; omega)) _ | refine Ext.del ?_ (by first | omega | (simp [go_sem]; done) | (simp [go_sem]; omega))), by first | with_reducible rfl | with_reducible assumption | omega | (simp -implicitDefEqProofs (maxSteps := 1000000) (disch := omega) [go_sem, bdP, t0_6, t1_6, t2_6, t7_6, t8_6, t9_6, or0_6] <;> omega), by first | with_reducible rfl | with_reducible assumption | omega | (simp -implicitDefEqProofs (maxSteps := 1000000) (disch := omega) [go_sem, bdP, t0_6, t1_6, t2_6, t7_6, t8_6, t9_6, or0_6] <;> omega), by first | with_reducible rfl | with_reducible assumption | omega | (simp -implicitDefEqProofs (maxSteps := 1000000) (disch := omega) [go_sem, bdP, t0_6, t1_6, t2_6, t7_6, t8_6, t9_6, or0_6] <;> omega), by first | with_reducible rfl | with_reducible assumption | (simp -implicitDefEqProofs (maxSteps := 1000000) (disch := omega) [go_sem, bdP, t0_6, t1_6, t2_6, t7_6, t8_6, t9_6, or0_6] <;> omega), by first | with_reducible rfl | with_reducible assumption | (simp -implicitDefEqProofs (maxSteps := 1000000) (disch := omega) [go_sem, bdP, t0_6, t1_6, t2_6, t7_6, t8_6, t9_6, or0_6] <;> omega), by first | with_reducible rfl | with_reducible assumption | (simp -implicitDefEqProofs (maxSteps := 1000000) (disch := omega) [go_sem, bdP, t0_6, t1_6, t2_6, t7_6, t8_6, t9_6, or0_6] <;> omega), by first | with_reducible rfl | with_reducible assumption | (simp -implicitDefEqProofs (maxSteps := 1000000) (disch := omega) [go_sem, bdP, t0_6, t1_6, t2_6, t7_6, t8_6, t9_6, or0_6] <;> omega), by first | with_reducible rfl | with_reducible assumption | (simp -implicitDefEqProofs (maxSteps := 1000000) (disch := omega) [go_sem, bdP, t0_6, t1_6, t2_6, t7_6, t8_6, t9_6, or0_6] <;> omega), by first | with_reducible rfl | with_reducible assumption | (simp -implicitDefEqProofs (maxSteps := 1000000) (disch := omega) [go_sem, bdP, t0_6, t1_6, t2_6, t7_6, t8_6, t9_6, or0_6] <;> omega), by first | with_reducible rfl | with_reducible assumption | (simp -implicitDefEqProofs (maxSteps := 1000000) (disch := omega) [go_sem, bdP, t0_6, t1_6, t2_6, t7_6, t8_6, t9_6, or0_6] <;> omega), h⟩
      ·intro c34 h
       try simp -implicitDefEqProofs (disch := omega) at c34
       refine vcK ?_
       simp -implicitDefEqProofs only [go_sem]
       refine hc24 _ _ ?_
       refine .same ⟨n8, v7, v9, by repeat (first | exact he6 | refine Ext.new ?_ _ | refine Ext.set ?_ (by first | omega | (simp [go_sem]; done) | (simp [go_sem]; omega)) _ | refine Ext.del ?_ (by first | omega | (simp [go_sem]; done) | (simp [go_sem]; omega))), by first | with_reducible rfl | with_reducible assumption | omega | (simp -implicitDefEqProofs (maxSteps := 1000000) (disch := omega) [go_sem, bdP, t0_6, t1_6, t2_6, t7_6, t8_6, t9_6, or0_6] <;> omega), by first | with_reducible rfl | with_reducible assumption | omega | (simp -implicitDefEqProofs (maxSteps := 1000000) (disch := omega) [go_sem, bdP, t0_6, t1_6, t2_6, t7_6, t8_6, t9_6, or0_6] <;> omega), by first | with_reducible rfl | with_reducible assumption | omega | (simp -implicitDefEqProofs (maxSteps := 1000000) (disch := omega) [go_sem, bdP, t0_6, t1_6, t2_6, t7_6, t8_6, t9_6, or0_6] <;> omega), by first | with_reducible rfl | with_reducible assumption | (simp -implicitDefEqProofs (maxSteps := 1000000) (disch := omega) [go_sem, bdP, t0_6, t1_6, t2_6, t7_6, t8_6, t9_6, or0_6] <;> omega), by first | with_reducible rfl | with_reducible assumption | (simp -implicitDefEqProofs (maxSteps := 1000000) (disch := omega) [go_sem, bdP, t0_6, t1_6, t2_6, t7_6, t8_6, t9_6, or0_6] <;> omega), by first | with_reducible rfl | with_reducible assumption | (simp -implicitDefEqProofs (maxSteps := 1000000) (disch := omega) [go_sem, bdP, t0_6, t1_6, t2_6, t7_6, t8_6, t9_6, or0_6] <;> omega), by first | with_reducible rfl | with_reducible assumption | (simp -implicitDefEqProofs (maxSteps := 1000000) (disch := omega) [go_sem, bdP, t0_6, t1_6, t2_6, t7_6, t8_6, t9_6, or0_6] <;> omega), by first | with_reducible rfl | with_reducible assumption | (simp -implicitDefEqProofs (maxSteps := 1000000) (disch := omega) [go_sem, bdP, t0_6, t1_6, t2_6, t7_6, t8_6, t9_6, or0_6] <;> omega), by first | with_reducible rfl | with_reducible assumption | (simp -implicitDefEqProofs (maxSteps := 1000000) (disch := omega) [go_sem, bdP, t0_6, t1_6, t2_6, t7_6, t8_6, t9_6, or0_6] <;> omega), by first | with_reducible rfl | with_reducible assumption | (simp -implicitDefEqProofs (maxSteps := 1000000) (disch := omega) [go_sem, bdP, t0_6, t1_6, t2_6, t7_6, t8_6, t9_6, or0_6] <;> omega), h⟩
     ·intro c37 h
      try simp -implicitDefEqProofs (disch := omega) at c37
      try simp -implicitDefEqProofs (maxSteps := 1000000) (disch := omega) [go_sem, bdP, t0_6, t1_6, t2_6, t7_6, t8_6, t9_6, or0_6]
      subst hc32
      refine IWp_cond_f (by first | with_reducible rfl | (simp -implicitDefEqProofs (maxSteps := 1000000) (disch := omega) [go_sem, bdP, t0_6, t1_6, t2_6, t7_6, t8_6, t9_6, or0_6] <;> omega)) rfl ?_
      refine vcK ?_
      simp -implicitDefEqProofs only [go_sem]
      refine hc24 _ _ ?_
      refine .same ⟨n8, v7, v9, by repeat (first | exact he6 | refine Ext.new ?_ _ | refine Ext.set ?_ (by first | omega | (simp [go_sem]; done) | (simp [go_sem]; omega)) _ | refine Ext.del ?_ (by first | omega | (simp [go_sem]; done) | (simp [go_sem]; omega))), by first | with_reducible rfl | with_reducible assumption | omega | (simp -implicitDefEqProofs (maxSteps := 1000000) (disch := omega) [go_sem, bdP, t0_6, t1_6, t2_6, t7_6, t8_6, t9_6, or0_6] <;> omega), by first | with_reducible rfl | with_reducible assumption | omega | (simp -implicitDefEqProofs (maxSteps := 1000000) (disch := omega) [go_sem, bdP, t0_6, t1_6, t2_6, t7_6, t8_6, t9_6, or0_6] <;> omega), by first | with_reducible rfl | with_reducible assumption | omega | (simp -implicitDefEqProofs (maxSteps := 1000000) (disch := omega) [go_sem, bdP, t0_6, t1_6, t2_6, t7_6, t8_6, t9_6, or0_6] <;> omega), by first | with_reducible rfl | with_reducible assumption | (simp -implicitDefEqProofs (maxSteps := 1000000) (disch := omega) [go_sem, bdP, t0_6, t1_6, t2_6, t7_6, t8_6, t9_6, or0_6] <;> omega), by first | with_reducible rfl | with_reducible assumption | (simp -implicitDefEqProofs (maxSteps := 1000000) (disch := omega) [go_sem, bdP, t0_6, t1_6, t2_6, t7_6, t8_6, t9_6, or0_6] <;> omega), by first | with_reducible rfl | with_reducible assumption | (simp -implicitDefEqProofs (maxSteps := 1000000) (disch := omega) [go_sem, bdP, t0_6, t1_6, t2_6, t7_6, t8_6, t9_6, or0_6] <;> omega), by first | with_reducible rfl | with_reducible assumption | (simp -implicitDefEqProofs (maxSteps := 1000000) (disch := omega) [go_sem, bdP, t0_6, t1_6, t2_6, t7_6, t8_6, t9_6, or0_6] <;> omega), by first | with_reducible rfl | with_reducible assumption | (simp -implicitDefEqProofs (maxSteps := 1000000) (disch := omega) [go_sem, bdP, t0_6, t1_6, t2_6, t7_6, t8_6, t9_6, or0_6] <;> omega), by first | with_reducible rfl | with_reducible assumption | (simp -implicitDefEqProofs (maxSteps := 1000000) (disch := omega) [go_sem, bdP, t0_6, t1_6, t2_6, t7_6, t8_6, t9_6, or0_6] <;> omega), by first | with_reducible rfl | with_reducible assumption | (simp -implicitDefEqProofs (maxSteps := 1000000) (disch := omega) [go_sem, bdP, t0_6, t1_6, t2_6, t7_6, t8_6, t9_6, or0_6] <;> omega), h⟩
   ·intro c22 h
    try simp -implicitDefEqProofs (disch := omega) at c22
    refine vcK ?_
    simp -implicitDefEqProofs only [go_sem]
    have e6 := Option.some.inj h
    subst e6
    have hy6 := hret6 _ rfl
    refine hc6 _ _ ?_
    refine .same ⟨n8, v7, v9, hy6, by repeat (first | exact he6 | refine Ext.new ?_ _ | refine Ext.set ?_ (by first | omega | (simp [go_sem]; done) | (simp [go_sem]; omega)) _ | refine Ext.del ?_ (by first | omega | (simp [go_sem]; done) | (simp [go_sem]; omega))), by first | with_reducible rfl | with_reducible assumption | omega | (simp -implicitDefEqProofs (maxSteps := 1000000) (disch := omega) [go_sem, bdP, t0_6, t1_6, t2_6, t7_6, t8_6, t9_6, or0_6] <;> omega), by first | with_reducible rfl | with_reducible assumption | omega | (simp -implicitDefEqProofs (maxSteps := 1000000) (disch := omega) [go_sem, bdP, t0_6, t1_6, t2_6, t7_6, t8_6, t9_6, or0_6] <;> omega), by first | with_reducible rfl | with_reducible assumption | omega | (simp -implicitDefEqProofs (maxSteps := 1000000) (disch := omega) [go_sem, bdP, t0_6, t1_6, t2_6, t7_6, t8_6, t9_6, or0_6] <;> omega), by first | with_reducible rfl | with_reducible assumption | (simp -implicitDefEqProofs (maxSteps := 1000000) (disch := omega) [go_sem, bdP, t0_6, t1_6, t2_6, t7_6, t8_6, t9_6, or0_6] <;> omega), by first | with_reducible rfl | with_reducible assumption | (simp -implicitDefEqProofs (maxSteps := 1000000) (disch := omega) [go_sem, bdP, t0_6, t1_6, t2_6, t7_6, t8_6, t9_6, or0_6] <;> omega), by first | with_reducible rfl | with_reducible assumption | (simp -implicitDefEqProofs (maxSteps := 1000000) (disch := omega) [go_sem, bdP, t0_6, t1_6, t2_6, t7_6, t8_6, t9_6, or0_6] <;> omega), by first | with_reducible rfl | with_reducible assumption | (simp -implicitDefEqProofs (maxSteps := 1000000) (disch := omega) [go_sem, bdP, t0_6, t1_6, t2_6, t7_6, t8_6, t9_6, or0_6] <;> omega), by first | with_reducible rfl | with_reducible assumption | (simp -implicitDefEqProofs (maxSteps := 1000000) (disch := omega) [go_sem, bdP, t0_6, t1_6, t2_6, t7_6, t8_6, t9_6, or0_6] <;> omega)⟩

end Go.Idl
