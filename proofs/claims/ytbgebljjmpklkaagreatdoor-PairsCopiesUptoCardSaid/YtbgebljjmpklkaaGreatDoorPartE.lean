/- Copies go on apart; Same tells what is the same Part 5. Conditions: none. -/
import Derived.Test.YtbgebljjmpklkaaGreatDoorPartD
set_option linter.unusedSimpArgs false
set_option linter.unusedVariables false

namespace Go.Idl

set_option maxHeartbeats 8000000

set_option pp.deepTerms false

set_option maxRecDepth 60000

open Go Go.Proofs.Tryz

/-! cardcase/dn.name -/

noncomputable def F80_k5 (a0 : List UInt8) : Option Bool :=
 if 1 ≤ (a0.length : Int) then (some (decide ((a0.length : Int) ≤ 64))) else (some false)

noncomputable def F80_b5 (a0 : List UInt8) (v6 : Int) : Option (Int ⊕ (Unit ⊕ Bool)) :=
 if v6 < (a0.length : Int) then (gd (0 ≤ v6 ∧ v6 < a0.length) ((F119 (((a0.getD v6.toNat 0).toNat : Int)) 97 122).bind fun (x16 : Bool) => if ¬ (x16 = true) then ((F119 (((a0.getD v6.toNat 0).toNat : Int)) 65 90).bind fun (x17 : Bool) => if ¬ (x17 = true) then (if v6 = 0 then (some (.inr (.inr false))) else ((F119 (((a0.getD v6.toNat 0).toNat : Int)) 48 57).bind fun (x19 : Bool) => if ¬ (x19 = true) then (if ¬ (((a0.getD v6.toNat 0).toNat : Int)) = 45 then (some (.inr (.inr false))) else (some (.inl (IntKind.i64.wrap (v6 + 1))))) else (some (.inl (IntKind.i64.wrap (v6 + 1)))))) else (some (.inl (IntKind.i64.wrap (v6 + 1))))) else (some (.inl (IntKind.i64.wrap (v6 + 1)))))) else (some (.inr (.inl ())))

noncomputable def F80 (a0 : List UInt8) : Option Bool :=
 gd ((a0.length : Int) ≤ 9223372036854775807) ((loopO (fun (s : Int) => F80_b5 a0 s) 0).bind fun y => Sum.elim (fun (e : Unit) => F80_k5 a0) (fun (q : Bool) => some q) y)

theorem F80_ok {H : IHeap} {K : IEnd → IHeap → Prop} (a0 : List UInt8) {r : Bool} (h : F80 a0 = some r) (hK : K (.ret (.v (.bool r))) H) : ICalls prog 80 [.v (str a0)] H K := by
 refine ICalls_iwp (N := 43) func80 (by kernel_rfl) rfl (by kernel_rfl) (by kernel_rfl) fun cb hcb hw hbd hnb => ?_
 clear hbd hnb
 subst hcb
 unfold F80 at h
 refine wG ?_
 refine IWp_seqF fun cb hc2 => ?_
 refine IWp_seqF fun cb hc3 => ?_
 obtain ⟨g4, h⟩ := gd_some.1 h
 refine vG ?_
 refine IOper_toB a0 rfl (by kernel_rfl) underlying9 underlying131 underlying5 (by (simp -implicitDefEqProofs (disch := omega) [go_sem]; done)) (by omega) ?_
 refine sG ?_
 subst hc3
 obtain ⟨y5, hl5q, hk5⟩ := bind_some' h
 refine IWp_tailC (fun tm' H' => .inl () = y5 ∧ H = H' ∧ tm' 0 = .v (str a0)) ?_ fun cb hc5 => ?_
 ·rintro tm5e H5e ⟨rfl, rfl, t0_5e⟩
  have h : F80_k5 a0 = some r := hk5
  unfold F80_k5 at h
  simp -implicitDefEqProofs only [go_sem]
  subst hc2
  refine IWp_seqF fun cb hc7 => ?_
  refine vF t0_5e ?_
  refine splitG_f h rfl ?_ ?_
  ·intro c8 h
   refine sF t0_5e ?_
   subst hc7
   refine vO ?_
   obtain rfl := Option.some.inj h
   refine sG ?_
   exact retA (.refl hw) hK
  intro c8 h
  simp (disch := omega) at c8
  refine sG ?_
  subst hc7
  refine vO ?_
  obtain rfl := Option.some.inj h
  refine sG ?_
  exact retA (.refl hw) hK
 refine IWp_block ?_
 refine IWp_loopF (fun (s : Int) tm' H' => H = H' ∧ tm' 0 = .v (str a0) ∧ tm' 6 = .sl 1 (a0.map fun x => [.v (.int .u8 x.toNat)]) ∧ tm' 7 = .v (.int .i64 (a0.length : Int)) ∧ tm' 8 = .v (.int .i64 s)) hl5q ?_ ?_
 ·exact sm
 rintro I5 hI5 v6 x5 tm5 H5 ⟨rfl, t0_5, t6_5, t7_5, t8_5⟩ h hret5
 replace h : F80_b5 a0 v6 = some x5 := h
 unfold F80_b5 at h
 refine wF (nd t7_5 t8_5) ?_
 refine IWp_seqF fun cb hc10 => ?_
 refine IWp_cond_i h eA rfl ?_ ?_
 ·intro c11 h
  refine vO ?_
  subst hc10
  refine IWp_seqF fun cb hc12 => ?_
  refine IWp_block ?_
  obtain ⟨g14, h⟩ := gd_some.1 h
  refine wF (nd t6_5 t8_5) ?_
  refine IWp_seqF fun cb hc15 => ?_
  refine vG ?_
  obtain ⟨x16, hx16, h⟩ := bind_some' h
  refine ICalls.eqA eA (F119_ok (((a0.getD v6.toNat 0).toNat : Int)) 97 122 hx16 ?_)
  refine sG ?_
  refine splitG_f h eA ?_ ?_
  ·intro c25 h
   simp (disch := omega) at c25
   refine sG ?_
   obtain ⟨x17, hx17, h⟩ := bind_some' h
   refine ICalls.eqA eA (F119_ok (((a0.getD v6.toNat 0).toNat : Int)) 65 90 hx17 ?_)
   refine sG ?_
   refine splitG_f h eA ?_ ?_
   ·intro c24 h
    simp (disch := omega) at c24
    refine sG ?_
    refine splitG_f h rfl ?_ ?_
    ·intro c23 h
     refine sG ?_
     subst hc15
     refine IWp_cond_t eA rfl ?_
     refine wG ?_
     refine vO ?_
     obtain rfl := Option.some.inj h
     obtain rfl := hret5 _ rfl
     replace h : some false = some r := hk5
     obtain rfl := Option.some.inj h
     refine sG ?_
     exact retA (.refl hw) hK
    intro c23 h
    refine sG ?_
    obtain ⟨x19, hx19, h⟩ := bind_some' h
    refine ICalls.eqA eA (F119_ok (((a0.getD v6.toNat 0).toNat : Int)) 48 57 hx19 ?_)
    refine sG ?_
    refine splitG_f h eA ?_ ?_
    ·intro c22 h
     simp (disch := omega) at c22
     refine sG ?_
     subst hc15
     refine IWp_cond_i h eA rfl ?_ ?_
     ·intro c20 h
      simp (disch := omega) at c20
      refine wG ?_
      refine vO ?_
      obtain rfl := Option.some.inj h
      obtain rfl := hret5 _ rfl
      replace h : some false = some r := hk5
      obtain rfl := Option.some.inj h
      refine sG ?_
      exact retA (.refl hw) hK
     intro c20 h
     simp (disch := omega) at c20
     refine vO ?_
     subst hc12
     refine vF t8_5 ?_
     obtain rfl := Option.some.inj h
     refine loopN_mk hI5 (IntKind.i64.wrap (v6 + 1)) ?_
     exact smF (nd t0_5 (nd t6_5 t7_5))
    intro c22 h
    simp (disch := omega) at c22
    refine sG ?_
    subst hc15
    refine IWp_cond_f eA rfl ?_
    refine vO ?_
    subst hc12
    refine vF t8_5 ?_
    obtain rfl := Option.some.inj h
    refine loopN_mk hI5 (IntKind.i64.wrap (v6 + 1)) ?_
    exact smF (nd t0_5 (nd t6_5 t7_5))
   intro c24 h
   simp (disch := omega) at c24
   refine sG ?_
   subst hc15
   refine IWp_cond_f eA rfl ?_
   refine vO ?_
   subst hc12
   refine vF t8_5 ?_
   obtain rfl := Option.some.inj h
   refine loopN_mk hI5 (IntKind.i64.wrap (v6 + 1)) ?_
   exact smF (nd t0_5 (nd t6_5 t7_5))
  intro c25 h
  simp (disch := omega) at c25
  refine sG ?_
  subst hc15
  refine IWp_cond_f eA rfl ?_
  refine vO ?_
  subst hc12
  refine vF t8_5 ?_
  obtain rfl := Option.some.inj h
  refine loopN_mk hI5 (IntKind.i64.wrap (v6 + 1)) ?_
  exact smF (nd t0_5 (nd t6_5 t7_5))
 intro c11 h
 simp (disch := omega) at c11
 refine vO ?_
 obtain rfl := Option.some.inj h
 have hy5 := hret5 _ rfl
 refine hc5 _ _ ?_
 refine .same ⟨hy5, rfl, by (simp -implicitDefEqProofs (disch := omega) [go_sem, t0_5] <;> omega)⟩

/-! cardcase/dn.Check$1 -/

noncomputable def F79 (a0 : S89) : Option Bool :=
 (F80 a0.fType).bind fun (x3 : Bool) => if x3 = true then ((F81 a0.fType).bind fun (x4 : (List UInt8)) => if x4 = a0.fType then (if 1 ≤ (a0.fValue.length : Int) then (some (decide ((a0.fValue.length : Int) ≤ 200))) else (some false)) else (some false)) else (some false)

theorem F79_ok {H : IHeap} {K : IEnd → IHeap → Prop} (a0 : S89) {r : Bool} (h : F79 a0 = some r) (hK : K (.ret (.v (.bool r))) H) : ICalls prog 79 [.ag ([.v (str a0.fType), .v (str a0.fValue)])] H K := by
 refine ICalls_iwp (N := 26) func79 (by kernel_rfl) rfl (by kernel_rfl) (by kernel_rfl) fun cb hcb hw hbd hnb => ?_
 clear hbd hnb
 subst hcb
 unfold F79 at h
 refine wG ?_
 refine IWp_seqF fun cb hc2 => ?_
 refine IWp_drawP [2, 6] [0, 1, 2, 3, 4, 5, 6, 7, 8, 9, 10, 11, 12, 13, 14, 15, 16, 17, 18, 19, 20, 21, 22, 23] (by kernel_rfl) (by kernel_rfl) (fun _ _ _ _ h => h) ?_
 refine sG ?_
 obtain ⟨x3, hx3, h⟩ := bind_some' h
 refine PureC.mk _ (fun _ _ hK => F80_ok a0.fType hx3 hK) ?_
 refine splitG_f h eA ?_ ?_
 ·intro c7 h
  refine sG ?_
  obtain ⟨x4, hx4, h⟩ := bind_some' h
  refine PureC.mk _ (fun _ _ hK => F81_ok a0.fType hx4 hK) ?_
  refine sG ?_
  refine splitG_f h rfl ?_ ?_
  ·intro c6 h
   refine sG ?_
   refine splitG_f h rfl ?_ ?_
   ·intro c5 h
    refine sG ?_
    subst hc2
    refine vO ?_
    obtain rfl := Option.some.inj h
    refine sG ?_
    exact retA (.refl hw) hK
   intro c5 h
   simp (disch := omega) at c5
   refine sG ?_
   subst hc2
   refine vO ?_
   obtain rfl := Option.some.inj h
   refine sG ?_
   exact retA (.refl hw) hK
  intro c6 h
  refine sG ?_
  subst hc2
  refine vO ?_
  obtain rfl := Option.some.inj h
  refine sG ?_
  exact retA (.refl hw) hK
 intro c7 h
 simp (disch := omega) at c7
 refine sG ?_
 subst hc2
 refine vO ?_
 obtain rfl := Option.some.inj h
 refine sG ?_
 exact retA (.refl hw) hK

/-! cardcase/dn.each[cardcase/api.Rdn]$1 -/

noncomputable def F121 (a0 : S89) : Option Bool :=
 (F79 a0).bind fun (x3 : Bool) => some (!x3)

theorem F121_ok {H : IHeap} {K : IEnd → IHeap → Prop} (a0 : S89) (ka1 : Nat) (oka1 : H.obj ka1 = some (.cells ([.v (.func (.func 79) #[] #[])]))) {r : Bool} (h : F121 a0 = some r) (hK : K (.ret (.v (.bool r))) H) : ICalls prog 121 [.ag ([.v (str a0.fType), .v (str a0.fValue)]), .p ka1 0] H K := by
 refine ICalls_iwp (N := 8) func121 (by kernel_rfl) rfl (by kernel_rfl) (by kernel_rfl) fun cb hcb hw hbd hnb => ?_
 clear hbd hnb
 subst hcb
 unfold F121 at h
 have hka1 : ka1 < H.next := Nat.lt_of_not_le fun q => by rw [hw _ q] at oka1; cases oka1
 refine wG ?_
 refine IWp_seqF fun cb hc2 => ?_
 refine vF oka1 ?_
 obtain ⟨x3, hx3, h⟩ := bind_some' h
 refine F79_ok a0 hx3 ?_
 refine sG ?_
 subst hc2
 refine vO ?_
 obtain rfl := Option.some.inj h
 refine sG ?_
 exact retA (.refl hw) hK

/-! slices.IndexFunc[[]cardcase/api.Rdn,cardcase/api.Rdn] -/

noncomputable def F149_k4  : Option Int :=
 some (-1)

noncomputable def F149_b4 (a0 : List S89) (v5 : Int) : Option (Int ⊕ (Unit ⊕ Int)) :=
 if v5 < (a0.length : Int) then (gd (0 ≤ v5 ∧ v5 < a0.length) ((F121 (a0.getD v5.toNat S89.zero)).bind fun (x14 : Bool) => if x14 = true then (some (.inr (.inr v5))) else (some (.inl (IntKind.i64.wrap (v5 + 1)))))) else (some (.inr (.inl ())))

noncomputable def F149 (a0 : List S89) : Option Int :=
 (loopO (fun (s : Int) => F149_b4 a0 s) 0).bind fun y => Sum.elim (fun (e : Unit) => F149_k4) (fun (q : Int) => some q) y

theorem F149_ok {H : IHeap} {K : IEnd → IHeap → Prop} (a0 : List S89) (ka1_0 : Nat) (oka1_0 : H.obj ka1_0 = some (.cells ([.v (.func (.func 79) #[] #[])]))) {r : Int} (h : F149 a0 = some r) (hK : K (.ret (.v (.int .i64 r))) H) : ICalls prog 149 [.sl 2 (a0.map fun x => [.v (str x.fType), .v (str x.fValue)]), .fn (.func 121) [] [.p ka1_0 0]] H K := by
 refine ICalls_iwp (N := 19) func149 (by kernel_rfl) rfl (by kernel_rfl) (by kernel_rfl) fun cb hcb hw hbd hnb => ?_
 clear hbd hnb
 subst hcb
 unfold F149 at h
 have hka1_0 : ka1_0 < H.next := Nat.lt_of_not_le fun q => by rw [hw _ q] at oka1_0; cases oka1_0
 refine wG ?_
 refine IWp_seqF fun cb hc2 => ?_
 refine wG ?_
 obtain ⟨y4, hl4q, hk4⟩ := bind_some' h
 refine IWp_tailC (fun tm' H' => .inl () = y4 ∧ H = H') ?_ fun cb hc4 => ?_
 ·rintro tm4e H4e ⟨rfl, rfl⟩
  have h : F149_k4 = some r := hk4
  unfold F149_k4 at h
  simp -implicitDefEqProofs only [go_sem]
  subst hc2
  refine wG ?_
  refine vO ?_
  obtain rfl := Option.some.inj h
  refine sG ?_
  exact retA (.refl hw) hK
 refine IWp_block ?_
 refine IWp_loopF (fun (s : Int) tm' H' => H = H' ∧ tm' 0 = .sl 2 (a0.map fun x => [.v (str x.fType), .v (str x.fValue)]) ∧ tm' 1 = .fn (.func 121) [] [.p ka1_0 0] ∧ tm' 7 = .v (.int .i64 (a0.length : Int)) ∧ tm' 8 = .v (.int .i64 s)) hl4q ?_ ?_
 ·exact sm
 rintro I4 hI4 v5 x4 tm4 H4 ⟨rfl, t0_4, t1_4, t7_4, t8_4⟩ h hret4
 replace h : F149_b4 a0 v5 = some x4 := h
 unfold F149_b4 at h
 refine wF (nd t7_4 t8_4) ?_
 refine IWp_seqF fun cb hc8 => ?_
 refine IWp_cond_i h eA rfl ?_ ?_
 ·intro c9 h
  refine vO ?_
  subst hc8
  refine IWp_seqF fun cb hc10 => ?_
  refine IWp_block ?_
  refine wF t8_4 ?_
  refine IWp_seqF fun cb hc12 => ?_
  obtain ⟨g13, h⟩ := gd_some.1 h
  refine vF (nd t0_4 t1_4) ?_
  obtain ⟨x14, hx14, h⟩ := bind_some' h
  refine ICalls.eqA eA (F121_ok (a0.getD v5.toNat S89.zero) ka1_0 (by assumption) hx14 ?_)
  refine sG ?_
  subst hc12
  refine IWp_cond_i h eA rfl ?_ ?_
  ·intro c15 h
   refine wG ?_
   refine vO ?_
   obtain rfl := Option.some.inj h
   obtain rfl := hret4 _ rfl
   replace h : some v5 = some r := hk4
   obtain rfl := Option.some.inj h
   refine sG ?_
   exact retA (.refl hw) hK
  intro c15 h
  simp (disch := omega) at c15
  refine vO ?_
  subst hc10
  refine vF t8_4 ?_
  obtain rfl := Option.some.inj h
  refine loopN_mk hI4 (IntKind.i64.wrap (v5 + 1)) ?_
  exact smF (nd t0_4 (nd t1_4 t7_4))
 intro c9 h
 simp (disch := omega) at c9
 refine vO ?_
 obtain rfl := Option.some.inj h
 have hy4 := hret4 _ rfl
 refine hc4 _ _ ?_
 refine .same ⟨hy4, rfl⟩

/-! slices.ContainsFunc[[]cardcase/api.Rdn,cardcase/api.Rdn] -/

noncomputable def F120 (a0 : List S89) : Option Bool :=
 (F149 a0).bind fun (x3 : Int) => some (decide (0 ≤ x3))

theorem F120_ok {H : IHeap} {K : IEnd → IHeap → Prop} (a0 : List S89) (ka1_0 : Nat) (oka1_0 : H.obj ka1_0 = some (.cells ([.v (.func (.func 79) #[] #[])]))) {r : Bool} (h : F120 a0 = some r) (hK : K (.ret (.v (.bool r))) H) : ICalls prog 120 [.sl 2 (a0.map fun x => [.v (str x.fType), .v (str x.fValue)]), .fn (.func 121) [] [.p ka1_0 0]] H K := by
 refine ICalls_iwp (N := 9) func120 (by kernel_rfl) rfl (by kernel_rfl) (by kernel_rfl) fun cb hcb hw hbd hnb => ?_
 clear hbd hnb
 subst hcb
 unfold F120 at h
 have hka1_0 : ka1_0 < H.next := Nat.lt_of_not_le fun q => by rw [hw _ q] at oka1_0; cases oka1_0
 refine wG ?_
 refine IWp_seqF fun cb hc2 => ?_
 refine vG ?_
 obtain ⟨x3, hx3, h⟩ := bind_some' h
 refine F149_ok a0 ka1_0 (by assumption) hx3 ?_
 refine sG ?_
 subst hc2
 refine vO ?_
 obtain rfl := Option.some.inj h
 refine sG ?_
 exact retA (.refl hw) hK

/-! cardcase/dn.each[cardcase/api.Rdn] -/

noncomputable def F82 (a0 : List S89) : Option Bool :=
 (F120 a0).bind fun (x3 : Bool) => some (!x3)

theorem F82_ok {H : IHeap} {K : IEnd → IHeap → Prop} (a0 : List S89) {r : Bool} (h : F82 a0 = some r) (hK : K (.ret (.v (.bool r))) H) : ICalls prog 82 [.sl 2 (a0.map fun x => [.v (str x.fType), .v (str x.fValue)]), .v (.func (.func 79) #[] #[])] H K := by
 refine ICalls_iwp (N := 9) func82 (by kernel_rfl) rfl (by kernel_rfl) (by kernel_rfl) fun cb hcb hw hbd hnb => ?_
 clear hbd hnb
 subst hcb
 unfold F82 at h
 refine wG ?_
 refine IWp_seqF fun cb hc2 => ?_
 refine vG ?_
 obtain ⟨x3, hx3, h⟩ := bind_some' h
 refine F120_ok a0 H.next eA hx3 ?_
 refine sG ?_
 subst hc2
 refine vO ?_
 obtain rfl := Option.some.inj h
 refine sG ?_
 exact retA (.refl hw) hK

/-! cardcase/dn.Check -/

noncomputable def F54 (a0 : List S89) : Option Int :=
 if 16 < (a0.length : Int) then (some 2) else ((F82 a0).bind fun (x6 : Bool) => if ¬ (x6 = true) then (some 2) else (some 0))

theorem F54_ok {H : IHeap} {K : IEnd → IHeap → Prop} (a0 : List S89) {r : Int} (h : F54 a0 = some r) (hK : K (.ret (.v (.int .i64 r))) H) : ICalls prog 54 [.sl 2 (a0.map fun x => [.v (str x.fType), .v (str x.fValue)])] H K := by
 refine ICalls_iwp (N := 13) func54 (by kernel_rfl) rfl (by kernel_rfl) (by kernel_rfl) fun cb hcb hw hbd hnb => ?_
 clear hbd hnb
 subst hcb
 unfold F54 at h
 refine wG ?_
 refine wG ?_
 refine IWp_seqF fun cb hc3 => ?_
 refine IWp_seqF fun cb hc4 => ?_
 refine vG ?_
 refine splitG_f h rfl ?_ ?_
 ·intro c10 h
  refine sG ?_
  subst hc4
  refine IWp_cond_t eA rfl ?_
  refine wG ?_
  refine vO ?_
  obtain rfl := Option.some.inj h
  refine sG ?_
  exact retA (.refl hw) hK
 intro c10 h
 simp (disch := omega) at c10
 refine sG ?_
 obtain ⟨x6, hx6, h⟩ := bind_some' h
 refine F82_ok a0 hx6 ?_
 refine sG ?_
 subst hc4
 refine IWp_cond_i h eA rfl ?_ ?_
 ·intro c7 h
  simp (disch := omega) at c7
  refine wG ?_
  refine vO ?_
  obtain rfl := Option.some.inj h
  refine sG ?_
  exact retA (.refl hw) hK
 intro c7 h
 simp (disch := omega) at c7
 refine vO ?_
 subst hc3
 refine wG ?_
 refine vO ?_
 obtain rfl := Option.some.inj h
 refine sG ?_
 exact retA (.refl hw) hK

/-! (*cardcase/pairs.Pairs).Promise -/

noncomputable def F27 (a0_0_0 : List (List UInt8 × S39)) (a0_0_1 : List (List UInt8 × (List UInt8))) (a0_1 : Option S33) (a1 : S33) : Option (Int × (Option S33)) :=
 gd (a1.fShadow.length = 8) ((F53 a1.fUuid).bind fun (x4 : Bool) => if x4 = true then (if (a1.fDn.length : Int) = 0 then ((F42 a0_0_0 a0_0_1 a0_1).bind fun (x7 : Bool) => (F55 a1.fHref).bind fun (x9 : Bool) => if ¬ (x9 = true) then (some (2, a0_1)) else ((F56 a1.fShadow).bind fun (x11 : Int) => if ¬ x11 = 0 then (some (2, a0_1)) else ((F52 a1).bind fun (x15 : S33) => gd (x15.fShadow.length = 8) (some (0, some x15))))) else (if a1.fUuid = [] then (if 0 < (a1.fDn.length : Int) then ((F54 a1.fDn).bind fun (x20 : Int) => (F42 a0_0_0 a0_0_1 a0_1).bind fun (x23 : Bool) => if ¬ (x20 = 0) then (some (2, a0_1)) else ((F55 a1.fHref).bind fun (x26 : Bool) => if ¬ (x26 = true) then (some (2, a0_1)) else ((F56 a1.fShadow).bind fun (x28 : Int) => if ¬ x28 = 0 then (some (2, a0_1)) else ((F52 a1).bind fun (x32 : S33) => gd (x32.fShadow.length = 8) (some (0, some x32)))))) else ((F42 a0_0_0 a0_0_1 a0_1).bind fun (x40 : Bool) => some (2, a0_1))) else ((F42 a0_0_0 a0_0_1 a0_1).bind fun (x46 : Bool) => some (2, a0_1)))) else (if a1.fUuid = [] then (if 0 < (a1.fDn.length : Int) then ((F54 a1.fDn).bind fun (x51 : Int) => (F42 a0_0_0 a0_0_1 a0_1).bind fun (x54 : Bool) => if ¬ (x51 = 0) then (some (2, a0_1)) else ((F55 a1.fHref).bind fun (x57 : Bool) => if ¬ (x57 = true) then (some (2, a0_1)) else ((F56 a1.fShadow).bind fun (x59 : Int) => if ¬ x59 = 0 then (some (2, a0_1)) else ((F52 a1).bind fun (x63 : S33) => gd (x63.fShadow.length = 8) (some (0, some x63)))))) else ((F42 a0_0_0 a0_0_1 a0_1).bind fun (x71 : Bool) => some (2, a0_1))) else ((F42 a0_0_0 a0_0_1 a0_1).bind fun (x77 : Bool) => some (2, a0_1))))

theorem F27_ok {H : IHeap} {K : IEnd → IHeap → Prop} (a0_0_0 : List (List UInt8 × S39)) (a0_0_1 : List (List UInt8 × (List UInt8))) (a0_1 : Option S33) (a1 : S33) (ka0 : Nat) (ka0_0_0 : Nat) (ka0_0_1 : Nat) (oka0 : H.obj ka0 = some (.cells ([.mp ka0_0_0, .mp ka0_0_1, optP (fun (x : S33) => .v (str x.fHref) :: .v (str x.fUuid) :: .sl 2 (x.fDn.map fun x => [.v (str x.fType), .v (str x.fValue)]) :: (x.fShadow.map fun x => .sl 1 (x.map fun x => [.v (str x)]))) a0_1]))) (oka0_0_0 : H.obj ka0_0_0 = some (.map (mE (fun (x : S39) => .ag (.v (str x.fHref) :: .v (str x.fUuid) :: (x.fShadow.map fun x => .sl 1 (x.map fun x => [.v (str x)])))) a0_0_0))) (oka0_0_1 : H.obj ka0_0_1 = some (.map (mE (fun (x : List UInt8) => .v (str x)) a0_0_1))) {r : Int × (Option S33)} (h : F27 a0_0_0 a0_0_1 a0_1 a1 = some r) (hK : K (.ret (.v (.int .i64 r.1))) (setL H [(ka0, .cells ([.mp ka0_0_0, .mp ka0_0_1, optP (fun (x : S33) => .v (str x.fHref) :: .v (str x.fUuid) :: .sl 2 (x.fDn.map fun x => [.v (str x.fType), .v (str x.fValue)]) :: (x.fShadow.map fun x => .sl 1 (x.map fun x => [.v (str x)]))) r.2]))])) : ICalls prog 27 [.p ka0 0, .ag (.v (str a1.fHref) :: .v (str a1.fUuid) :: .sl 2 (a1.fDn.map fun x => [.v (str x.fType), .v (str x.fValue)]) :: (a1.fShadow.map fun x => .sl 1 (x.map fun x => [.v (str x)])))] H K := by
 refine ICalls_iwp (N := 55) func27 (by kernel_rfl) rfl (by kernel_rfl) (by kernel_rfl) fun cb hcb hw hbd hnb => ?_
 clear hbd hnb
 subst hcb
 unfold F27 at h
 have hka0 : ka0 < H.next := Nat.lt_of_not_le fun q => by rw [hw _ q] at oka0; cases oka0
 have hka0_0_0 : ka0_0_0 < H.next := Nat.lt_of_not_le fun q => by rw [hw _ q] at oka0_0_0; cases oka0_0_0
 have hka0_0_1 : ka0_0_1 < H.next := Nat.lt_of_not_le fun q => by rw [hw _ q] at oka0_0_1; cases oka0_0_1
 have hd0_1 : ¬ ka0 = ka0_0_0 := fun q => by rw [q] at oka0; rw [oka0] at oka0_0_0; cases oka0_0_0
 have hd1_0 : ¬ ka0_0_0 = ka0 := fun q => hd0_1 q.symm
 have hd0_2 : ¬ ka0 = ka0_0_1 := fun q => by rw [q] at oka0; rw [oka0] at oka0_0_1; cases oka0_0_1
 have hd2_0 : ¬ ka0_0_1 = ka0 := fun q => hd0_2 q.symm
 obtain ⟨g2, h⟩ := gd_some.1 h
 refine wG ?_
 refine IWp_seqF fun cb hc3 => ?_
 refine vF g2 ?_
 obtain ⟨x4, hx4, h⟩ := bind_some' h
 refine F53_ok a1.fUuid hx4 ?_
 refine sG ?_
 refine splitG_f h eA ?_ ?_
 ·intro c81 h
  refine sF g2 ?_
  refine splitG_f h eA ?_ ?_
  ·intro c50 h
   simp (disch := omega) at c50
   refine sG ?_
   subst hc3
   refine IWp_seqF fun cb hc5 => ?_
   refine IWp_block ?_
   refine IWp_seqF fun cb hc6 => ?_
   refine vG ?_
   obtain ⟨x7, hx7, h⟩ := bind_some' h
   cases (show some false = some x7 from hx7)
   refine F42_ok a0_0_0 a0_0_1 a0_1 ka0 ka0_0_0 ka0_0_1 (eF oka0) (eF oka0_0_0) (eF oka0_0_1) hx7 ?_
   refine sG ?_
   subst hc6
   refine IWp_cond_f eA rfl ?_
   refine IWp_seqF fun cb hc8 => ?_
   refine vF g2 ?_
   obtain ⟨x9, hx9, h⟩ := bind_some' h
   refine F55_ok a1.fHref hx9 ?_
   refine sG ?_
   refine splitG_f h eA ?_ ?_
   ·intro c19 h
    simp (disch := omega) at c19
    refine sG ?_
    subst hc8
    refine IWp_cond_t eA rfl ?_
    refine wG ?_
    refine vO ?_
    obtain rfl := Option.some.inj h
    refine sG ?_
    refine retG_fzE (J := setL H [(ka0, .cells ([.mp ka0_0_0, .mp ka0_0_1, optP (fun (x : S33) => .v (str x.fHref) :: .v (str x.fUuid) :: .sl 2 (x.fDn.map fun x => [.v (str x.fType), .v (str x.fValue)]) :: (x.fShadow.map fun x => .sl 1 (x.map fun x => [.v (str x)]))) a0_1]))]) (r' := .v (.int .i64 2)) (EndH.ioL [(ka0, .cells ([.mp ka0_0_0, .mp ka0_0_1, optP (fun (x : S33) => .v (str x.fHref) :: .v (str x.fUuid) :: .sl 2 (x.fDn.map fun x => [.v (str x.fType), .v (str x.fValue)]) :: (x.fShadow.map fun x => .sl 1 (x.map fun x => [.v (str x)]))) a0_1]))] (by simp only [delL_cons, delL_nil]; exact extA (Ext.delB (Ext.refl hw) ka0)) (by intro p hp; simp only [List.mem_cons, List.not_mem_nil, or_false] at hp; (try rcases hp with hp); all_goals (subst hp; refine ⟨by omega, by simp -implicitDefEqProofs (disch := omega) [go_sem, oka0], by exact nbLA⟩))) rfl (.same (by exact nbA)) hK
   intro c19 h
   simp (disch := omega) at c19
   refine sF g2 ?_
   obtain ⟨x11, hx11, h⟩ := bind_some' h
   refine F56_ok a1.fShadow hx11 ?_
   refine sG ?_
   subst hc8
   refine IWp_cond_i h eA rfl ?_ ?_
   ·intro c12 h
    refine wG ?_
    refine vO ?_
    obtain rfl := Option.some.inj h
    refine sG ?_
    refine retG_fzE (J := setL H [(ka0, .cells ([.mp ka0_0_0, .mp ka0_0_1, optP (fun (x : S33) => .v (str x.fHref) :: .v (str x.fUuid) :: .sl 2 (x.fDn.map fun x => [.v (str x.fType), .v (str x.fValue)]) :: (x.fShadow.map fun x => .sl 1 (x.map fun x => [.v (str x)]))) a0_1]))]) (r' := .v (.int .i64 2)) (EndH.ioL [(ka0, .cells ([.mp ka0_0_0, .mp ka0_0_1, optP (fun (x : S33) => .v (str x.fHref) :: .v (str x.fUuid) :: .sl 2 (x.fDn.map fun x => [.v (str x.fType), .v (str x.fValue)]) :: (x.fShadow.map fun x => .sl 1 (x.map fun x => [.v (str x)]))) a0_1]))] (by simp only [delL_cons, delL_nil]; exact extA (Ext.delB (Ext.refl hw) ka0)) (by intro p hp; simp only [List.mem_cons, List.not_mem_nil, or_false] at hp; (try rcases hp with hp); all_goals (subst hp; refine ⟨by omega, by simp -implicitDefEqProofs (disch := omega) [go_sem, oka0], by exact nbLA⟩))) rfl (.same (by exact nbA)) hK
   intro c12 h
   simp (disch := omega) at c12
   refine vO ?_
   subst hc5
   refine IWp_seqF fun cb hc14 => ?_
   refine vF g2 ?_
   obtain ⟨x15, hx15, h⟩ := bind_some' h
   refine F52_ok a1 hx15 ?_
   obtain ⟨g16, h⟩ := gd_some.1 h
   refine sF (nd g2 g16) ?_
   subst hc14
   refine IWp_seqF fun cb hc17 => ?_
   refine vF oka0 ?_
   refine IWp.gh (Gh.fzPtr (k := H.next) (kb := ka0) (ck := .v (str x15.fHref) :: .v (str x15.fUuid) :: .sl 2 (x15.fDn.map fun x => [.v (str x.fType), .v (str x.fValue)]) :: (x15.fShadow.map fun x => .sl 1 (x.map fun x => [.v (str x)]))) (cs := [.mp ka0_0_0, .mp ka0_0_1, .p H.next 0]) (cs' := [.mp ka0_0_0, .mp ka0_0_1, optP (fun (x : S33) => .v (str x.fHref) :: .v (str x.fUuid) :: .sl 2 (x.fDn.map fun x => [.v (str x.fType), .v (str x.fValue)]) :: (x.fShadow.map fun x => .sl 1 (x.map fun x => [.v (str x)]))) (some x15)]) eA eA (by omega) (by repeat (first | exact FzPL.nil | refine FzPL.cons ?_ ?_ | exact FzP.p | exact FzP.same _))) ?_
   subst hc17
   refine wG ?_
   refine vO ?_
   obtain rfl := Option.some.inj h
   refine sG ?_
   refine retG_fzE (J := setL H [(ka0, .cells ([.mp ka0_0_0, .mp ka0_0_1, optP (fun (x : S33) => .v (str x.fHref) :: .v (str x.fUuid) :: .sl 2 (x.fDn.map fun x => [.v (str x.fType), .v (str x.fValue)]) :: (x.fShadow.map fun x => .sl 1 (x.map fun x => [.v (str x)]))) (some x15)]))]) (r' := .v (.int .i64 0)) (EndH.ioL [(ka0, .cells ([.mp ka0_0_0, .mp ka0_0_1, optP (fun (x : S33) => .v (str x.fHref) :: .v (str x.fUuid) :: .sl 2 (x.fDn.map fun x => [.v (str x.fType), .v (str x.fValue)]) :: (x.fShadow.map fun x => .sl 1 (x.map fun x => [.v (str x)]))) (some x15)]))] (by simp only [delL_cons, delL_nil]; exact extA (Ext.delB (Ext.refl hw) ka0)) (by intro p hp; simp only [List.mem_cons, List.not_mem_nil, or_false] at hp; (try rcases hp with hp); all_goals (subst hp; refine ⟨by omega, by simp -implicitDefEqProofs (disch := omega) [go_sem], by exact nbLA⟩))) rfl (.same (by exact nbA)) hK
  intro c50 h
  simp (disch := omega) at c50
  refine sF g2 ?_
  refine splitG_f h rfl ?_ ?_
  ·intro c49 h
   refine sF g2 ?_
   refine splitG_f h eA ?_ ?_
   ·intro c43 h
    simp (disch := omega) at c43
    refine sF g2 ?_
    obtain ⟨x20, hx20, h⟩ := bind_some' h
    refine F54_ok a1.fDn hx20 ?_
    refine sG ?_
    subst hc3
    refine IWp_seqF fun cb hc21 => ?_
    refine IWp_block ?_
    refine IWp_seqF fun cb hc22 => ?_
    refine vG ?_
    obtain ⟨x23, hx23, h⟩ := bind_some' h
    cases (show some false = some x23 from hx23)
    refine F42_ok a0_0_0 a0_0_1 a0_1 ka0 ka0_0_0 ka0_0_1 (eF oka0) (eF oka0_0_0) (eF oka0_0_1) hx23 ?_
    refine sG ?_
    subst hc22
    refine IWp_cond_f eA rfl ?_
    refine IWp_seqF fun cb hc24 => ?_
    refine vG ?_
    refine splitG_f h eA ?_ ?_
    ·intro c37 h
     refine sG ?_
     subst hc24
     refine IWp_cond_t eA rfl ?_
     refine wG ?_
     refine vO ?_
     obtain rfl := Option.some.inj h
     refine sG ?_
     refine retG_fzE (J := setL H [(ka0, .cells ([.mp ka0_0_0, .mp ka0_0_1, optP (fun (x : S33) => .v (str x.fHref) :: .v (str x.fUuid) :: .sl 2 (x.fDn.map fun x => [.v (str x.fType), .v (str x.fValue)]) :: (x.fShadow.map fun x => .sl 1 (x.map fun x => [.v (str x)]))) a0_1]))]) (r' := .v (.int .i64 2)) (EndH.ioL [(ka0, .cells ([.mp ka0_0_0, .mp ka0_0_1, optP (fun (x : S33) => .v (str x.fHref) :: .v (str x.fUuid) :: .sl 2 (x.fDn.map fun x => [.v (str x.fType), .v (str x.fValue)]) :: (x.fShadow.map fun x => .sl 1 (x.map fun x => [.v (str x)]))) a0_1]))] (by simp only [delL_cons, delL_nil]; exact extA (Ext.delB (Ext.refl hw) ka0)) (by intro p hp; simp only [List.mem_cons, List.not_mem_nil, or_false] at hp; (try rcases hp with hp); all_goals (subst hp; refine ⟨by omega, by simp -implicitDefEqProofs (disch := omega) [go_sem, oka0], by exact nbLA⟩))) rfl (.same (by exact nbA)) hK
    intro c37 h
    simp (disch := omega) at c37
    refine sF g2 ?_
    obtain ⟨x26, hx26, h⟩ := bind_some' h
    refine F55_ok a1.fHref hx26 ?_
    refine sG ?_
    refine splitG_f h eA ?_ ?_
    ·intro c36 h
     simp (disch := omega) at c36
     refine sG ?_
     subst hc24
     refine IWp_cond_t eA rfl ?_
     refine wG ?_
     refine vO ?_
     obtain rfl := Option.some.inj h
     refine sG ?_
     refine retG_fzE (J := setL H [(ka0, .cells ([.mp ka0_0_0, .mp ka0_0_1, optP (fun (x : S33) => .v (str x.fHref) :: .v (str x.fUuid) :: .sl 2 (x.fDn.map fun x => [.v (str x.fType), .v (str x.fValue)]) :: (x.fShadow.map fun x => .sl 1 (x.map fun x => [.v (str x)]))) a0_1]))]) (r' := .v (.int .i64 2)) (EndH.ioL [(ka0, .cells ([.mp ka0_0_0, .mp ka0_0_1, optP (fun (x : S33) => .v (str x.fHref) :: .v (str x.fUuid) :: .sl 2 (x.fDn.map fun x => [.v (str x.fType), .v (str x.fValue)]) :: (x.fShadow.map fun x => .sl 1 (x.map fun x => [.v (str x)]))) a0_1]))] (by simp only [delL_cons, delL_nil]; exact extA (Ext.delB (Ext.refl hw) ka0)) (by intro p hp; simp only [List.mem_cons, List.not_mem_nil, or_false] at hp; (try rcases hp with hp); all_goals (subst hp; refine ⟨by omega, by simp -implicitDefEqProofs (disch := omega) [go_sem, oka0], by exact nbLA⟩))) rfl (.same (by exact nbA)) hK
    intro c36 h
    simp (disch := omega) at c36
    refine sF g2 ?_
    obtain ⟨x28, hx28, h⟩ := bind_some' h
    refine F56_ok a1.fShadow hx28 ?_
    refine sG ?_
    subst hc24
    refine IWp_cond_i h eA rfl ?_ ?_
    ·intro c29 h
     refine wG ?_
     refine vO ?_
     obtain rfl := Option.some.inj h
     refine sG ?_
     refine retG_fzE (J := setL H [(ka0, .cells ([.mp ka0_0_0, .mp ka0_0_1, optP (fun (x : S33) => .v (str x.fHref) :: .v (str x.fUuid) :: .sl 2 (x.fDn.map fun x => [.v (str x.fType), .v (str x.fValue)]) :: (x.fShadow.map fun x => .sl 1 (x.map fun x => [.v (str x)]))) a0_1]))]) (r' := .v (.int .i64 2)) (EndH.ioL [(ka0, .cells ([.mp ka0_0_0, .mp ka0_0_1, optP (fun (x : S33) => .v (str x.fHref) :: .v (str x.fUuid) :: .sl 2 (x.fDn.map fun x => [.v (str x.fType), .v (str x.fValue)]) :: (x.fShadow.map fun x => .sl 1 (x.map fun x => [.v (str x)]))) a0_1]))] (by simp only [delL_cons, delL_nil]; exact extA (Ext.delB (Ext.refl hw) ka0)) (by intro p hp; simp only [List.mem_cons, List.not_mem_nil, or_false] at hp; (try rcases hp with hp); all_goals (subst hp; refine ⟨by omega, by simp -implicitDefEqProofs (disch := omega) [go_sem, oka0], by exact nbLA⟩))) rfl (.same (by exact nbA)) hK
    intro c29 h
    simp (disch := omega) at c29
    refine vO ?_
    subst hc21
    refine IWp_seqF fun cb hc31 => ?_
    refine vF g2 ?_
    obtain ⟨x32, hx32, h⟩ := bind_some' h
    refine F52_ok a1 hx32 ?_
    obtain ⟨g33, h⟩ := gd_some.1 h
    refine sF (nd g2 g33) ?_
    subst hc31
    refine IWp_seqF fun cb hc34 => ?_
    refine vF oka0 ?_
    refine IWp.gh (Gh.fzPtr (k := H.next) (kb := ka0) (ck := .v (str x32.fHref) :: .v (str x32.fUuid) :: .sl 2 (x32.fDn.map fun x => [.v (str x.fType), .v (str x.fValue)]) :: (x32.fShadow.map fun x => .sl 1 (x.map fun x => [.v (str x)]))) (cs := [.mp ka0_0_0, .mp ka0_0_1, .p H.next 0]) (cs' := [.mp ka0_0_0, .mp ka0_0_1, optP (fun (x : S33) => .v (str x.fHref) :: .v (str x.fUuid) :: .sl 2 (x.fDn.map fun x => [.v (str x.fType), .v (str x.fValue)]) :: (x.fShadow.map fun x => .sl 1 (x.map fun x => [.v (str x)]))) (some x32)]) eA eA (by omega) (by repeat (first | exact FzPL.nil | refine FzPL.cons ?_ ?_ | exact FzP.p | exact FzP.same _))) ?_
    subst hc34
    refine wG ?_
    refine vO ?_
    obtain rfl := Option.some.inj h
    refine sG ?_
    refine retG_fzE (J := setL H [(ka0, .cells ([.mp ka0_0_0, .mp ka0_0_1, optP (fun (x : S33) => .v (str x.fHref) :: .v (str x.fUuid) :: .sl 2 (x.fDn.map fun x => [.v (str x.fType), .v (str x.fValue)]) :: (x.fShadow.map fun x => .sl 1 (x.map fun x => [.v (str x)]))) (some x32)]))]) (r' := .v (.int .i64 0)) (EndH.ioL [(ka0, .cells ([.mp ka0_0_0, .mp ka0_0_1, optP (fun (x : S33) => .v (str x.fHref) :: .v (str x.fUuid) :: .sl 2 (x.fDn.map fun x => [.v (str x.fType), .v (str x.fValue)]) :: (x.fShadow.map fun x => .sl 1 (x.map fun x => [.v (str x)]))) (some x32)]))] (by simp only [delL_cons, delL_nil]; exact extA (Ext.delB (Ext.refl hw) ka0)) (by intro p hp; simp only [List.mem_cons, List.not_mem_nil, or_false] at hp; (try rcases hp with hp); all_goals (subst hp; refine ⟨by omega, by simp -implicitDefEqProofs (disch := omega) [go_sem], by exact nbLA⟩))) rfl (.same (by exact nbA)) hK
   intro c43 h
   simp (disch := omega) at c43
   refine sG ?_
   subst hc3
   refine IWp_seqF fun cb hc38 => ?_
   refine IWp_block ?_
   refine IWp_seqF fun cb hc39 => ?_
   refine vG ?_
   obtain ⟨x40, hx40, h⟩ := bind_some' h
   cases (show some false = some x40 from hx40)
   refine F42_ok a0_0_0 a0_0_1 a0_1 ka0 ka0_0_0 ka0_0_1 (eF oka0) (eF oka0_0_0) (eF oka0_0_1) hx40 ?_
   refine sG ?_
   subst hc39
   refine IWp_cond_f eA rfl ?_
   refine wG ?_
   refine IWp_cond_t eA rfl ?_
   refine wG ?_
   refine vO ?_
   obtain rfl := Option.some.inj h
   refine sG ?_
   refine retG_fzE (J := setL H [(ka0, .cells ([.mp ka0_0_0, .mp ka0_0_1, optP (fun (x : S33) => .v (str x.fHref) :: .v (str x.fUuid) :: .sl 2 (x.fDn.map fun x => [.v (str x.fType), .v (str x.fValue)]) :: (x.fShadow.map fun x => .sl 1 (x.map fun x => [.v (str x)]))) a0_1]))]) (r' := .v (.int .i64 2)) (EndH.ioL [(ka0, .cells ([.mp ka0_0_0, .mp ka0_0_1, optP (fun (x : S33) => .v (str x.fHref) :: .v (str x.fUuid) :: .sl 2 (x.fDn.map fun x => [.v (str x.fType), .v (str x.fValue)]) :: (x.fShadow.map fun x => .sl 1 (x.map fun x => [.v (str x)]))) a0_1]))] (by simp only [delL_cons, delL_nil]; exact extA (Ext.delB (Ext.refl hw) ka0)) (by intro p hp; simp only [List.mem_cons, List.not_mem_nil, or_false] at hp; (try rcases hp with hp); all_goals (subst hp; refine ⟨by omega, by simp -implicitDefEqProofs (disch := omega) [go_sem, oka0], by exact nbLA⟩))) rfl (.same (by exact nbA)) hK
  intro c49 h
  refine sG ?_
  subst hc3
  refine IWp_seqF fun cb hc44 => ?_
  refine IWp_block ?_
  refine IWp_seqF fun cb hc45 => ?_
  refine vG ?_
  obtain ⟨x46, hx46, h⟩ := bind_some' h
  cases (show some false = some x46 from hx46)
  refine F42_ok a0_0_0 a0_0_1 a0_1 ka0 ka0_0_0 ka0_0_1 (eF oka0) (eF oka0_0_0) (eF oka0_0_1) hx46 ?_
  refine sG ?_
  subst hc45
  refine IWp_cond_f eA rfl ?_
  refine wG ?_
  refine IWp_cond_t eA rfl ?_
  refine wG ?_
  refine vO ?_
  obtain rfl := Option.some.inj h
  refine sG ?_
  refine retG_fzE (J := setL H [(ka0, .cells ([.mp ka0_0_0, .mp ka0_0_1, optP (fun (x : S33) => .v (str x.fHref) :: .v (str x.fUuid) :: .sl 2 (x.fDn.map fun x => [.v (str x.fType), .v (str x.fValue)]) :: (x.fShadow.map fun x => .sl 1 (x.map fun x => [.v (str x)]))) a0_1]))]) (r' := .v (.int .i64 2)) (EndH.ioL [(ka0, .cells ([.mp ka0_0_0, .mp ka0_0_1, optP (fun (x : S33) => .v (str x.fHref) :: .v (str x.fUuid) :: .sl 2 (x.fDn.map fun x => [.v (str x.fType), .v (str x.fValue)]) :: (x.fShadow.map fun x => .sl 1 (x.map fun x => [.v (str x)]))) a0_1]))] (by simp only [delL_cons, delL_nil]; exact extA (Ext.delB (Ext.refl hw) ka0)) (by intro p hp; simp only [List.mem_cons, List.not_mem_nil, or_false] at hp; (try rcases hp with hp); all_goals (subst hp; refine ⟨by omega, by simp -implicitDefEqProofs (disch := omega) [go_sem, oka0], by exact nbLA⟩))) rfl (.same (by exact nbA)) hK
 intro c81 h
 simp (disch := omega) at c81
 refine sF g2 ?_
 refine splitG_f h rfl ?_ ?_
 ·intro c80 h
  refine sF g2 ?_
  refine splitG_f h eA ?_ ?_
  ·intro c74 h
   simp (disch := omega) at c74
   refine sF g2 ?_
   obtain ⟨x51, hx51, h⟩ := bind_some' h
   refine F54_ok a1.fDn hx51 ?_
   refine sG ?_
   subst hc3
   refine IWp_seqF fun cb hc52 => ?_
   refine IWp_block ?_
   refine IWp_seqF fun cb hc53 => ?_
   refine vG ?_
   obtain ⟨x54, hx54, h⟩ := bind_some' h
   cases (show some false = some x54 from hx54)
   refine F42_ok a0_0_0 a0_0_1 a0_1 ka0 ka0_0_0 ka0_0_1 (eF oka0) (eF oka0_0_0) (eF oka0_0_1) hx54 ?_
   refine sG ?_
   subst hc53
   refine IWp_cond_f eA rfl ?_
   refine IWp_seqF fun cb hc55 => ?_
   refine vG ?_
   refine splitG_f h eA ?_ ?_
   ·intro c68 h
    refine sG ?_
    subst hc55
    refine IWp_cond_t eA rfl ?_
    refine wG ?_
    refine vO ?_
    obtain rfl := Option.some.inj h
    refine sG ?_
    refine retG_fzE (J := setL H [(ka0, .cells ([.mp ka0_0_0, .mp ka0_0_1, optP (fun (x : S33) => .v (str x.fHref) :: .v (str x.fUuid) :: .sl 2 (x.fDn.map fun x => [.v (str x.fType), .v (str x.fValue)]) :: (x.fShadow.map fun x => .sl 1 (x.map fun x => [.v (str x)]))) a0_1]))]) (r' := .v (.int .i64 2)) (EndH.ioL [(ka0, .cells ([.mp ka0_0_0, .mp ka0_0_1, optP (fun (x : S33) => .v (str x.fHref) :: .v (str x.fUuid) :: .sl 2 (x.fDn.map fun x => [.v (str x.fType), .v (str x.fValue)]) :: (x.fShadow.map fun x => .sl 1 (x.map fun x => [.v (str x)]))) a0_1]))] (by simp only [delL_cons, delL_nil]; exact extA (Ext.delB (Ext.refl hw) ka0)) (by intro p hp; simp only [List.mem_cons, List.not_mem_nil, or_false] at hp; (try rcases hp with hp); all_goals (subst hp; refine ⟨by omega, by simp -implicitDefEqProofs (disch := omega) [go_sem, oka0], by exact nbLA⟩))) rfl (.same (by exact nbA)) hK
   intro c68 h
   simp (disch := omega) at c68
   refine sF g2 ?_
   obtain ⟨x57, hx57, h⟩ := bind_some' h
   refine F55_ok a1.fHref hx57 ?_
   refine sG ?_
   refine splitG_f h eA ?_ ?_
   ·intro c67 h
    simp (disch := omega) at c67
    refine sG ?_
    subst hc55
    refine IWp_cond_t eA rfl ?_
    refine wG ?_
    refine vO ?_
    obtain rfl := Option.some.inj h
    refine sG ?_
    refine retG_fzE (J := setL H [(ka0, .cells ([.mp ka0_0_0, .mp ka0_0_1, optP (fun (x : S33) => .v (str x.fHref) :: .v (str x.fUuid) :: .sl 2 (x.fDn.map fun x => [.v (str x.fType), .v (str x.fValue)]) :: (x.fShadow.map fun x => .sl 1 (x.map fun x => [.v (str x)]))) a0_1]))]) (r' := .v (.int .i64 2)) (EndH.ioL [(ka0, .cells ([.mp ka0_0_0, .mp ka0_0_1, optP (fun (x : S33) => .v (str x.fHref) :: .v (str x.fUuid) :: .sl 2 (x.fDn.map fun x => [.v (str x.fType), .v (str x.fValue)]) :: (x.fShadow.map fun x => .sl 1 (x.map fun x => [.v (str x)]))) a0_1]))] (by simp only [delL_cons, delL_nil]; exact extA (Ext.delB (Ext.refl hw) ka0)) (by intro p hp; simp only [List.mem_cons, List.not_mem_nil, or_false] at hp; (try rcases hp with hp); all_goals (subst hp; refine ⟨by omega, by simp -implicitDefEqProofs (disch := omega) [go_sem, oka0], by exact nbLA⟩))) rfl (.same (by exact nbA)) hK
   intro c67 h
   simp (disch := omega) at c67
   refine sF g2 ?_
   obtain ⟨x59, hx59, h⟩ := bind_some' h
   refine F56_ok a1.fShadow hx59 ?_
   refine sG ?_
   subst hc55
   refine IWp_cond_i h eA rfl ?_ ?_
   ·intro c60 h
    refine wG ?_
    refine vO ?_
    obtain rfl := Option.some.inj h
    refine sG ?_
    refine retG_fzE (J := setL H [(ka0, .cells ([.mp ka0_0_0, .mp ka0_0_1, optP (fun (x : S33) => .v (str x.fHref) :: .v (str x.fUuid) :: .sl 2 (x.fDn.map fun x => [.v (str x.fType), .v (str x.fValue)]) :: (x.fShadow.map fun x => .sl 1 (x.map fun x => [.v (str x)]))) a0_1]))]) (r' := .v (.int .i64 2)) (EndH.ioL [(ka0, .cells ([.mp ka0_0_0, .mp ka0_0_1, optP (fun (x : S33) => .v (str x.fHref) :: .v (str x.fUuid) :: .sl 2 (x.fDn.map fun x => [.v (str x.fType), .v (str x.fValue)]) :: (x.fShadow.map fun x => .sl 1 (x.map fun x => [.v (str x)]))) a0_1]))] (by simp only [delL_cons, delL_nil]; exact extA (Ext.delB (Ext.refl hw) ka0)) (by intro p hp; simp only [List.mem_cons, List.not_mem_nil, or_false] at hp; (try rcases hp with hp); all_goals (subst hp; refine ⟨by omega, by simp -implicitDefEqProofs (disch := omega) [go_sem, oka0], by exact nbLA⟩))) rfl (.same (by exact nbA)) hK
   intro c60 h
   simp (disch := omega) at c60
   refine vO ?_
   subst hc52
   refine IWp_seqF fun cb hc62 => ?_
   refine vF g2 ?_
   obtain ⟨x63, hx63, h⟩ := bind_some' h
   refine F52_ok a1 hx63 ?_
   obtain ⟨g64, h⟩ := gd_some.1 h
   refine sF (nd g2 g64) ?_
   subst hc62
   refine IWp_seqF fun cb hc65 => ?_
   refine vF oka0 ?_
   refine IWp.gh (Gh.fzPtr (k := H.next) (kb := ka0) (ck := .v (str x63.fHref) :: .v (str x63.fUuid) :: .sl 2 (x63.fDn.map fun x => [.v (str x.fType), .v (str x.fValue)]) :: (x63.fShadow.map fun x => .sl 1 (x.map fun x => [.v (str x)]))) (cs := [.mp ka0_0_0, .mp ka0_0_1, .p H.next 0]) (cs' := [.mp ka0_0_0, .mp ka0_0_1, optP (fun (x : S33) => .v (str x.fHref) :: .v (str x.fUuid) :: .sl 2 (x.fDn.map fun x => [.v (str x.fType), .v (str x.fValue)]) :: (x.fShadow.map fun x => .sl 1 (x.map fun x => [.v (str x)]))) (some x63)]) eA eA (by omega) (by repeat (first | exact FzPL.nil | refine FzPL.cons ?_ ?_ | exact FzP.p | exact FzP.same _))) ?_
   subst hc65
   refine wG ?_
   refine vO ?_
   obtain rfl := Option.some.inj h
   refine sG ?_
   refine retG_fzE (J := setL H [(ka0, .cells ([.mp ka0_0_0, .mp ka0_0_1, optP (fun (x : S33) => .v (str x.fHref) :: .v (str x.fUuid) :: .sl 2 (x.fDn.map fun x => [.v (str x.fType), .v (str x.fValue)]) :: (x.fShadow.map fun x => .sl 1 (x.map fun x => [.v (str x)]))) (some x63)]))]) (r' := .v (.int .i64 0)) (EndH.ioL [(ka0, .cells ([.mp ka0_0_0, .mp ka0_0_1, optP (fun (x : S33) => .v (str x.fHref) :: .v (str x.fUuid) :: .sl 2 (x.fDn.map fun x => [.v (str x.fType), .v (str x.fValue)]) :: (x.fShadow.map fun x => .sl 1 (x.map fun x => [.v (str x)]))) (some x63)]))] (by simp only [delL_cons, delL_nil]; exact extA (Ext.delB (Ext.refl hw) ka0)) (by intro p hp; simp only [List.mem_cons, List.not_mem_nil, or_false] at hp; (try rcases hp with hp); all_goals (subst hp; refine ⟨by omega, by simp -implicitDefEqProofs (disch := omega) [go_sem], by exact nbLA⟩))) rfl (.same (by exact nbA)) hK
  intro c74 h
  simp (disch := omega) at c74
  refine sG ?_
  subst hc3
  refine IWp_seqF fun cb hc69 => ?_
  refine IWp_block ?_
  refine IWp_seqF fun cb hc70 => ?_
  refine vG ?_
  obtain ⟨x71, hx71, h⟩ := bind_some' h
  cases (show some false = some x71 from hx71)
  refine F42_ok a0_0_0 a0_0_1 a0_1 ka0 ka0_0_0 ka0_0_1 (eF oka0) (eF oka0_0_0) (eF oka0_0_1) hx71 ?_
  refine sG ?_
  subst hc70
  refine IWp_cond_f eA rfl ?_
  refine wG ?_
  refine IWp_cond_t eA rfl ?_
  refine wG ?_
  refine vO ?_
  obtain rfl := Option.some.inj h
  refine sG ?_
  refine retG_fzE (J := setL H [(ka0, .cells ([.mp ka0_0_0, .mp ka0_0_1, optP (fun (x : S33) => .v (str x.fHref) :: .v (str x.fUuid) :: .sl 2 (x.fDn.map fun x => [.v (str x.fType), .v (str x.fValue)]) :: (x.fShadow.map fun x => .sl 1 (x.map fun x => [.v (str x)]))) a0_1]))]) (r' := .v (.int .i64 2)) (EndH.ioL [(ka0, .cells ([.mp ka0_0_0, .mp ka0_0_1, optP (fun (x : S33) => .v (str x.fHref) :: .v (str x.fUuid) :: .sl 2 (x.fDn.map fun x => [.v (str x.fType), .v (str x.fValue)]) :: (x.fShadow.map fun x => .sl 1 (x.map fun x => [.v (str x)]))) a0_1]))] (by simp only [delL_cons, delL_nil]; exact extA (Ext.delB (Ext.refl hw) ka0)) (by intro p hp; simp only [List.mem_cons, List.not_mem_nil, or_false] at hp; (try rcases hp with hp); all_goals (subst hp; refine ⟨by omega, by simp -implicitDefEqProofs (disch := omega) [go_sem, oka0], by exact nbLA⟩))) rfl (.same (by exact nbA)) hK
 intro c80 h
 refine sG ?_
 subst hc3
 refine IWp_seqF fun cb hc75 => ?_
 refine IWp_block ?_
 refine IWp_seqF fun cb hc76 => ?_
 refine vG ?_
 obtain ⟨x77, hx77, h⟩ := bind_some' h
 cases (show some false = some x77 from hx77)
 refine F42_ok a0_0_0 a0_0_1 a0_1 ka0 ka0_0_0 ka0_0_1 (eF oka0) (eF oka0_0_0) (eF oka0_0_1) hx77 ?_
 refine sG ?_
 subst hc76
 refine IWp_cond_f eA rfl ?_
 refine wG ?_
 refine IWp_cond_t eA rfl ?_
 refine wG ?_
 refine vO ?_
 obtain rfl := Option.some.inj h
 refine sG ?_
 refine retG_fzE (J := setL H [(ka0, .cells ([.mp ka0_0_0, .mp ka0_0_1, optP (fun (x : S33) => .v (str x.fHref) :: .v (str x.fUuid) :: .sl 2 (x.fDn.map fun x => [.v (str x.fType), .v (str x.fValue)]) :: (x.fShadow.map fun x => .sl 1 (x.map fun x => [.v (str x)]))) a0_1]))]) (r' := .v (.int .i64 2)) (EndH.ioL [(ka0, .cells ([.mp ka0_0_0, .mp ka0_0_1, optP (fun (x : S33) => .v (str x.fHref) :: .v (str x.fUuid) :: .sl 2 (x.fDn.map fun x => [.v (str x.fType), .v (str x.fValue)]) :: (x.fShadow.map fun x => .sl 1 (x.map fun x => [.v (str x)]))) a0_1]))] (by simp only [delL_cons, delL_nil]; exact extA (Ext.delB (Ext.refl hw) ka0)) (by intro p hp; simp only [List.mem_cons, List.not_mem_nil, or_false] at hp; (try rcases hp with hp); all_goals (subst hp; refine ⟨by omega, by simp -implicitDefEqProofs (disch := omega) [go_sem, oka0], by exact nbLA⟩))) rfl (.same (by exact nbA)) hK

/-! (*cardcase/pairs.Pairs).Set -/

noncomputable def F30 (a0_0_0 : List (List UInt8 × S39)) (a0_0_1 : List (List UInt8 × (List UInt8))) (a0_1 : Option S33) (a1 : List UInt8) (a2 : List (List (List UInt8))) : Option (Int × (List (List UInt8 × S39)) × (List (List UInt8 × (List UInt8)))) :=
 gd (a2.length = 8) ((F42 a0_0_0 a0_0_1 a0_1).bind fun (x5 : Bool) => (F56 a2).bind fun (x7 : Int) => if ¬ x7 = 0 then (some (2, a0_0_0, a0_0_1)) else (gd ((((mget a0_0_0 a1).getD S39.zero).fShadow).length = 8) (if ¬ ((mget a0_0_0 a1).isSome = true) then (some (5, a0_0_0, a0_0_1)) else ((F58 a2).bind fun (x17 : (List (List (List UInt8)))) => gd (x17.length = 8) ((F49 a0_0_0 a0_0_1 ((⟨((mget a0_0_0 a1).getD S39.zero).fHref, ((mget a0_0_0 a1).getD S39.zero).fUuid, x17⟩ : S39))).bind fun (x20 : (List (List UInt8 × S39)) × (List (List UInt8 × (List UInt8)))) => some (0, x20.1, x20.2))))))

theorem F30_ok {H : IHeap} {K : IEnd → IHeap → Prop} (a0_0_0 : List (List UInt8 × S39)) (a0_0_1 : List (List UInt8 × (List UInt8))) (a0_1 : Option S33) (a1 : List UInt8) (a2 : List (List (List UInt8))) (ka0 : Nat) (ka0_0_0 : Nat) (ka0_0_1 : Nat) (oka0 : H.obj ka0 = some (.cells ([.mp ka0_0_0, .mp ka0_0_1, optP (fun (x : S33) => .v (str x.fHref) :: .v (str x.fUuid) :: .sl 2 (x.fDn.map fun x => [.v (str x.fType), .v (str x.fValue)]) :: (x.fShadow.map fun x => .sl 1 (x.map fun x => [.v (str x)]))) a0_1]))) (oka0_0_0 : H.obj ka0_0_0 = some (.map (mE (fun (x : S39) => .ag (.v (str x.fHref) :: .v (str x.fUuid) :: (x.fShadow.map fun x => .sl 1 (x.map fun x => [.v (str x)])))) a0_0_0))) (oka0_0_1 : H.obj ka0_0_1 = some (.map (mE (fun (x : List UInt8) => .v (str x)) a0_0_1))) (hd1_2 : ¬ ka0_0_0 = ka0_0_1) {r : Int × (List (List UInt8 × S39)) × (List (List UInt8 × (List UInt8)))} (h : F30 a0_0_0 a0_0_1 a0_1 a1 a2 = some r) (hK : K (.ret (.v (.int .i64 r.1))) (setL H [(ka0_0_0, .map (mE (fun (x : S39) => .ag (.v (str x.fHref) :: .v (str x.fUuid) :: (x.fShadow.map fun x => .sl 1 (x.map fun x => [.v (str x)])))) r.2.1)), (ka0_0_1, .map (mE (fun (x : List UInt8) => .v (str x)) r.2.2))])) : ICalls prog 30 [.p ka0 0, .v (str a1), .ag (a2.map fun x => .sl 1 (x.map fun x => [.v (str x)]))] H K := by
 refine ICalls_iwp (N := 37) func30 (by kernel_rfl) rfl (by kernel_rfl) (by kernel_rfl) fun cb hcb hw hbd hnb => ?_
 clear hbd hnb
 subst hcb
 unfold F30 at h
 have hka0 : ka0 < H.next := Nat.lt_of_not_le fun q => by rw [hw _ q] at oka0; cases oka0
 have hka0_0_0 : ka0_0_0 < H.next := Nat.lt_of_not_le fun q => by rw [hw _ q] at oka0_0_0; cases oka0_0_0
 have hka0_0_1 : ka0_0_1 < H.next := Nat.lt_of_not_le fun q => by rw [hw _ q] at oka0_0_1; cases oka0_0_1
 have hd0_1 : ¬ ka0 = ka0_0_0 := fun q => by rw [q] at oka0; rw [oka0] at oka0_0_0; cases oka0_0_0
 have hd1_0 : ¬ ka0_0_0 = ka0 := fun q => hd0_1 q.symm
 have hd0_2 : ¬ ka0 = ka0_0_1 := fun q => by rw [q] at oka0; rw [oka0] at oka0_0_1; cases oka0_0_1
 have hd2_0 : ¬ ka0_0_1 = ka0 := fun q => hd0_2 q.symm
 have hd2_1 : ¬ ka0_0_1 = ka0_0_0 := fun q => hd1_2 q.symm
 obtain ⟨g2, h⟩ := gd_some.1 h
 refine wG ?_
 refine IWp_seqF fun cb hc3 => ?_
 refine IWp_block ?_
 refine IWp_seqF fun cb hc4 => ?_
 refine vG ?_
 obtain ⟨x5, hx5, h⟩ := bind_some' h
 cases (show some false = some x5 from hx5)
 refine F42_ok a0_0_0 a0_0_1 a0_1 ka0 ka0_0_0 ka0_0_1 (eF oka0) (eF oka0_0_0) (eF oka0_0_1) hx5 ?_
 refine sG ?_
 subst hc4
 refine IWp_cond_f eA rfl ?_
 refine IWp_seqF fun cb hc6 => ?_
 refine vF g2 ?_
 obtain ⟨x7, hx7, h⟩ := bind_some' h
 refine F56_ok a2 hx7 ?_
 refine sG ?_
 subst hc6
 refine IWp_cond_i h eA rfl ?_ ?_
 ·intro c8 h
  refine wG ?_
  refine vO ?_
  obtain rfl := Option.some.inj h
  refine sG ?_
  refine retG_fzE (J := setL H [(ka0_0_0, .map (mE (fun (x : S39) => .ag (.v (str x.fHref) :: .v (str x.fUuid) :: (x.fShadow.map fun x => .sl 1 (x.map fun x => [.v (str x)])))) a0_0_0)), (ka0_0_1, .map (mE (fun (x : List UInt8) => .v (str x)) a0_0_1))]) (r' := .v (.int .i64 2)) (EndH.ioL [(ka0_0_0, .map (mE (fun (x : S39) => .ag (.v (str x.fHref) :: .v (str x.fUuid) :: (x.fShadow.map fun x => .sl 1 (x.map fun x => [.v (str x)])))) a0_0_0)), (ka0_0_1, .map (mE (fun (x : List UInt8) => .v (str x)) a0_0_1))] (by simp only [delL_cons, delL_nil]; exact extA (Ext.delB (Ext.delB (Ext.refl hw) ka0_0_0) ka0_0_1)) (by intro p hp; simp only [List.mem_cons, List.not_mem_nil, or_false] at hp; (try rcases hp with hp | hp); all_goals (subst hp; refine ⟨by omega, by simp -implicitDefEqProofs (disch := omega) [go_sem, oka0_0_0, oka0_0_1], by exact nboA⟩))) rfl (.same (by exact nbA)) hK
 intro c8 h
 simp (disch := omega) at c8
 refine vO ?_
 subst hc3
 refine IWp_seqF fun cb hc10 => ?_
 refine v0 ?_
 have hmL58 := @lkI_mE _ (fun (x : S39) => .ag (.v (str x.fHref) :: .v (str x.fUuid) :: (x.fShadow.map fun x => .sl 1 (x.map fun x => [.v (str x)]))))
 have hmT58 := fun o => okI_t (fun (x : S39) => .ag (.v (str x.fHref) :: .v (str x.fUuid) :: (x.fShadow.map fun x => .sl 1 (x.map fun x => [.v (str x)])))) S39.zero (z := .ag [.v (.string ⟨#[]⟩), .v (.string ⟨#[]⟩), .sl 1 [], .sl 1 [], .sl 1 [], .sl 1 [], .sl 1 [], .sl 1 [], .sl 1 [], .sl 1 []]) (o := o) (by rfl)
 obtain ⟨g11, h⟩ := gd_some.1 h
 refine sF (nd oka0_0_0 (nd oka0 (nd @hmL58 (nd @hmT58 g11)))) ?_
 subst hc10
 refine IWp_seqF fun cb hc12 => ?_
 refine wG ?_
 refine IWp_cond_i h eA rfl ?_ ?_
 ·intro c14 h
  simp (disch := omega) at c14
  refine wG ?_
  refine vO ?_
  obtain rfl := Option.some.inj h
  refine sG ?_
  refine retG_fzE (J := setL H [(ka0_0_0, .map (mE (fun (x : S39) => .ag (.v (str x.fHref) :: .v (str x.fUuid) :: (x.fShadow.map fun x => .sl 1 (x.map fun x => [.v (str x)])))) a0_0_0)), (ka0_0_1, .map (mE (fun (x : List UInt8) => .v (str x)) a0_0_1))]) (r' := .v (.int .i64 5)) (EndH.ioL [(ka0_0_0, .map (mE (fun (x : S39) => .ag (.v (str x.fHref) :: .v (str x.fUuid) :: (x.fShadow.map fun x => .sl 1 (x.map fun x => [.v (str x)])))) a0_0_0)), (ka0_0_1, .map (mE (fun (x : List UInt8) => .v (str x)) a0_0_1))] (by simp only [delL_cons, delL_nil]; exact extA (Ext.delB (Ext.delB (Ext.refl hw) ka0_0_0) ka0_0_1)) (by intro p hp; simp only [List.mem_cons, List.not_mem_nil, or_false] at hp; (try rcases hp with hp | hp); all_goals (subst hp; refine ⟨by omega, by simp -implicitDefEqProofs (disch := omega) [go_sem, oka0_0_0, oka0_0_1], by exact nboA⟩))) rfl (.same (by exact nbA)) hK
 intro c14 h
 simp (disch := omega) at c14
 refine vO ?_
 subst hc12
 refine IWp_seqF fun cb hc16 => ?_
 refine vF g2 ?_
 obtain ⟨x17, hx17, h⟩ := bind_some' h
 refine F58_ok a2 hx17 ?_
 obtain ⟨g18, h⟩ := gd_some.1 h
 refine sF (nd g11 g18) ?_
 subst hc16
 refine IWp_seqF fun cb hc19 => ?_
 refine IWp_drawP [] [0, 1, 2, 3, 4, 5] (by kernel_rfl) (by kernel_rfl) (fun _ _ _ _ h => h) ?_
 refine sF (nd oka0 g18) ?_
 obtain ⟨x20, hx20, h⟩ := bind_some' h
 refine ICalls.wkL (args' := [.ag [.mp ka0_0_0, .mp ka0_0_1], .ag (.v (str (((⟨((mget a0_0_0 a1).getD S39.zero).fHref, ((mget a0_0_0 a1).getD S39.zero).fUuid, x17⟩ : S39)).fHref)) :: .v (str (((⟨((mget a0_0_0 a1).getD S39.zero).fHref, ((mget a0_0_0 a1).getD S39.zero).fUuid, x17⟩ : S39)).fUuid)) :: ((((⟨((mget a0_0_0 a1).getD S39.zero).fHref, ((mget a0_0_0 a1).getD S39.zero).fUuid, x17⟩ : S39)).fShadow).map fun x => .sl 1 (x.map fun x => [.v (str x)])))]) (by repeat (first | exact WkL.nil | refine WkL.cons ?_ ?_ | exact Wk.refl _)) (F49_ok a0_0_0 a0_0_1 ((⟨((mget a0_0_0 a1).getD S39.zero).fHref, ((mget a0_0_0 a1).getD S39.zero).fUuid, x17⟩ : S39)) ka0_0_0 ka0_0_1 (eF oka0_0_0) (eF oka0_0_1) (by assumption) hx20 ?_)
 refine sF (nd oka0 g18) ?_
 subst hc19
 refine wG ?_
 refine vO ?_
 obtain rfl := Option.some.inj h
 refine sG ?_
 refine retG_fzE (J := setL H [(ka0_0_0, .map (mE (fun (x : S39) => .ag (.v (str x.fHref) :: .v (str x.fUuid) :: (x.fShadow.map fun x => .sl 1 (x.map fun x => [.v (str x)])))) x20.1)), (ka0_0_1, .map (mE (fun (x : List UInt8) => .v (str x)) x20.2))]) (r' := .v (.int .i64 0)) (EndH.ioL [(ka0_0_0, .map (mE (fun (x : S39) => .ag (.v (str x.fHref) :: .v (str x.fUuid) :: (x.fShadow.map fun x => .sl 1 (x.map fun x => [.v (str x)])))) x20.1)), (ka0_0_1, .map (mE (fun (x : List UInt8) => .v (str x)) x20.2))] (by simp only [delL_cons, delL_nil]; exact extA (Ext.delB (Ext.delB (Ext.refl hw) ka0_0_0) ka0_0_1)) (by intro p hp; simp only [List.mem_cons, List.not_mem_nil, or_false] at hp; (try rcases hp with hp | hp); all_goals (subst hp; refine ⟨by omega, by simp -implicitDefEqProofs (disch := omega) [go_sem], by exact nboA⟩))) rfl (.same (by exact nbA)) hK

end Go.Idl

namespace Go.Idl

set_option maxHeartbeats 8000000

set_option pp.deepTerms false

set_option maxRecDepth 60000

open Go Go.Proofs.Tryz

/-! (cardcase/pairs.table).cut -/

noncomputable def F59 (a0_0 : List (List UInt8 × S39)) (a0_1 : List (List UInt8 × (List UInt8))) (a1 : List UInt8) : Option ((List (List UInt8 × S39)) × (List (List UInt8 × (List UInt8)))) :=
 some ((mdel a0_0 a1, mdel a0_1 (((mget a0_0 a1).getD S39.zero).fUuid)))

theorem F59_ok {H : IHeap} {K : IEnd → IHeap → Prop} (a0_0 : List (List UInt8 × S39)) (a0_1 : List (List UInt8 × (List UInt8))) (a1 : List UInt8) (ka0_0 : Nat) (ka0_1 : Nat) (oka0_0 : H.obj ka0_0 = some (.map (mE (fun (x : S39) => .ag (.v (str x.fHref) :: .v (str x.fUuid) :: (x.fShadow.map fun x => .sl 1 (x.map fun x => [.v (str x)])))) a0_0))) (oka0_1 : H.obj ka0_1 = some (.map (mE (fun (x : List UInt8) => .v (str x)) a0_1))) (hd0_1 : ¬ ka0_0 = ka0_1) {r : (List (List UInt8 × S39)) × (List (List UInt8 × (List UInt8)))} (h : F59 a0_0 a0_1 a1 = some r) (hK : K (.ret (.tu [])) (setL H [(ka0_0, .map (mE (fun (x : S39) => .ag (.v (str x.fHref) :: .v (str x.fUuid) :: (x.fShadow.map fun x => .sl 1 (x.map fun x => [.v (str x)])))) r.1)), (ka0_1, .map (mE (fun (x : List UInt8) => .v (str x)) r.2))])) : ICalls prog 59 [.ag [.mp ka0_0, .mp ka0_1], .v (str a1)] H K := by
 refine ICalls_iwp (N := 14) func59 (by kernel_rfl) rfl (by kernel_rfl) (by kernel_rfl) fun cb hcb hw hbd hnb => ?_
 clear hbd hnb
 subst hcb
 unfold F59 at h
 have hka0_0 : ka0_0 < H.next := Nat.lt_of_not_le fun q => by rw [hw _ q] at oka0_0; cases oka0_0
 have hka0_1 : ka0_1 < H.next := Nat.lt_of_not_le fun q => by rw [hw _ q] at oka0_1; cases oka0_1
 have hd1_0 : ¬ ka0_1 = ka0_0 := fun q => hd0_1 q.symm
 refine wG ?_
 refine IWp_seqF fun cb hc2 => ?_
 refine v0 ?_
 have hmL58 := @lkI_mE _ (fun (x : S39) => .ag (.v (str x.fHref) :: .v (str x.fUuid) :: (x.fShadow.map fun x => .sl 1 (x.map fun x => [.v (str x)]))))
 have hmF58 := fun o => okI_f (fun (x : S39) => .ag (.v (str x.fHref) :: .v (str x.fUuid) :: (x.fShadow.map fun x => .sl 1 (x.map fun x => [.v (str x)])))) S39.zero (z := .ag [.v (.string ⟨#[]⟩), .v (.string ⟨#[]⟩), .sl 1 [], .sl 1 [], .sl 1 [], .sl 1 [], .sl 1 [], .sl 1 [], .sl 1 [], .sl 1 []]) (o := o) (by rfl)
 have hmD59 := @delI_mE _ (fun (x : List UInt8) => .v (str x))
 refine sF (nd oka0_0 (nd oka0_1 (nd @hmL58 (nd @hmF58 @hmD59)))) ?_
 subst hc2
 refine v0 ?_
 have hmD58 := @delI_mE _ (fun (x : S39) => .ag (.v (str x.fHref) :: .v (str x.fUuid) :: (x.fShadow.map fun x => .sl 1 (x.map fun x => [.v (str x)]))))
 refine sF (nd oka0_0 @hmD58) ?_
 obtain rfl := Option.some.inj h
 refine retG_fzE (J := setL H [(ka0_0, .map (mE (fun (x : S39) => .ag (.v (str x.fHref) :: .v (str x.fUuid) :: (x.fShadow.map fun x => .sl 1 (x.map fun x => [.v (str x)])))) (mdel a0_0 a1))), (ka0_1, .map (mE (fun (x : List UInt8) => .v (str x)) (mdel a0_1 (((mget a0_0 a1).getD S39.zero).fUuid))))]) (r' := .tu []) (EndH.ioL [(ka0_0, .map (mE (fun (x : S39) => .ag (.v (str x.fHref) :: .v (str x.fUuid) :: (x.fShadow.map fun x => .sl 1 (x.map fun x => [.v (str x)])))) (mdel a0_0 a1))), (ka0_1, .map (mE (fun (x : List UInt8) => .v (str x)) (mdel a0_1 (((mget a0_0 a1).getD S39.zero).fUuid))))] (by simp only [delL_cons, delL_nil]; exact extA (Ext.delB (Ext.delB (Ext.refl hw) ka0_0) ka0_1)) (by intro p hp; simp only [List.mem_cons, List.not_mem_nil, or_false] at hp; (try rcases hp with hp | hp); all_goals (subst hp; refine ⟨by omega, by simp -implicitDefEqProofs (disch := omega) [go_sem], by exact nboA⟩))) rfl (.same (by exact nbA)) hK

/-! (*cardcase/pairs.Pairs).Drop -/

noncomputable def F32 (a0_0_0 : List (List UInt8 × S39)) (a0_0_1 : List (List UInt8 × (List UInt8))) (a0_1 : Option S33) (a1 : List UInt8) : Option (Int × (List (List UInt8 × S39)) × (List (List UInt8 × (List UInt8)))) :=
 (F42 a0_0_0 a0_0_1 a0_1).bind fun (x4 : Bool) => gd ((((mget a0_0_0 a1).getD S39.zero).fShadow).length = 8) (if ¬ ((mget a0_0_0 a1).isSome = true) then (some (5, a0_0_0, a0_0_1)) else ((F59 a0_0_0 a0_0_1 a1).bind fun (x12 : (List (List UInt8 × S39)) × (List (List UInt8 × (List UInt8)))) => some (0, x12.1, x12.2)))

theorem F32_ok {H : IHeap} {K : IEnd → IHeap → Prop} (a0_0_0 : List (List UInt8 × S39)) (a0_0_1 : List (List UInt8 × (List UInt8))) (a0_1 : Option S33) (a1 : List UInt8) (ka0 : Nat) (ka0_0_0 : Nat) (ka0_0_1 : Nat) (oka0 : H.obj ka0 = some (.cells ([.mp ka0_0_0, .mp ka0_0_1, optP (fun (x : S33) => .v (str x.fHref) :: .v (str x.fUuid) :: .sl 2 (x.fDn.map fun x => [.v (str x.fType), .v (str x.fValue)]) :: (x.fShadow.map fun x => .sl 1 (x.map fun x => [.v (str x)]))) a0_1]))) (oka0_0_0 : H.obj ka0_0_0 = some (.map (mE (fun (x : S39) => .ag (.v (str x.fHref) :: .v (str x.fUuid) :: (x.fShadow.map fun x => .sl 1 (x.map fun x => [.v (str x)])))) a0_0_0))) (oka0_0_1 : H.obj ka0_0_1 = some (.map (mE (fun (x : List UInt8) => .v (str x)) a0_0_1))) (hd1_2 : ¬ ka0_0_0 = ka0_0_1) {r : Int × (List (List UInt8 × S39)) × (List (List UInt8 × (List UInt8)))} (h : F32 a0_0_0 a0_0_1 a0_1 a1 = some r) (hK : K (.ret (.v (.int .i64 r.1))) (setL H [(ka0_0_0, .map (mE (fun (x : S39) => .ag (.v (str x.fHref) :: .v (str x.fUuid) :: (x.fShadow.map fun x => .sl 1 (x.map fun x => [.v (str x)])))) r.2.1)), (ka0_0_1, .map (mE (fun (x : List UInt8) => .v (str x)) r.2.2))])) : ICalls prog 32 [.p ka0 0, .v (str a1)] H K := by
 refine ICalls_iwp (N := 27) func32 (by kernel_rfl) rfl (by kernel_rfl) (by kernel_rfl) fun cb hcb hw hbd hnb => ?_
 clear hbd hnb
 subst hcb
 unfold F32 at h
 have hka0 : ka0 < H.next := Nat.lt_of_not_le fun q => by rw [hw _ q] at oka0; cases oka0
 have hka0_0_0 : ka0_0_0 < H.next := Nat.lt_of_not_le fun q => by rw [hw _ q] at oka0_0_0; cases oka0_0_0
 have hka0_0_1 : ka0_0_1 < H.next := Nat.lt_of_not_le fun q => by rw [hw _ q] at oka0_0_1; cases oka0_0_1
 have hd0_1 : ¬ ka0 = ka0_0_0 := fun q => by rw [q] at oka0; rw [oka0] at oka0_0_0; cases oka0_0_0
 have hd1_0 : ¬ ka0_0_0 = ka0 := fun q => hd0_1 q.symm
 have hd0_2 : ¬ ka0 = ka0_0_1 := fun q => by rw [q] at oka0; rw [oka0] at oka0_0_1; cases oka0_0_1
 have hd2_0 : ¬ ka0_0_1 = ka0 := fun q => hd0_2 q.symm
 have hd2_1 : ¬ ka0_0_1 = ka0_0_0 := fun q => hd1_2 q.symm
 refine wG ?_
 refine IWp_seqF fun cb hc2 => ?_
 refine IWp_seqF fun cb hc3 => ?_
 refine vG ?_
 obtain ⟨x4, hx4, h⟩ := bind_some' h
 cases (show some false = some x4 from hx4)
 refine F42_ok a0_0_0 a0_0_1 a0_1 ka0 ka0_0_0 ka0_0_1 (by assumption) (by assumption) (by assumption) hx4 ?_
 refine sG ?_
 subst hc3
 refine IWp_cond_f eA rfl ?_
 refine vO ?_
 subst hc2
 refine IWp_seqF fun cb hc5 => ?_
 refine IWp_seqF fun cb hc6 => ?_
 refine v0 ?_
 have hmL58 := @lkI_mE _ (fun (x : S39) => .ag (.v (str x.fHref) :: .v (str x.fUuid) :: (x.fShadow.map fun x => .sl 1 (x.map fun x => [.v (str x)]))))
 have hmT58 := fun o => okI_t (fun (x : S39) => .ag (.v (str x.fHref) :: .v (str x.fUuid) :: (x.fShadow.map fun x => .sl 1 (x.map fun x => [.v (str x)])))) S39.zero (z := .ag [.v (.string ⟨#[]⟩), .v (.string ⟨#[]⟩), .sl 1 [], .sl 1 [], .sl 1 [], .sl 1 [], .sl 1 [], .sl 1 [], .sl 1 [], .sl 1 []]) (o := o) (by rfl)
 obtain ⟨g7, h⟩ := gd_some.1 h
 refine sF (nd oka0_0_0 (nd oka0 (nd @hmL58 (nd @hmT58 g7)))) ?_
 subst hc6
 refine wG ?_
 refine IWp_cond_i h eA rfl ?_ ?_
 ·intro c9 h
  simp (disch := omega) at c9
  refine wG ?_
  refine vO ?_
  obtain rfl := Option.some.inj h
  refine sG ?_
  refine retG_fzE (J := setL H [(ka0_0_0, .map (mE (fun (x : S39) => .ag (.v (str x.fHref) :: .v (str x.fUuid) :: (x.fShadow.map fun x => .sl 1 (x.map fun x => [.v (str x)])))) a0_0_0)), (ka0_0_1, .map (mE (fun (x : List UInt8) => .v (str x)) a0_0_1))]) (r' := .v (.int .i64 5)) (EndH.ioL [(ka0_0_0, .map (mE (fun (x : S39) => .ag (.v (str x.fHref) :: .v (str x.fUuid) :: (x.fShadow.map fun x => .sl 1 (x.map fun x => [.v (str x)])))) a0_0_0)), (ka0_0_1, .map (mE (fun (x : List UInt8) => .v (str x)) a0_0_1))] (by simp only [delL_cons, delL_nil]; exact extA (Ext.delB (Ext.delB (Ext.refl hw) ka0_0_0) ka0_0_1)) (by intro p hp; simp only [List.mem_cons, List.not_mem_nil, or_false] at hp; (try rcases hp with hp | hp); all_goals (subst hp; refine ⟨by omega, by simp -implicitDefEqProofs (disch := omega) [go_sem, oka0_0_0, oka0_0_1], by exact nboA⟩))) rfl (.same (by exact nbA)) hK
 intro c9 h
 simp (disch := omega) at c9
 refine vO ?_
 subst hc5
 refine IWp_seqF fun cb hc11 => ?_
 refine vF oka0 ?_
 obtain ⟨x12, hx12, h⟩ := bind_some' h
 refine ICalls.wkL (args' := [.ag [.mp ka0_0_0, .mp ka0_0_1], .v (str a1)]) (by repeat (first | exact WkL.nil | refine WkL.cons ?_ ?_ | exact Wk.refl _)) (F59_ok a0_0_0 a0_0_1 a1 ka0_0_0 ka0_0_1 (eF oka0_0_0) (eF oka0_0_1) (by assumption) hx12 ?_)
 refine sG ?_
 subst hc11
 refine wG ?_
 refine vO ?_
 obtain rfl := Option.some.inj h
 refine sG ?_
 refine retG_fzE (J := setL H [(ka0_0_0, .map (mE (fun (x : S39) => .ag (.v (str x.fHref) :: .v (str x.fUuid) :: (x.fShadow.map fun x => .sl 1 (x.map fun x => [.v (str x)])))) x12.1)), (ka0_0_1, .map (mE (fun (x : List UInt8) => .v (str x)) x12.2))]) (r' := .v (.int .i64 0)) (EndH.ioL [(ka0_0_0, .map (mE (fun (x : S39) => .ag (.v (str x.fHref) :: .v (str x.fUuid) :: (x.fShadow.map fun x => .sl 1 (x.map fun x => [.v (str x)])))) x12.1)), (ka0_0_1, .map (mE (fun (x : List UInt8) => .v (str x)) x12.2))] (by simp only [delL_cons, delL_nil]; exact extA (Ext.delB (Ext.delB (Ext.refl hw) ka0_0_0) ka0_0_1)) (by intro p hp; simp only [List.mem_cons, List.not_mem_nil, or_false] at hp; (try rcases hp with hp | hp); all_goals (subst hp; refine ⟨by omega, by simp -implicitDefEqProofs (disch := omega) [go_sem], by exact nboA⟩))) rfl (.same (by exact nbA)) hK

/-! (*cardcase/pairs.Pairs).Clear -/

noncomputable def F28 (a0_0_0 : List (List UInt8 × S39)) (a0_0_1 : List (List UInt8 × (List UInt8))) (a0_1 : Option S33) : Option (Int × (Option S33)) :=
 (F42 a0_0_0 a0_0_1 a0_1).bind fun (x4 : Bool) => some (0, none)

theorem F28_ok {H : IHeap} {K : IEnd → IHeap → Prop} (a0_0_0 : List (List UInt8 × S39)) (a0_0_1 : List (List UInt8 × (List UInt8))) (a0_1 : Option S33) (ka0 : Nat) (ka0_0_0 : Nat) (ka0_0_1 : Nat) (oka0 : H.obj ka0 = some (.cells ([.mp ka0_0_0, .mp ka0_0_1, optP (fun (x : S33) => .v (str x.fHref) :: .v (str x.fUuid) :: .sl 2 (x.fDn.map fun x => [.v (str x.fType), .v (str x.fValue)]) :: (x.fShadow.map fun x => .sl 1 (x.map fun x => [.v (str x)]))) a0_1]))) (oka0_0_0 : H.obj ka0_0_0 = some (.map (mE (fun (x : S39) => .ag (.v (str x.fHref) :: .v (str x.fUuid) :: (x.fShadow.map fun x => .sl 1 (x.map fun x => [.v (str x)])))) a0_0_0))) (oka0_0_1 : H.obj ka0_0_1 = some (.map (mE (fun (x : List UInt8) => .v (str x)) a0_0_1))) {r : Int × (Option S33)} (h : F28 a0_0_0 a0_0_1 a0_1 = some r) (hK : K (.ret (.v (.int .i64 r.1))) (setL H [(ka0, .cells ([.mp ka0_0_0, .mp ka0_0_1, optP (fun (x : S33) => .v (str x.fHref) :: .v (str x.fUuid) :: .sl 2 (x.fDn.map fun x => [.v (str x.fType), .v (str x.fValue)]) :: (x.fShadow.map fun x => .sl 1 (x.map fun x => [.v (str x)]))) r.2]))])) : ICalls prog 28 [.p ka0 0] H K := by
 refine ICalls_iwp (N := 8) func28 (by kernel_rfl) rfl (by kernel_rfl) (by kernel_rfl) fun cb hcb hw hbd hnb => ?_
 clear hbd hnb
 subst hcb
 unfold F28 at h
 have hka0 : ka0 < H.next := Nat.lt_of_not_le fun q => by rw [hw _ q] at oka0; cases oka0
 have hka0_0_0 : ka0_0_0 < H.next := Nat.lt_of_not_le fun q => by rw [hw _ q] at oka0_0_0; cases oka0_0_0
 have hka0_0_1 : ka0_0_1 < H.next := Nat.lt_of_not_le fun q => by rw [hw _ q] at oka0_0_1; cases oka0_0_1
 have hd0_1 : ¬ ka0 = ka0_0_0 := fun q => by rw [q] at oka0; rw [oka0] at oka0_0_0; cases oka0_0_0
 have hd1_0 : ¬ ka0_0_0 = ka0 := fun q => hd0_1 q.symm
 have hd0_2 : ¬ ka0 = ka0_0_1 := fun q => by rw [q] at oka0; rw [oka0] at oka0_0_1; cases oka0_0_1
 have hd2_0 : ¬ ka0_0_1 = ka0 := fun q => hd0_2 q.symm
 refine wG ?_
 refine IWp_seqF fun cb hc2 => ?_
 refine IWp_seqF fun cb hc3 => ?_
 refine vG ?_
 obtain ⟨x4, hx4, h⟩ := bind_some' h
 cases (show some false = some x4 from hx4)
 refine F42_ok a0_0_0 a0_0_1 a0_1 ka0 ka0_0_0 ka0_0_1 (by assumption) (by assumption) (by assumption) hx4 ?_
 refine sG ?_
 subst hc3
 refine IWp_cond_f eA rfl ?_
 refine vO ?_
 subst hc2
 refine wF oka0 ?_
 refine wG ?_
 refine vO ?_
 obtain rfl := Option.some.inj h
 refine sG ?_
 refine retG_fzE (J := setL H [(ka0, .cells ([.mp ka0_0_0, .mp ka0_0_1, optP (fun (x : S33) => .v (str x.fHref) :: .v (str x.fUuid) :: .sl 2 (x.fDn.map fun x => [.v (str x.fType), .v (str x.fValue)]) :: (x.fShadow.map fun x => .sl 1 (x.map fun x => [.v (str x)]))) none]))]) (r' := .v (.int .i64 0)) (EndH.ioL [(ka0, .cells ([.mp ka0_0_0, .mp ka0_0_1, optP (fun (x : S33) => .v (str x.fHref) :: .v (str x.fUuid) :: .sl 2 (x.fDn.map fun x => [.v (str x.fType), .v (str x.fValue)]) :: (x.fShadow.map fun x => .sl 1 (x.map fun x => [.v (str x)]))) none]))] (by simp only [delL_cons, delL_nil]; exact extA (Ext.delB (Ext.refl hw) ka0)) (by intro p hp; simp only [List.mem_cons, List.not_mem_nil, or_false] at hp; (try rcases hp with hp); all_goals (subst hp; refine ⟨by omega, by simp -implicitDefEqProofs (disch := omega) [go_sem], by exact nbLA⟩))) rfl (.same (by exact nbA)) hK

/-! (*cardcase/pairs.Pairs).Len -/

noncomputable def F34 (a0_0_0 : List (List UInt8 × S39)) (a0_0_1 : List (List UInt8 × (List UInt8))) (a0_1 : Option S33) : Option Int :=
 (F42 a0_0_0 a0_0_1 a0_1).bind fun (x4 : Bool) => some (a0_0_0.length : Int)

theorem F34_ok {H : IHeap} {K : IEnd → IHeap → Prop} (a0_0_0 : List (List UInt8 × S39)) (a0_0_1 : List (List UInt8 × (List UInt8))) (a0_1 : Option S33) (ka0 : Nat) (ka0_0_0 : Nat) (ka0_0_1 : Nat) (oka0 : H.obj ka0 = some (.cells ([.mp ka0_0_0, .mp ka0_0_1, optP (fun (x : S33) => .v (str x.fHref) :: .v (str x.fUuid) :: .sl 2 (x.fDn.map fun x => [.v (str x.fType), .v (str x.fValue)]) :: (x.fShadow.map fun x => .sl 1 (x.map fun x => [.v (str x)]))) a0_1]))) (oka0_0_0 : H.obj ka0_0_0 = some (.map (mE (fun (x : S39) => .ag (.v (str x.fHref) :: .v (str x.fUuid) :: (x.fShadow.map fun x => .sl 1 (x.map fun x => [.v (str x)])))) a0_0_0))) (oka0_0_1 : H.obj ka0_0_1 = some (.map (mE (fun (x : List UInt8) => .v (str x)) a0_0_1))) {r : Int} (h : F34 a0_0_0 a0_0_1 a0_1 = some r) (hK : K (.ret (.v (.int .i64 r))) H) : ICalls prog 34 [.p ka0 0] H K := by
 refine ICalls_iwp (N := 11) func34 (by kernel_rfl) rfl (by kernel_rfl) (by kernel_rfl) fun cb hcb hw hbd hnb => ?_
 clear hbd hnb
 subst hcb
 unfold F34 at h
 have hka0 : ka0 < H.next := Nat.lt_of_not_le fun q => by rw [hw _ q] at oka0; cases oka0
 have hka0_0_0 : ka0_0_0 < H.next := Nat.lt_of_not_le fun q => by rw [hw _ q] at oka0_0_0; cases oka0_0_0
 have hka0_0_1 : ka0_0_1 < H.next := Nat.lt_of_not_le fun q => by rw [hw _ q] at oka0_0_1; cases oka0_0_1
 refine wG ?_
 refine IWp_seqF fun cb hc2 => ?_
 refine IWp_seqF fun cb hc3 => ?_
 refine vG ?_
 obtain ⟨x4, hx4, h⟩ := bind_some' h
 cases (show some false = some x4 from hx4)
 refine F42_ok a0_0_0 a0_0_1 a0_1 ka0 ka0_0_0 ka0_0_1 (by assumption) (by assumption) (by assumption) hx4 ?_
 refine sG ?_
 subst hc3
 refine IWp_cond_f eA rfl ?_
 refine vO ?_
 subst hc2
 refine wF (nd oka0_0_0 oka0) ?_
 refine vO ?_
 obtain rfl := Option.some.inj h
 refine sG ?_
 exact retA (.refl hw) hK

/-! (*cardcase/pairs.Pairs).Card -/

noncomputable def F21 (a0_0_0 : List (List UInt8 × S39)) (a0_0_1 : List (List UInt8 × (List UInt8))) (a0_1 : Option S33) (a1 : List UInt8) : Option (S39 × Bool) :=
 (F42 a0_0_0 a0_0_1 a0_1).bind fun (x4 : Bool) => gd ((((mget a0_0_0 a1).getD S39.zero).fShadow).length = 8) ((F45 ((mget a0_0_0 a1).getD S39.zero)).bind fun (x8 : S39) => gd (x8.fShadow.length = 8) (some ((x8, (mget a0_0_0 a1).isSome))))

theorem F21_ok {H : IHeap} {K : IEnd → IHeap → Prop} (a0_0_0 : List (List UInt8 × S39)) (a0_0_1 : List (List UInt8 × (List UInt8))) (a0_1 : Option S33) (a1 : List UInt8) (ka0 : Nat) (ka0_0_0 : Nat) (ka0_0_1 : Nat) (oka0 : H.obj ka0 = some (.cells ([.mp ka0_0_0, .mp ka0_0_1, optP (fun (x : S33) => .v (str x.fHref) :: .v (str x.fUuid) :: .sl 2 (x.fDn.map fun x => [.v (str x.fType), .v (str x.fValue)]) :: (x.fShadow.map fun x => .sl 1 (x.map fun x => [.v (str x)]))) a0_1]))) (oka0_0_0 : H.obj ka0_0_0 = some (.map (mE (fun (x : S39) => .ag (.v (str x.fHref) :: .v (str x.fUuid) :: (x.fShadow.map fun x => .sl 1 (x.map fun x => [.v (str x)])))) a0_0_0))) (oka0_0_1 : H.obj ka0_0_1 = some (.map (mE (fun (x : List UInt8) => .v (str x)) a0_0_1))) {r : S39 × Bool} (h : F21 a0_0_0 a0_0_1 a0_1 a1 = some r) (hK : K (.ret (.tu [.ag (.v (str r.1.fHref) :: .v (str r.1.fUuid) :: (r.1.fShadow.map fun x => .sl 1 (x.map fun x => [.v (str x)]))), .v (.bool r.2)])) H) : ICalls prog 21 [.p ka0 0, .v (str a1)] H K := by
 refine ICalls_iwp (N := 24) func21 (by kernel_rfl) rfl (by kernel_rfl) (by kernel_rfl) fun cb hcb hw hbd hnb => ?_
 clear hbd hnb
 subst hcb
 unfold F21 at h
 have hka0 : ka0 < H.next := Nat.lt_of_not_le fun q => by rw [hw _ q] at oka0; cases oka0
 have hka0_0_0 : ka0_0_0 < H.next := Nat.lt_of_not_le fun q => by rw [hw _ q] at oka0_0_0; cases oka0_0_0
 have hka0_0_1 : ka0_0_1 < H.next := Nat.lt_of_not_le fun q => by rw [hw _ q] at oka0_0_1; cases oka0_0_1
 refine wG ?_
 refine IWp_seqF fun cb hc2 => ?_
 refine IWp_seqF fun cb hc3 => ?_
 refine vG ?_
 obtain ⟨x4, hx4, h⟩ := bind_some' h
 cases (show some false = some x4 from hx4)
 refine F42_ok a0_0_0 a0_0_1 a0_1 ka0 ka0_0_0 ka0_0_1 (eF oka0) (eF oka0_0_0) (eF oka0_0_1) hx4 ?_
 refine sG ?_
 subst hc3
 refine IWp_cond_f eA rfl ?_
 refine vO ?_
 subst hc2
 refine IWp_seqF fun cb hc5 => ?_
 refine v0 ?_
 have hmL58 := @lkI_mE _ (fun (x : S39) => .ag (.v (str x.fHref) :: .v (str x.fUuid) :: (x.fShadow.map fun x => .sl 1 (x.map fun x => [.v (str x)]))))
 have hmT58 := fun o => okI_t (fun (x : S39) => .ag (.v (str x.fHref) :: .v (str x.fUuid) :: (x.fShadow.map fun x => .sl 1 (x.map fun x => [.v (str x)])))) S39.zero (z := .ag [.v (.string ⟨#[]⟩), .v (.string ⟨#[]⟩), .sl 1 [], .sl 1 [], .sl 1 [], .sl 1 [], .sl 1 [], .sl 1 [], .sl 1 [], .sl 1 []]) (o := o) (by rfl)
 obtain ⟨g6, h⟩ := gd_some.1 h
 refine sF (nd oka0_0_0 (nd oka0 (nd @hmL58 (nd @hmT58 g6)))) ?_
 subst hc5
 refine IWp_seqF fun cb hc7 => ?_
 refine vF g6 ?_
 obtain ⟨x8, hx8, h⟩ := bind_some' h
 refine F45_ok ((mget a0_0_0 a1).getD S39.zero) hx8 ?_
 obtain ⟨g9, h⟩ := gd_some.1 h
 refine sF g9 ?_
 subst hc7
 refine vO ?_
 obtain rfl := Option.some.inj h
 refine sF g9 ?_
 exact retA (.refl hw) hK

/-! (*cardcase/pairs.Pairs).Entry -/

noncomputable def F18 (a0_0_0 : List (List UInt8 × S39)) (a0_0_1 : List (List UInt8 × (List UInt8))) (a0_1 : Option S33) (a1 : List UInt8) : Option (S39 × Bool) :=
 (F42 a0_0_0 a0_0_1 a0_1).bind fun (x4 : Bool) => (F21 a0_0_0 a0_0_1 a0_1 ((mget a0_0_1 a1).getD [])).bind fun (x6 : S39 × Bool) => gd (x6.1.fShadow.length = 8) (some (x6.1, x6.2))

theorem F18_ok {H : IHeap} {K : IEnd → IHeap → Prop} (a0_0_0 : List (List UInt8 × S39)) (a0_0_1 : List (List UInt8 × (List UInt8))) (a0_1 : Option S33) (a1 : List UInt8) (ka0 : Nat) (ka0_0_0 : Nat) (ka0_0_1 : Nat) (oka0 : H.obj ka0 = some (.cells ([.mp ka0_0_0, .mp ka0_0_1, optP (fun (x : S33) => .v (str x.fHref) :: .v (str x.fUuid) :: .sl 2 (x.fDn.map fun x => [.v (str x.fType), .v (str x.fValue)]) :: (x.fShadow.map fun x => .sl 1 (x.map fun x => [.v (str x)]))) a0_1]))) (oka0_0_0 : H.obj ka0_0_0 = some (.map (mE (fun (x : S39) => .ag (.v (str x.fHref) :: .v (str x.fUuid) :: (x.fShadow.map fun x => .sl 1 (x.map fun x => [.v (str x)])))) a0_0_0))) (oka0_0_1 : H.obj ka0_0_1 = some (.map (mE (fun (x : List UInt8) => .v (str x)) a0_0_1))) {r : S39 × Bool} (h : F18 a0_0_0 a0_0_1 a0_1 a1 = some r) (hK : K (.ret (.tu [.ag (.v (str r.1.fHref) :: .v (str r.1.fUuid) :: (r.1.fShadow.map fun x => .sl 1 (x.map fun x => [.v (str x)]))), .v (.bool r.2)])) H) : ICalls prog 18 [.p ka0 0, .v (str a1)] H K := by
 refine ICalls_iwp (N := 20) func18 (by kernel_rfl) rfl (by kernel_rfl) (by kernel_rfl) fun cb hcb hw hbd hnb => ?_
 clear hbd hnb
 subst hcb
 unfold F18 at h
 have hka0 : ka0 < H.next := Nat.lt_of_not_le fun q => by rw [hw _ q] at oka0; cases oka0
 have hka0_0_0 : ka0_0_0 < H.next := Nat.lt_of_not_le fun q => by rw [hw _ q] at oka0_0_0; cases oka0_0_0
 have hka0_0_1 : ka0_0_1 < H.next := Nat.lt_of_not_le fun q => by rw [hw _ q] at oka0_0_1; cases oka0_0_1
 refine wG ?_
 refine IWp_seqF fun cb hc2 => ?_
 refine IWp_seqF fun cb hc3 => ?_
 refine vG ?_
 obtain ⟨x4, hx4, h⟩ := bind_some' h
 cases (show some false = some x4 from hx4)
 refine F42_ok a0_0_0 a0_0_1 a0_1 ka0 ka0_0_0 ka0_0_1 (eF oka0) (eF oka0_0_0) (eF oka0_0_1) hx4 ?_
 refine sG ?_
 subst hc3
 refine IWp_cond_f eA rfl ?_
 refine vO ?_
 subst hc2
 refine IWp_seqF fun cb hc5 => ?_
 refine v0 ?_
 have hmL59 := @lkI_mE _ (fun (x : List UInt8) => .v (str x))
 have hmF59 := fun o => okI_f (fun (x : List UInt8) => .v (str x)) ([] : List UInt8) (z := .v (str ([] : List UInt8))) (o := o) (by rfl)
 refine sF (nd oka0_0_1 (nd oka0 (nd @hmL59 @hmF59))) ?_
 obtain ⟨x6, hx6, h⟩ := bind_some' h
 refine F21_ok a0_0_0 a0_0_1 a0_1 ((mget a0_0_1 a1).getD []) ka0 ka0_0_0 ka0_0_1 (eF oka0) (eF oka0_0_0) (eF oka0_0_1) hx6 ?_
 obtain ⟨g7, h⟩ := gd_some.1 h
 refine sF g7 ?_
 subst hc5
 refine vO ?_
 obtain rfl := Option.some.inj h
 refine sF g7 ?_
 exact retA (.refl hw) hK

/-! (*cardcase/pairs.Pairs).All -/

noncomputable def F14_k9 (v13 : List S39) : Option (List S39) :=
 some v13

noncomputable def F14_b9 (a0_0_0 : List (List UInt8 × S39)) (x8 : (List (List UInt8))) (v10 : Int) (v11 : List S39) : Option ((Int × (List S39)) ⊕ (List S39)) :=
 if v10 < (x8.length : Int) then (gd (0 ≤ v10 ∧ v10 < x8.length) ((F45 ((mget a0_0_0 (x8.getD v10.toNat [])).getD S39.zero)).bind fun (x22 : S39) => gd (x22.fShadow.length = 8) (gd ((v11.length + ([x22]).length) * 224 ≤ 140737488355328) (some (.inl ((IntKind.i64.wrap (v10 + 1), v11 ++ ([x22])))))))) else (some (.inr v11))

noncomputable def F14 (a0_0_0 : List (List UInt8 × S39)) (a0_0_1 : List (List UInt8 × (List UInt8))) (a0_1 : Option S33) : Option (List S39) :=
 (F42 a0_0_0 a0_0_1 a0_1).bind fun (x5 : Bool) => (F43 a0_0_0).bind fun (x8 : (List (List UInt8))) => (loopO (fun (s : Int × (List S39)) => F14_b9 a0_0_0 x8 s.1 s.2) (0, [])).bind fun (e : (List S39)) => F14_k9 e

theorem F14_ok {H : IHeap} {K : IEnd → IHeap → Prop} (a0_0_0 : List (List UInt8 × S39)) (a0_0_1 : List (List UInt8 × (List UInt8))) (a0_1 : Option S33) (ka0 : Nat) (ka0_0_0 : Nat) (ka0_0_1 : Nat) (oka0 : H.obj ka0 = some (.cells ([.mp ka0_0_0, .mp ka0_0_1, optP (fun (x : S33) => .v (str x.fHref) :: .v (str x.fUuid) :: .sl 2 (x.fDn.map fun x => [.v (str x.fType), .v (str x.fValue)]) :: (x.fShadow.map fun x => .sl 1 (x.map fun x => [.v (str x)]))) a0_1]))) (oka0_0_0 : H.obj ka0_0_0 = some (.map (mE (fun (x : S39) => .ag (.v (str x.fHref) :: .v (str x.fUuid) :: (x.fShadow.map fun x => .sl 1 (x.map fun x => [.v (str x)])))) a0_0_0))) (oka0_0_1 : H.obj ka0_0_1 = some (.map (mE (fun (x : List UInt8) => .v (str x)) a0_0_1))) {r : (List S39)} (h : F14 a0_0_0 a0_0_1 a0_1 = some r) (hK : K (.ret (.fn (.func 46) [] [.cp [.sl 10 (r.map fun x => .v (str x.fHref) :: .v (str x.fUuid) :: (x.fShadow.map fun x => .sl 1 (x.map fun x => [.v (str x)])))]])) H) : ICalls prog 14 [.p ka0 0] H K := by
 refine ICalls_iwp (N := 34) func14 (by kernel_rfl) rfl (by kernel_rfl) (by kernel_rfl) fun cb hcb hw hbd hnb => ?_
 clear hbd hnb
 subst hcb
 unfold F14 at h
 have hka0 : ka0 < H.next := Nat.lt_of_not_le fun q => by rw [hw _ q] at oka0; cases oka0
 have hka0_0_0 : ka0_0_0 < H.next := Nat.lt_of_not_le fun q => by rw [hw _ q] at oka0_0_0; cases oka0_0_0
 have hka0_0_1 : ka0_0_1 < H.next := Nat.lt_of_not_le fun q => by rw [hw _ q] at oka0_0_1; cases oka0_0_1
 refine wG ?_
 refine wG ?_
 refine IWp_seqF fun cb hc3 => ?_
 refine IWp_seqF fun cb hc4 => ?_
 refine vG ?_
 obtain ⟨x5, hx5, h⟩ := bind_some' h
 cases (show some false = some x5 from hx5)
 refine F42_ok a0_0_0 a0_0_1 a0_1 ka0 ka0_0_0 ka0_0_1 (eF oka0) (eF oka0_0_0) (eF oka0_0_1) hx5 ?_
 refine sG ?_
 subst hc4
 refine IWp_cond_t eA rfl ?_
 refine IWp_seqF fun cb hc6 => ?_
 refine vF oka0 ?_
 refine keys44_ok (F := (fun (x : S39) => .ag (.v (str x.fHref) :: .v (str x.fUuid) :: (x.fShadow.map fun x => .sl 1 (x.map fun x => [.v (str x)]))))) a0_0_0 ka0_0_0 (eF oka0_0_0) ?_
 refine sG ?_
 obtain ⟨x8, hx8, h⟩ := bind_some' h
 refine F43_ok (F := (fun (x : S39) => .ag (.v (str x.fHref) :: .v (str x.fUuid) :: (x.fShadow.map fun x => .sl 1 (x.map fun x => [.v (str x)]))))) a0_0_0 (H.next + 1) ka0_0_0 eA (eF oka0_0_0) hx8 ?_
 refine sG ?_
 subst hc6
 obtain ⟨y9, hl9q, hk9⟩ := bind_some' h
 refine IWp_tailC (fun tm' H' => ∃ n14 : Nat, ∃ v13 : List S39, v13 = y9 ∧ Ext H H' ∧ H.next + 2 ≤ H'.next ∧ H.next ≤ n14 ∧ n14 < H'.next ∧ ¬ ka0_0_0 = n14 ∧ ¬ ka0_0_1 = n14 ∧ ¬ ka0 = n14 ∧ ¬ H.next = n14 ∧ ¬ H.next + 1 = n14 ∧ tm' 3 = .p H.next 0 ∧ H'.obj ka0_0_0 = some (.map (mE (fun (x : S39) => .ag (.v (str x.fHref) :: .v (str x.fUuid) :: (x.fShadow.map fun x => .sl 1 (x.map fun x => [.v (str x)])))) a0_0_0)) ∧ H'.obj ka0_0_1 = some (.map (mE (fun (x : List UInt8) => .v (str x)) a0_0_1)) ∧ H'.obj ka0 = some (.cells ([.mp ka0_0_0, .mp ka0_0_1, optP (fun (x : S33) => .v (str x.fHref) :: .v (str x.fUuid) :: .sl 2 (x.fDn.map fun x => [.v (str x.fType), .v (str x.fValue)]) :: (x.fShadow.map fun x => .sl 1 (x.map fun x => [.v (str x)]))) a0_1])) ∧ H'.obj H.next = some (.cells ([.os n14 v13.length])) ∧ H'.obj (H.next + 1) = some (.cells [.mp ka0_0_0]) ∧ H'.obj n14 = some (.row 10 (v13.map fun x => .v (str x.fHref) :: .v (str x.fUuid) :: (x.fShadow.map fun x => .sl 1 (x.map fun x => [.v (str x)]))))) ?_ fun cb hc9 => ?_
 ·rintro tm9e H9e ⟨n14, v13, rfl, he9e, hl9e, hr0_9e, hs0_9e, hq25, hq26, hq27, hq28, hq29, t3_9e, ob0_9e, ob1_9e, ob2_9e, ob3_9e, ob4_9e, or0_9e⟩
  have h : F14_k9 v13 = some r := hk9
  unfold F14_k9 at h
  simp -implicitDefEqProofs only [go_sem]
  subst hc3
  refine wF t3_9e ?_
  refine IWp.gh (Gh.fzBox (k := n14) (kb := H.next) (cs := [.os n14 v13.length]) (cs' := [.sl 10 (v13.map fun x => .v (str x.fHref) :: .v (str x.fUuid) :: (x.fShadow.map fun x => .sl 1 (x.map fun x => [.v (str x)])))]) (eF ob3_9e) (by omega) (FzKL.cons (FzK.row _ _ _ (eF or0_9e) (by simp)) FzKL.nil)) ?_
  refine vO ?_
  obtain rfl := Option.some.inj h
  refine sG ?_
  refine retG_fzE (J := H) (r' := .fn (.func 46) [] [.cp [.sl 10 (v13.map fun x => .v (str x.fHref) :: .v (str x.fUuid) :: (x.fShadow.map fun x => .sl 1 (x.map fun x => [.v (str x)])))]]) (Ext.endH (extA he9e)) rfl (Fz.clos1 (.ptr (hw _ (by omega)) eA (NBL_mem (by exact nbLA)))) hK
 refine IWp_block ?_
 refine IWp_loopF (fun (s : Int × (List S39)) tm' H' => ∃ n12 : Nat, Ext H H' ∧ H.next + 2 ≤ H'.next ∧ H.next ≤ n12 ∧ n12 < H'.next ∧ ¬ ka0_0_0 = n12 ∧ ¬ ka0_0_1 = n12 ∧ ¬ ka0 = n12 ∧ ¬ H.next = n12 ∧ ¬ H.next + 1 = n12 ∧ tm' 0 = .p ka0 0 ∧ tm' 3 = .p H.next 0 ∧ tm' 15 = .sl 1 (x8.map fun x => [.v (str x)]) ∧ tm' 16 = .v (.int .i64 (x8.length : Int)) ∧ tm' 17 = .v (.int .i64 s.1) ∧ H'.obj ka0_0_0 = some (.map (mE (fun (x : S39) => .ag (.v (str x.fHref) :: .v (str x.fUuid) :: (x.fShadow.map fun x => .sl 1 (x.map fun x => [.v (str x)])))) a0_0_0)) ∧ H'.obj ka0_0_1 = some (.map (mE (fun (x : List UInt8) => .v (str x)) a0_0_1)) ∧ H'.obj ka0 = some (.cells ([.mp ka0_0_0, .mp ka0_0_1, optP (fun (x : S33) => .v (str x.fHref) :: .v (str x.fUuid) :: .sl 2 (x.fDn.map fun x => [.v (str x.fType), .v (str x.fValue)]) :: (x.fShadow.map fun x => .sl 1 (x.map fun x => [.v (str x)]))) a0_1])) ∧ H'.obj H.next = some (.cells ([.os n12 s.2.length])) ∧ H'.obj (H.next + 1) = some (.cells [.mp ka0_0_0]) ∧ H'.obj n12 = some (.row 10 (s.2.map fun x => .v (str x.fHref) :: .v (str x.fUuid) :: (x.fShadow.map fun x => .sl 1 (x.map fun x => [.v (str x)]))))) hl9q ?_ ?_
 ·refine UpI.gh (Gh.nilrowBox (kb := H.next) (sz := 10) (cs := [.v (.slice none 0 0)]) (cs' := [.os (H.next + 2) 0]) (by omega) eA (NzL.row NzL.nil)) ?_
  refine .same ⟨H.next + 2, by exact extA (Ext.refl hw), by (simp -implicitDefEqProofs (disch := omega) [go_sem] <;> omega), by omega, by (simp -implicitDefEqProofs (disch := omega) [go_sem] <;> omega), by omega, by omega, by omega, by omega, by omega, ?_, ?_, ?_, ?_, ?_, ?_, ?_, ?_, ?_, ?_, ?_⟩ <;> (simp -implicitDefEqProofs (disch := omega) [go_sem, oka0_0_0, oka0_0_1, oka0] <;> omega)
 rintro I9 hI9 ⟨v10, v11⟩ x9 tm9 H9 ⟨n12, he9, hl9, hr0_9, hs0_9, hq30, hq31, hq32, hq33, hq34, t0_9, t3_9, t15_9, t16_9, t17_9, ob0_9, ob1_9, ob2_9, ob3_9, ob4_9, or0_9⟩ h hret9
 replace h : F14_b9 a0_0_0 x8 v10 v11 = some x9 := h
 unfold F14_b9 at h
 refine wF (nd t16_9 t17_9) ?_
 refine IWp_seqF fun cb hc17 => ?_
 refine IWp_cond_i h eA rfl ?_ ?_
 ·intro c18 h
  refine vO ?_
  subst hc17
  refine IWp_seqF fun cb hc19 => ?_
  refine IWp_block ?_
  obtain ⟨g21, h⟩ := gd_some.1 h
  refine wF (nd t15_9 t17_9) ?_
  refine IWp_drawP [8] [0, 1, 2, 3, 4, 5, 6, 7, 8, 9, 10, 11] (by kernel_rfl) (by kernel_rfl) (fun _ _ _ _ h => h) ?_
  have hmL58 := @lkI_mE _ (fun (x : S39) => .ag (.v (str x.fHref) :: .v (str x.fUuid) :: (x.fShadow.map fun x => .sl 1 (x.map fun x => [.v (str x)]))))
  have hmF58 := fun o => okI_f (fun (x : S39) => .ag (.v (str x.fHref) :: .v (str x.fUuid) :: (x.fShadow.map fun x => .sl 1 (x.map fun x => [.v (str x)])))) S39.zero (z := .ag [.v (.string ⟨#[]⟩), .v (.string ⟨#[]⟩), .sl 1 [], .sl 1 [], .sl 1 [], .sl 1 [], .sl 1 [], .sl 1 [], .sl 1 [], .sl 1 []]) (o := o) (by rfl)
  refine sF (nd t0_9 (nd t3_9 (nd ob0_9 (nd ob2_9 (nd ob3_9 (nd @hmL58 @hmF58)))))) ?_
  obtain ⟨x22, hx22, h⟩ := bind_some' h
  refine PureC.mk _ (fun _ _ hK => ICalls.eqA eA (F45_ok ((mget a0_0_0 (x8.getD v10.toNat [])).getD S39.zero) hx22 hK)) ?_
  obtain ⟨g23, h⟩ := gd_some.1 h
  obtain ⟨g24, h⟩ := gS h
  refine sF (nd t3_9 (nd ob0_9 (nd ob2_9 (nd ob3_9 (nd or0_9 (nd @hmL58 (nd @hmF58 g23))))))) ?_
  subst hc19
  refine vF t17_9 ?_
  obtain rfl := Option.some.inj h
  refine loopN_mk hI9 ((IntKind.i64.wrap (v10 + 1), v11 ++ ([x22]))) ?_
  refine .same ⟨n12, by exact extA he9, by (simp -implicitDefEqProofs (disch := omega) [go_sem] <;> omega), by with_reducible assumption, by (simp -implicitDefEqProofs (disch := omega) [go_sem] <;> omega), by with_reducible assumption, by with_reducible assumption, by with_reducible assumption, by with_reducible assumption, by with_reducible assumption, ?_, ?_, ?_, ?_, ?_, ?_, ?_, ?_, ?_, ?_, ?_⟩ <;> (simp -implicitDefEqProofs (disch := omega) [go_sem, t0_9, t3_9, t15_9, t16_9, ob0_9, ob1_9, ob2_9, ob4_9] <;> omega)
 intro c18 h
 simp (disch := omega) at c18
 refine vO ?_
 obtain rfl := Option.some.inj h
 have hy9 := hret9 _ rfl
 refine hc9 _ _ ?_
 refine .same ⟨n12, v11, hy9, by exact extA he9, by with_reducible assumption, by with_reducible assumption, by with_reducible assumption, by with_reducible assumption, by with_reducible assumption, by with_reducible assumption, by with_reducible assumption, by with_reducible assumption, ?_, ?_, ?_, ?_, ?_, ?_, ?_⟩ <;> first | with_reducible assumption | (simp -implicitDefEqProofs (disch := omega) [go_sem, t3_9] <;> omega)

end Go.Idl

namespace Go.Idl

open Go Go.Proofs.Tryz

theorem enumI_get {α : Type} {l : List α} {i : Nat} (h : i < l.length) : (enumI l)[i]? = some ((i : Int), l[i]) := by simp [enumI, h]

theorem enumI_length {α : Type} {l : List α} : (enumI l).length = l.length := by simp [enumI]

theorem F45_big (x : S39) (h : bigC x.fShadow) : F45 x = some x := by
  unfold F45
  rw [gd_pos h.1]
  unfold F58
  rw [gd_pos h]
  simp only [Option.bind_some]
  rw [gd_pos h.1]

theorem IWp_wf {P : Program} {N : Nat} {c : Code} {Q : Exit → Tm → IHeap → Prop} {tm : Tm} {H : IHeap} (h : H.Wf → IWp P N c Q tm H) : IWp P N c Q tm H := ⟨fun rr B D w g a s r hN hB hm => (h s.wf).run rr B D w g a s r hN hB hm⟩

theorem Fz.any {H J : IHeap} {i : IV} : Fz H J i .any := .wk _ _ (fun _ _ _ _ => .any _) .any

set_option pp.deepTerms false in
set_option maxRecDepth 4000 in
theorem all46 (l : List S39) (hg : ∀ x, x ∈ l → bigC x.fShadow) : Iter prog 46 [.cp [.sl 10 (l.map fun x => .v (str x.fHref) :: .v (str x.fUuid) :: (x.fShadow.map fun x => .sl 1 (x.map fun x => [.v (str x)])))]] ((enumI l).map fun (p : Int × S39) => [.v (.int .i64 p.1), .ag (.v (str p.2.fHref) :: .v (str p.2.fUuid) :: (p.2.fShadow.map fun x => .sl 1 (x.map fun x => [.v (str x)])))]) [] := by
  refine ⟨by kernel_rfl, fun lp I E H hC hy h0 => ?_⟩
  refine ICalls_vc (N := 19) func46 (by kernel_rfl) rfl (by kernel_rfl) (by kernel_rfl) fun hw hbd hnb => ?_
  simp only [List.mem_cons, List.not_mem_nil, or_false, forall_eq_or_imp, forall_eq] at hbd
  have hl : l.length ≤ 9223372036854775807 := by
    have h := hbd.2
    cases h with | cp _ h => exact (by simpa [maxN] using (Bd_sl.1 (h (.sl 10 (l.map fun x => .v (str x.fHref) :: .v (str x.fUuid) :: (x.fShadow.map fun x => .sl 1 (x.map fun x => [.v (str x)])))) (by simp))).1)
  clear hbd hnb
  simp (maxSteps := 1000000) (disch := omega) [go_sem]
  refine vcLoop_mk (fun tm' H' => ∃ i : Nat, tm' 0 = yv lp ∧ tm' 5 = .sl 10 (l.map fun x => .v (str x.fHref) :: .v (str x.fUuid) :: (x.fShadow.map fun x => .sl 1 (x.map fun x => [.v (str x)]))) ∧ tm' 6 = .v (.int .i64 l.length) ∧ tm' 7 = .v (.int .i64 i) ∧ i ≤ l.length ∧ I i H') (fun tm' _ => l.length - (intOf (tm' 7)).toNat) (.same ?_) ?_
  · exact ⟨0, by simp [go_sem], by simp [go_sem], by simp [go_sem], by simp [go_sem], by omega, h0⟩
  · rintro I' μ' hI hμ tm' H' ⟨i, h0, h5, h6, h7, hi, hI0⟩
    refine IWp_wf fun hw' => ?_
    refine IWp_seqF fun cb hcA => ?_
    refine vcK ?_
    simp (maxSteps := 1000000) (disch := omega) [go_sem, h0, h5, h6, h7]
    subst hcA
    refine IWp_seqF fun cb hcB => ?_
    by_cases hc : i < l.length
    · have hb := hg l[i] (List.getElem_mem _)
      have h8 := hb.1
      refine IWp_cond_t (by simp [go_sem, h6, h7]; omega) rfl ?_
      refine vc_sound _ (by kernel_rfl) _ _ _ ?_
      simp -implicitDefEqProofs only [go_sem]
      subst hcB
      refine IWp_seqF fun cb hcC => ?_
      refine IWp_block ?_
      refine IWp_seqF fun cb hcD => ?_
      refine IWp_let ?_
      refine vcK ?_
      simp (maxSteps := 1000000) (disch := omega) [go_sem, h0, h5, h6, h7, h8, hc]
      refine ⟨fun k => if k = 0 then yv lp else if k = 3 then .v (.int .i64 i) else if k = 4 then .cp (.v (str l[i].fHref) :: .v (str l[i].fUuid) :: (l[i].fShadow.map fun x => .sl 1 (x.map fun x => [.v (str x)]))) else if k = 5 then .sl 10 (l.map fun x => .v (str x.fHref) :: .v (str x.fUuid) :: (x.fShadow.map fun x => .sl 1 (x.map fun x => [.v (str x)]))) else if k = 6 then .v (.int .i64 l.length) else if k = 7 then .v (.int .i64 i) else .any, H', ?_, ?_, ?_⟩
      · exact (((Ext.refl hw').new _).set (Nat.le_refl _) _).endH
      · intro k
        by_cases k0 : k = 0
        · subst k0; simp [go_sem, h0]; exact .same (.v _)
        by_cases k3 : k = 3
        · subst k3; simp [go_sem, h7]; exact .same (.v _)
        by_cases k4 : k = 4
        · subst k4
          simp [go_sem]
          exact .ptr (hw' _ (Nat.le_refl _)) (by simp [go_sem]) (NBL_mem (by repeat (first | refine NB_cpL ?_ | exact .v _ | exact NBL.nil | refine NBL.cons ?_ ?_ | refine NB_slm fun _ => ?_ | refine NB_agL ?_ | refine NBL.app ?_ ?_ | refine NBL.map fun _ => ?_)))
        by_cases k5 : k = 5
        · subst k5; simp [go_sem, h5]
          exact .same (by repeat (first | refine NB_cpL ?_ | exact .v _ | exact NBL.nil | refine NBL.cons ?_ ?_ | refine NB_slm fun _ => ?_ | refine NB_agL ?_ | refine NBL.app ?_ ?_ | refine NBL.map fun _ => ?_))
        by_cases k6 : k = 6
        · subst k6; simp [go_sem, h6]; exact .same (.v _)
        by_cases k7 : k = 7
        · subst k7; simp [go_sem, h7]; exact .same (.v _)
        simp only [k0, k3, k4, k5, k6, k7, if_false]
        exact .any
      · subst hcD
        refine IWp_seqF fun cb hcE => ?_
        refine vcK ?_
        simp (maxSteps := 1000000) (disch := omega) [go_sem, h8]
        refine F45_ok l[i] (F45_big _ hb) ?_
        simp (maxSteps := 1000000) (disch := omega) [go_sem, h8]
        refine IOper_yield' (l := lp) (is := [.v (.int .i64 i), .ag (.v (str l[i].fHref) :: .v (str l[i].fUuid) :: (l[i].fShadow.map fun x => .sl 1 (x.map fun x => [.v (str x)])))]) rfl (by kernel_rfl) (by simp [go_sem]) (by simp [go_sem]) ((hy i _ H' (by rw [List.getElem?_map, enumI_get hc]; rfl) hI0).mono ?_)
        rintro b H'' (⟨rfl, h⟩ | ⟨rfl, h⟩)
        · simp (maxSteps := 1000000) (disch := omega) [go_sem]
          subst hcE
          refine IWp_cond_f (by simp [go_sem]) rfl ?_
          refine vc_sound _ (by kernel_rfl) _ _ _ ?_
          simp -implicitDefEqProofs only [go_sem]
          subst hcC
          refine vcK ?_
          simp (maxSteps := 1000000) (disch := omega) [go_sem]
          exact .of hI hμ ⟨i + 1, by simp [go_sem], by simp [go_sem], by simp [go_sem], by simp [go_sem], by omega, h⟩ (by simp [go_sem, h7]; omega)
        · simp (maxSteps := 1000000) (disch := omega) [go_sem]
          subst hcE
          refine IWp_cond_t (by simp [go_sem]) rfl ?_
          refine vc_sound _ (by kernel_rfl) _ _ _ ?_
          simp (maxSteps := 1000000) (disch := omega) [go_sem]
          exact retG_all ⟨⟨_, rfl⟩, .inr h⟩
    · refine IWp_cond_f (by simp [go_sem, h6, h7]; omega) rfl ?_
      refine vc_sound _ (by kernel_rfl) _ _ _ ?_
      simp (maxSteps := 1000000) (disch := omega) [go_sem]
      have e : i = l.length := by omega
      subst e
      exact retG_all ⟨⟨_, rfl⟩, .inl (by rw [enumI_length]; exact hI0)⟩

end Go.Idl

namespace Go.Idl

set_option maxHeartbeats 8000000

set_option pp.deepTerms false

set_option maxRecDepth 60000

open Go Go.Proofs.Tryz

/-! cardcase/dn.signs -/

noncomputable def F127  : Option ((List (Int × Bool))) :=
 some (mset (mset (mset (mset (mset (mset (mset (mset [] 44 true) 43 true) 34 true) 92 true) 60 true) 62 true) 59 true) 61 true)

theorem F127_ok {H : IHeap} {K : IEnd → IHeap → Prop}  {r : (List (Int × Bool))} (h : F127  = some r) (hK : K (.ret (.mp H.next)) (newL H [.map (mI .u8 (fun (x : Bool) => .v (.bool x)) r)])) : ICalls prog 127 [] H K := by
 refine ICalls_iwp (N := 3) func127 (by kernel_rfl) rfl (by kernel_rfl) (by kernel_rfl) fun cb hcb hw hbd hnb => ?_
 clear hbd hnb
 subst hcb
 unfold F127 at h
 refine wG ?_
 refine IWp_seqF fun cb hc2 => ?_
 refine v0 ?_
 have hmS181 := fun m k v => setI_mI (j := .u8) (fun (x : Bool) => .v (.bool x)) m k v
 have hmi3 := hmS181 [] 44 true
 simp -implicitDefEqProofs at hmi3
 have hmi4 := hmS181 (mset [] 44 true) 43 true
 have hmi5 := hmS181 (mset (mset [] 44 true) 43 true) 34 true
 have hmi6 := hmS181 (mset (mset (mset [] 44 true) 43 true) 34 true) 92 true
 have hmi7 := hmS181 (mset (mset (mset (mset [] 44 true) 43 true) 34 true) 92 true) 60 true
 have hmi8 := hmS181 (mset (mset (mset (mset (mset [] 44 true) 43 true) 34 true) 92 true) 60 true) 62 true
 have hmi9 := hmS181 (mset (mset (mset (mset (mset (mset [] 44 true) 43 true) 34 true) 92 true) 60 true) 62 true) 59 true
 have hmi10 := hmS181 (mset (mset (mset (mset (mset (mset (mset [] 44 true) 43 true) 34 true) 92 true) 60 true) 62 true) 59 true) 61 true
 refine sF (nd @hmS181 @hmi3) ?_
 subst hc2
 refine vO ?_
 obtain rfl := Option.some.inj h
 refine sG ?_
 refine retG_R (r := .mp H.next) (r' := .mp H.next) rfl (endR_new (by exact extA (Ext.refl hw)) (ks := [H.next]) (os := [.map (mI .u8 (fun (x : Bool) => .v (.bool x)) (mset (mset (mset (mset (mset (mset (mset (mset [] 44 true) 43 true) 34 true) 92 true) 60 true) 62 true) 59 true) 61 true))]) (.cons (o := .map (mI .u8 (fun (x : Bool) => .v (.bool x)) (mset (mset (mset (mset (mset (mset (mset (mset [] 44 true) 43 true) 34 true) 92 true) 60 true) 62 true) 59 true) 61 true))) (by omega) (by (simp [go_sem]; done)) eA (.same _ (by exact nboA)) .nil) (by simp)) (.mpE (k := H.next) (by simp [rhoL]) (by simp [go_sem])) hK

/-! cardcase/dn.value -/

noncomputable def F91_k8 (v12 : List UInt8) : Option (List UInt8) :=
 some v12

noncomputable def F91_k36 (a0 : List UInt8) (v11 : Int) (v37 : List UInt8) (v39 : Bool) : Option (((List UInt8) × Int) ⊕ (List UInt8)) :=
 if v39 = true then (gd ((v37.length + ([92]).length) * 1 ≤ 140737488355328) (gd (0 ≤ (((a0.getD v11.toNat 0).toNat : Int)) ∧ (((a0.getD v11.toNat 0).toNat : Int)) ≤ 255) (gd (((v37 ++ ([92])).length + ([UInt8.ofNat (((a0.getD v11.toNat 0).toNat : Int)).toNat]).length) * 1 ≤ 140737488355328) (some (.inl (((v37 ++ ([92])) ++ ([UInt8.ofNat (((a0.getD v11.toNat 0).toNat : Int)).toNat]), IntKind.i64.wrap (v11 + 1)))))))) else (gd (0 ≤ (((a0.getD v11.toNat 0).toNat : Int)) ∧ (((a0.getD v11.toNat 0).toNat : Int)) ≤ 255) (gd ((v37.length + ([UInt8.ofNat (((a0.getD v11.toNat 0).toNat : Int)).toNat]).length) * 1 ≤ 140737488355328) (some (.inl ((v37 ++ ([UInt8.ofNat (((a0.getD v11.toNat 0).toNat : Int)).toNat]), IntKind.i64.wrap (v11 + 1)))))))

noncomputable def F91_b8 (a0 : List UInt8) (x3 : (List (Int × Bool))) (v9 : List UInt8) (v11 : Int) : Option (((List UInt8) × Int) ⊕ (List UInt8)) :=
 if v11 < (a0.length : Int) then (gd (0 ≤ v11 ∧ v11 < a0.length) (if (((a0.getD v11.toNat 0).toNat : Int)) < 32 then (gd (0 ≤ ((((a0.getD v11.toNat 0).toNat : Int)).fdiv 16) ∧ ((((a0.getD v11.toNat 0).toNat : Int)).fdiv 16) < ([48, 49, 50, 51, 52, 53, 54, 55, 56, 57, 97, 98, 99, 100, 101, 102] : List UInt8).length) (gd (0 ≤ (andI .u8 (((a0.getD v11.toNat 0).toNat : Int)) 15) ∧ (andI .u8 (((a0.getD v11.toNat 0).toNat : Int)) 15) < ([48, 49, 50, 51, 52, 53, 54, 55, 56, 57, 97, 98, 99, 100, 101, 102] : List UInt8).length) (gd (0 ≤ (((([48, 49, 50, 51, 52, 53, 54, 55, 56, 57, 97, 98, 99, 100, 101, 102] : List UInt8).getD ((((a0.getD v11.toNat 0).toNat : Int)).fdiv 16).toNat 0).toNat : Int)) ∧ (((([48, 49, 50, 51, 52, 53, 54, 55, 56, 57, 97, 98, 99, 100, 101, 102] : List UInt8).getD ((((a0.getD v11.toNat 0).toNat : Int)).fdiv 16).toNat 0).toNat : Int)) ≤ 255) (gd (0 ≤ (((([48, 49, 50, 51, 52, 53, 54, 55, 56, 57, 97, 98, 99, 100, 101, 102] : List UInt8).getD (andI .u8 (((a0.getD v11.toNat 0).toNat : Int)) 15).toNat 0).toNat : Int)) ∧ (((([48, 49, 50, 51, 52, 53, 54, 55, 56, 57, 97, 98, 99, 100, 101, 102] : List UInt8).getD (andI .u8 (((a0.getD v11.toNat 0).toNat : Int)) 15).toNat 0).toNat : Int)) ≤ 255) (gd ((v9.length + ([92, UInt8.ofNat (((([48, 49, 50, 51, 52, 53, 54, 55, 56, 57, 97, 98, 99, 100, 101, 102] : List UInt8).getD ((((a0.getD v11.toNat 0).toNat : Int)).fdiv 16).toNat 0).toNat : Int)).toNat, UInt8.ofNat (((([48, 49, 50, 51, 52, 53, 54, 55, 56, 57, 97, 98, 99, 100, 101, 102] : List UInt8).getD (andI .u8 (((a0.getD v11.toNat 0).toNat : Int)) 15).toNat 0).toNat : Int)).toNat]).length) * 1 ≤ 140737488355328) (some (.inl ((v9 ++ ([92, UInt8.ofNat (((([48, 49, 50, 51, 52, 53, 54, 55, 56, 57, 97, 98, 99, 100, 101, 102] : List UInt8).getD ((((a0.getD v11.toNat 0).toNat : Int)).fdiv 16).toNat 0).toNat : Int)).toNat, UInt8.ofNat (((([48, 49, 50, 51, 52, 53, 54, 55, 56, 57, 97, 98, 99, 100, 101, 102] : List UInt8).getD (andI .u8 (((a0.getD v11.toNat 0).toNat : Int)) 15).toNat 0).toNat : Int)).toNat]), IntKind.i64.wrap (v11 + 1)))))))))) else (if 126 < (((a0.getD v11.toNat 0).toNat : Int)) then (gd (0 ≤ ((((a0.getD v11.toNat 0).toNat : Int)).fdiv 16) ∧ ((((a0.getD v11.toNat 0).toNat : Int)).fdiv 16) < ([48, 49, 50, 51, 52, 53, 54, 55, 56, 57, 97, 98, 99, 100, 101, 102] : List UInt8).length) (gd (0 ≤ (andI .u8 (((a0.getD v11.toNat 0).toNat : Int)) 15) ∧ (andI .u8 (((a0.getD v11.toNat 0).toNat : Int)) 15) < ([48, 49, 50, 51, 52, 53, 54, 55, 56, 57, 97, 98, 99, 100, 101, 102] : List UInt8).length) (gd (0 ≤ (((([48, 49, 50, 51, 52, 53, 54, 55, 56, 57, 97, 98, 99, 100, 101, 102] : List UInt8).getD ((((a0.getD v11.toNat 0).toNat : Int)).fdiv 16).toNat 0).toNat : Int)) ∧ (((([48, 49, 50, 51, 52, 53, 54, 55, 56, 57, 97, 98, 99, 100, 101, 102] : List UInt8).getD ((((a0.getD v11.toNat 0).toNat : Int)).fdiv 16).toNat 0).toNat : Int)) ≤ 255) (gd (0 ≤ (((([48, 49, 50, 51, 52, 53, 54, 55, 56, 57, 97, 98, 99, 100, 101, 102] : List UInt8).getD (andI .u8 (((a0.getD v11.toNat 0).toNat : Int)) 15).toNat 0).toNat : Int)) ∧ (((([48, 49, 50, 51, 52, 53, 54, 55, 56, 57, 97, 98, 99, 100, 101, 102] : List UInt8).getD (andI .u8 (((a0.getD v11.toNat 0).toNat : Int)) 15).toNat 0).toNat : Int)) ≤ 255) (gd ((v9.length + ([92, UInt8.ofNat (((([48, 49, 50, 51, 52, 53, 54, 55, 56, 57, 97, 98, 99, 100, 101, 102] : List UInt8).getD ((((a0.getD v11.toNat 0).toNat : Int)).fdiv 16).toNat 0).toNat : Int)).toNat, UInt8.ofNat (((([48, 49, 50, 51, 52, 53, 54, 55, 56, 57, 97, 98, 99, 100, 101, 102] : List UInt8).getD (andI .u8 (((a0.getD v11.toNat 0).toNat : Int)) 15).toNat 0).toNat : Int)).toNat]).length) * 1 ≤ 140737488355328) (some (.inl ((v9 ++ ([92, UInt8.ofNat (((([48, 49, 50, 51, 52, 53, 54, 55, 56, 57, 97, 98, 99, 100, 101, 102] : List UInt8).getD ((((a0.getD v11.toNat 0).toNat : Int)).fdiv 16).toNat 0).toNat : Int)).toNat, UInt8.ofNat (((([48, 49, 50, 51, 52, 53, 54, 55, 56, 57, 97, 98, 99, 100, 101, 102] : List UInt8).getD (andI .u8 (((a0.getD v11.toNat 0).toNat : Int)) 15).toNat 0).toNat : Int)).toNat]), IntKind.i64.wrap (v11 + 1)))))))))) else (if (mget x3 (((a0.getD v11.toNat 0).toNat : Int))).getD false = true then (F91_k36 a0 v11 v9 ((mget x3 (((a0.getD v11.toNat 0).toNat : Int))).getD false)) else (if v11 = 0 then (if (((a0.getD v11.toNat 0).toNat : Int)) = 32 then (F91_k36 a0 v11 v9 true) else (if (((a0.getD v11.toNat 0).toNat : Int)) = 35 then (F91_k36 a0 v11 v9 (decide ((((a0.getD v11.toNat 0).toNat : Int)) = 35))) else (if v11 = (IntKind.i64.wrap ((a0.length : Int) - 1)) then (F91_k36 a0 v11 v9 (decide ((((a0.getD v11.toNat 0).toNat : Int)) = 32))) else (F91_k36 a0 v11 v9 false)))) else (if v11 = (IntKind.i64.wrap ((a0.length : Int) - 1)) then (F91_k36 a0 v11 v9 (decide ((((a0.getD v11.toNat 0).toNat : Int)) = 32))) else (F91_k36 a0 v11 v9 false))))))) else (some (.inr v9))

noncomputable def F91 (a0 : List UInt8) : Option (List UInt8) :=
 (F127 ).bind fun (x3 : (List (Int × Bool))) => gd ((a0.length : Int) ≤ 9223372036854775807) ((loopO (fun (s : (List UInt8) × Int) => F91_b8 a0 x3 s.1 s.2) ([], 0)).bind fun (e : (List UInt8)) => F91_k8 e)

theorem F91_ok {H : IHeap} {K : IEnd → IHeap → Prop} (a0 : List UInt8) {r : (List UInt8)} (h : F91 a0 = some r) (hK : K (.ret (.v (str r))) H) : ICalls prog 91 [.v (str a0)] H K := by
 refine ICalls_iwp (N := 65) func91 (by kernel_rfl) rfl (by kernel_rfl) (by kernel_rfl) fun cb hcb hw hbd hnb => ?_
 clear hbd hnb
 subst hcb
 unfold F91 at h
 refine wG ?_
 refine IWp_seqF fun cb hc2 => ?_
 refine vG ?_
 obtain ⟨x3, hx3, h⟩ := bind_some' h
 refine F127_ok  hx3 ?_
 refine sG ?_
 subst hc2
 refine wG ?_
 refine IWp_seqF fun cb hc5 => ?_
 refine IWp_seqF fun cb hc6 => ?_
 obtain ⟨g7, h⟩ := gd_some.1 h
 refine vG ?_
 refine IOper_toB a0 rfl (by kernel_rfl) underlying9 underlying131 underlying5 (by (simp -implicitDefEqProofs (disch := omega) [go_sem]; done)) (by omega) ?_
 refine sG ?_
 subst hc6
 obtain ⟨y8, hl8q, hk8⟩ := bind_some' h
 refine IWp_tailC (fun tm' H' => ∃ n13 : Nat, ∃ v12 : List UInt8, v12 = y8 ∧ Ext H H' ∧ H.next + 1 ≤ H'.next ∧ H.next ≤ n13 ∧ n13 < H'.next ∧ ¬ H.next = n13 ∧ tm' 4 = .os n13 v12.length ∧ H'.obj H.next = some (.map (mI .u8 (fun (x : Bool) => .v (.bool x)) x3)) ∧ H'.obj n13 = some (.row 1 (v12.map fun x => [.v (.int .u8 x.toNat)]))) ?_ fun cb hc8 => ?_
 ·rintro tm8e H8e ⟨n13, v12, rfl, he8e, hl8e, hr0_8e, hs0_8e, hq56, t4_8e, ob0_8e, or0_8e⟩
  have h : F91_k8 v12 = some r := hk8
  unfold F91_k8 at h
  simp -implicitDefEqProofs only [go_sem]
  subst hc5
  refine IWp_seqF fun cb hc14 => ?_
  refine IWp.gh (Gh.freeze (d := 4) (k := n13) (sz := 1) (es := v12.map fun x => [.v (.int .u8 x.toNat)]) (eF or0_8e) (eF t4_8e)) ?_
  refine vG ?_
  subst hc14
  refine vO ?_
  obtain rfl := Option.some.inj h
  refine sG ?_
  refine retG_pureE (extA he8e) rfl nbA hK
 refine IWp_block ?_
 refine IWp_loopF (fun (s : (List UInt8) × Int) tm' H' => ∃ n10 : Nat, Ext H H' ∧ H.next + 1 ≤ H'.next ∧ H.next ≤ n10 ∧ n10 < H'.next ∧ ¬ H.next = n10 ∧ tm' 0 = .v (str a0) ∧ tm' 3 = .mp H.next ∧ tm' 4 = .os n10 s.1.length ∧ tm' 9 = .sl 1 (a0.map fun x => [.v (.int .u8 x.toNat)]) ∧ tm' 10 = .v (.int .i64 (a0.length : Int)) ∧ tm' 11 = .v (.int .i64 s.2) ∧ H'.obj H.next = some (.map (mI .u8 (fun (x : Bool) => .v (.bool x)) x3)) ∧ H'.obj n10 = some (.row 1 (s.1.map fun x => [.v (.int .u8 x.toNat)]))) hl8q ?_ ?_
 ·refine UpI.gh (Gh.nilrow (d := 4) (sz := 1) (by omega) eA) ?_
  refine .same ⟨H.next + 1, by exact extA (Ext.refl hw), by (simp -implicitDefEqProofs (disch := omega) [go_sem] <;> omega), by omega, by (simp -implicitDefEqProofs (disch := omega) [go_sem] <;> omega), by omega, ?_, ?_, ?_, ?_, ?_, ?_, ?_, ?_⟩ <;> (simp -implicitDefEqProofs (disch := omega) [go_sem] <;> omega)
 rintro I8 hI8 ⟨v9, v11⟩ x8 tm8 H8 ⟨n10, he8, hl8, hr0_8, hs0_8, hq57, t0_8, t3_8, t4_8, t9_8, t10_8, t11_8, ob0_8, or0_8⟩ h hret8
 replace h : F91_b8 a0 x3 v9 v11 = some x8 := h
 unfold F91_b8 at h
 refine wF (nd t10_8 t11_8) ?_
 refine IWp_seqF fun cb hc16 => ?_
 refine IWp_cond_i h eA rfl ?_ ?_
 ·intro c17 h
  refine vO ?_
  subst hc16
  refine IWp_seqF fun cb hc18 => ?_
  refine IWp_block ?_
  obtain ⟨g20, h⟩ := gd_some.1 h
  refine wF (nd t9_8 t11_8) ?_
  refine IWp_seqF fun cb hc21 => ?_
  refine IWp_block ?_
  refine IWp_seqF fun cb hc22 => ?_
  refine vG ?_
  refine splitG_f h eA ?_ ?_
  ·intro c55 h
   simp (disch := omega) at c55
   refine sG ?_
   subst hc22
   refine IWp_cond_t eA rfl ?_
   refine IWp_seqF fun cb hc23 => ?_
   refine IWp_drawP [] [0, 1, 2, 3, 4, 5, 6, 7, 8, 9] (by kernel_rfl) (by kernel_rfl) (fun _ _ _ _ h => h) ?_
   obtain ⟨g24, h⟩ := gS h
   obtain ⟨g25, h⟩ := gS h
   obtain ⟨g26, h⟩ := gS h
   obtain ⟨g27, h⟩ := gS h
   obtain ⟨g28, h⟩ := gS h
   refine sF (nd t4_8 or0_8) ?_
   subst hc23
   refine vO ?_
   subst hc18
   refine vF t11_8 ?_
   obtain rfl := Option.some.inj h
   refine loopN_mk hI8 ((v9 ++ ([92, UInt8.ofNat (((([48, 49, 50, 51, 52, 53, 54, 55, 56, 57, 97, 98, 99, 100, 101, 102] : List UInt8).getD ((((a0.getD v11.toNat 0).toNat : Int)).fdiv 16).toNat 0).toNat : Int)).toNat, UInt8.ofNat (((([48, 49, 50, 51, 52, 53, 54, 55, 56, 57, 97, 98, 99, 100, 101, 102] : List UInt8).getD (andI .u8 (((a0.getD v11.toNat 0).toNat : Int)) 15).toNat 0).toNat : Int)).toNat]), IntKind.i64.wrap (v11 + 1))) ?_
   refine .same ⟨n10, by exact extA he8, by (simp -implicitDefEqProofs (disch := omega) [go_sem] <;> omega), by with_reducible assumption, by (simp -implicitDefEqProofs (disch := omega) [go_sem] <;> omega), by with_reducible assumption, ?_, ?_, ?_, ?_, ?_, ?_, ?_, ?_⟩ <;> (simp -implicitDefEqProofs (disch := omega) [go_sem, t0_8, t3_8, t9_8, t10_8, ob0_8] <;> omega)
  intro c55 h
  simp (disch := omega) at c55
  refine sG ?_
  subst hc22
  refine IWp_cond_i h eA rfl ?_ ?_
  ·intro c29 h
   simp (disch := omega) at c29
   refine IWp_seqF fun cb hc30 => ?_
   refine IWp_drawP [] [0, 1, 2, 3, 4, 5, 6, 7, 8, 9] (by kernel_rfl) (by kernel_rfl) (fun _ _ _ _ h => h) ?_
   obtain ⟨g31, h⟩ := gS h
   obtain ⟨g32, h⟩ := gS h
   obtain ⟨g33, h⟩ := gS h
   obtain ⟨g34, h⟩ := gS h
   obtain ⟨g35, h⟩ := gS h
   refine sF (nd t4_8 or0_8) ?_
   subst hc30
   refine vO ?_
   subst hc18
   refine vF t11_8 ?_
   obtain rfl := Option.some.inj h
   refine loopN_mk hI8 ((v9 ++ ([92, UInt8.ofNat (((([48, 49, 50, 51, 52, 53, 54, 55, 56, 57, 97, 98, 99, 100, 101, 102] : List UInt8).getD ((((a0.getD v11.toNat 0).toNat : Int)).fdiv 16).toNat 0).toNat : Int)).toNat, UInt8.ofNat (((([48, 49, 50, 51, 52, 53, 54, 55, 56, 57, 97, 98, 99, 100, 101, 102] : List UInt8).getD (andI .u8 (((a0.getD v11.toNat 0).toNat : Int)) 15).toNat 0).toNat : Int)).toNat]), IntKind.i64.wrap (v11 + 1))) ?_
   refine .same ⟨n10, by exact extA he8, by (simp -implicitDefEqProofs (disch := omega) [go_sem] <;> omega), by with_reducible assumption, by (simp -implicitDefEqProofs (disch := omega) [go_sem] <;> omega), by with_reducible assumption, ?_, ?_, ?_, ?_, ?_, ?_, ?_, ?_⟩ <;> (simp -implicitDefEqProofs (disch := omega) [go_sem, t0_8, t3_8, t9_8, t10_8, ob0_8] <;> omega)
  intro c29 h
  simp (disch := omega) at c29
  refine IWp_seqC (fun tm' H' => ∃ n38 : Nat, ∃ v37 : List UInt8, ∃ v39 : Bool, Ext H H' ∧ H8.next ≤ H'.next ∧ H.next ≤ n38 ∧ n38 < H'.next ∧ ¬ H.next = n38 ∧ tm' 0 = .v (str a0) ∧ tm' 3 = .mp H.next ∧ tm' 4 = .os n38 v37.length ∧ tm' 6 = .v (.int .u8 (((a0.getD v11.toNat 0).toNat : Int))) ∧ tm' 9 = .sl 1 (a0.map fun x => [.v (.int .u8 x.toNat)]) ∧ tm' 10 = .v (.int .i64 (a0.length : Int)) ∧ tm' 11 = .v (.int .i64 v11) ∧ tm' 32 = .v (.bool v39) ∧ H'.obj H.next = some (.map (mI .u8 (fun (x : Bool) => .v (.bool x)) x3)) ∧ H'.obj n38 = some (.row 1 (v37.map fun x => [.v (.int .u8 x.toNat)])) ∧ F91_k36 a0 v11 v37 v39 = some x8) ?_ fun cb hc36 => ?_
  ·rintro tm36 H36 ⟨n38, v37, v39, he36, hl36, hr0_36, hs0_36, hq54, t0_36, t3_36, t4_36, t6_36, t9_36, t10_36, t11_36, t32_36, ob0_36, or0_36, h⟩
   unfold F91_k36 at h
   refine IWp_cond_i h (eF t32_36) rfl ?_ ?_
   ·intro c40 h
    obtain ⟨g41, h⟩ := gS h
    refine vF (nd t4_36 or0_36) ?_
    subst hc21
    obtain ⟨g42, h⟩ := gS h
    obtain ⟨g43, h⟩ := gS h
    refine vF t6_36 ?_
    subst hc18
    refine vF t11_36 ?_
    obtain rfl := Option.some.inj h
    refine loopN_mk hI8 (((v37 ++ ([92])) ++ ([UInt8.ofNat (((a0.getD v11.toNat 0).toNat : Int)).toNat]), IntKind.i64.wrap (v11 + 1))) ?_
    refine .same ⟨n38, by exact extA he36, by (simp -implicitDefEqProofs (disch := omega) [go_sem] <;> omega), by with_reducible assumption, by (simp -implicitDefEqProofs (disch := omega) [go_sem] <;> omega), by with_reducible assumption, ?_, ?_, ?_, ?_, ?_, ?_, ?_, ?_⟩ <;> (simp -implicitDefEqProofs (disch := omega) [go_sem, t0_36, t3_36, t9_36, t10_36, ob0_36] <;> omega)
   intro c40 h
   simp (disch := omega) at c40
   refine vO ?_
   subst hc21
   obtain ⟨g44, h⟩ := gS h
   obtain ⟨g45, h⟩ := gS h
   refine vF (nd t4_36 (nd t6_36 or0_36)) ?_
   subst hc18
   refine vF t11_36 ?_
   obtain rfl := Option.some.inj h
   refine loopN_mk hI8 ((v37 ++ ([UInt8.ofNat (((a0.getD v11.toNat 0).toNat : Int)).toNat]), IntKind.i64.wrap (v11 + 1))) ?_
   refine .same ⟨n38, by exact extA he36, by (simp -implicitDefEqProofs (disch := omega) [go_sem] <;> omega), by with_reducible assumption, by (simp -implicitDefEqProofs (disch := omega) [go_sem] <;> omega), by with_reducible assumption, ?_, ?_, ?_, ?_, ?_, ?_, ?_, ?_⟩ <;> (simp -implicitDefEqProofs (disch := omega) [go_sem, t0_36, t3_36, t9_36, t10_36, ob0_36] <;> omega)
  refine IWp_seqF fun cb hc46 => ?_
  refine v0 ?_
  have hmL181 := @lkI_mI _ .u8 (fun (x : Bool) => .v (.bool x))
  have hmF181 := fun o => okI_f (fun (x : Bool) => .v (.bool x)) false (z := .v (.bool false)) (o := o) (by rfl)
  refine sF (nd t3_8 (nd ob0_8 (nd @hmL181 @hmF181))) ?_
  subst hc46
  refine IWp_cond_i h eA rfl ?_ ?_
  ·intro c47 h
   simp (disch := omega) at c47
   refine vO ?_
   refine hc36 _ _ ?_
   refine .same ⟨n10, v9, ((mget x3 (((a0.getD v11.toNat 0).toNat : Int))).getD false), by exact extA he8, by omega, by with_reducible assumption, by with_reducible assumption, by with_reducible assumption, ?_, ?_, ?_, ?_, ?_, ?_, ?_, ?_, ?_, ?_, h⟩ <;> first | with_reducible assumption | (simp -implicitDefEqProofs (disch := omega) [go_sem, t0_8, t3_8, t4_8, t9_8, t10_8, t11_8] <;> omega)
  intro c47 h
  simp (disch := omega) at c47
  refine IWp_seqF fun cb hc48 => ?_
  refine vG ?_
  refine splitG_f h rfl ?_ ?_
  ·intro c53 h
   refine sG ?_
   refine splitG_f h eA ?_ ?_
   ·intro c51 h
    simp (disch := omega) at c51
    refine sG ?_
    subst hc48
    refine IWp_cond_t eA rfl ?_
    refine vO ?_
    refine hc36 _ _ ?_
    refine .same ⟨n10, v9, true, by exact extA he8, by omega, by with_reducible assumption, by with_reducible assumption, by with_reducible assumption, ?_, ?_, ?_, ?_, ?_, ?_, ?_, ?_, ?_, ?_, h⟩ <;> first | with_reducible assumption | (simp -implicitDefEqProofs (disch := omega) [go_sem, t0_8, t3_8, t4_8, t9_8, t10_8, t11_8] <;> omega)
   intro c51 h
   simp (disch := omega) at c51
   refine sG ?_
   subst hc48
   refine IWp_cond_i h eA rfl ?_ ?_
   ·intro c49 h
    simp (disch := omega) at c49
    refine vO ?_
    refine hc36 _ _ ?_
    refine .same ⟨n10, v9, (decide ((((a0.getD v11.toNat 0).toNat : Int)) = 35)), by exact extA he8, by omega, by with_reducible assumption, by with_reducible assumption, by with_reducible assumption, ?_, ?_, ?_, ?_, ?_, ?_, ?_, ?_, ?_, ?_, h⟩ <;> first | with_reducible assumption | (simp -implicitDefEqProofs (disch := omega) [go_sem, t0_8, t3_8, t4_8, t9_8, t10_8, t11_8] <;> omega)
   intro c49 h
   simp (disch := omega) at c49
   refine vF t0_8 ?_
   refine splitG_f h eA ?_ ?_
   ·intro c50 h
    refine sG ?_
    refine hc36 _ _ ?_
    refine .same ⟨n10, v9, (decide ((((a0.getD v11.toNat 0).toNat : Int)) = 32)), by exact extA he8, by omega, by with_reducible assumption, by with_reducible assumption, by with_reducible assumption, ?_, ?_, ?_, ?_, ?_, ?_, ?_, ?_, ?_, ?_, h⟩ <;> first | with_reducible assumption | (simp -implicitDefEqProofs (disch := omega) [go_sem, t0_8, t3_8, t4_8, t9_8, t10_8, t11_8] <;> omega)
   intro c50 h
   refine sG ?_
   refine hc36 _ _ ?_
   refine .same ⟨n10, v9, false, by exact extA he8, by omega, by with_reducible assumption, by with_reducible assumption, by with_reducible assumption, ?_, ?_, ?_, ?_, ?_, ?_, ?_, ?_, ?_, ?_, h⟩ <;> first | with_reducible assumption | (simp -implicitDefEqProofs (disch := omega) [go_sem, t0_8, t3_8, t4_8, t9_8, t10_8, t11_8] <;> omega)
  intro c53 h
  refine sG ?_
  subst hc48
  refine IWp_cond_f eA rfl ?_
  refine vF t0_8 ?_
  refine splitG_f h eA ?_ ?_
  ·intro c52 h
   refine sG ?_
   refine hc36 _ _ ?_
   refine .same ⟨n10, v9, (decide ((((a0.getD v11.toNat 0).toNat : Int)) = 32)), by exact extA he8, by omega, by with_reducible assumption, by with_reducible assumption, by with_reducible assumption, ?_, ?_, ?_, ?_, ?_, ?_, ?_, ?_, ?_, ?_, h⟩ <;> first | with_reducible assumption | (simp -implicitDefEqProofs (disch := omega) [go_sem, t0_8, t3_8, t4_8, t9_8, t10_8, t11_8] <;> omega)
  intro c52 h
  refine sG ?_
  refine hc36 _ _ ?_
  refine .same ⟨n10, v9, false, by exact extA he8, by omega, by with_reducible assumption, by with_reducible assumption, by with_reducible assumption, ?_, ?_, ?_, ?_, ?_, ?_, ?_, ?_, ?_, ?_, h⟩ <;> first | with_reducible assumption | (simp -implicitDefEqProofs (disch := omega) [go_sem, t0_8, t3_8, t4_8, t9_8, t10_8, t11_8] <;> omega)
 intro c17 h
 simp (disch := omega) at c17
 refine vO ?_
 obtain rfl := Option.some.inj h
 have hy8 := hret8 _ rfl
 refine hc8 _ _ ?_
 refine .same ⟨n10, v9, hy8, by exact extA he8, by with_reducible assumption, by with_reducible assumption, by with_reducible assumption, by with_reducible assumption, ?_, ?_, ?_⟩ <;> first | with_reducible assumption | (simp -implicitDefEqProofs (disch := omega) [go_sem, t4_8] <;> omega)

/-! cardcase/dn.Text -/

noncomputable def F60_k10 (v13 : List UInt8) : Option ((List UInt8) × Int) :=
 some (v13, 0)

noncomputable def F60_k21 (a0 : List S89) (v12 : Int) (v22 : List UInt8) : Option (((List UInt8) × Int) ⊕ (List UInt8)) :=
 gd ((((a0.getD v12.toNat S89.zero).fType).length : Int) + (([61]) : List UInt8).length ≤ 9223372036854775807) ((F91 ((a0.getD v12.toNat S89.zero).fValue)).bind fun (x24 : (List UInt8)) => gd (((((a0.getD v12.toNat S89.zero).fType) ++ ([61])).length : Int) + x24.length ≤ 9223372036854775807) (gd ((v22.length : Int) + ((((a0.getD v12.toNat S89.zero).fType) ++ ([61])) ++ x24).length ≤ 9223372036854775807) (some (.inl ((v22 ++ ((((a0.getD v12.toNat S89.zero).fType) ++ ([61])) ++ x24), IntKind.i64.wrap (v12 + 1)))))))

noncomputable def F60_b10 (a0 : List S89) (v11 : List UInt8) (v12 : Int) : Option (((List UInt8) × Int) ⊕ (List UInt8)) :=
 if v12 < (a0.length : Int) then (gd (0 ≤ v12 ∧ v12 < a0.length) (if 0 < v12 then (gd ((v11.length : Int) + (([44]) : List UInt8).length ≤ 9223372036854775807) (F60_k21 a0 v12 (v11 ++ ([44])))) else (F60_k21 a0 v12 v11))) else (some (.inr v11))

noncomputable def F60 (a0 : List S89) : Option ((List UInt8) × Int) :=
 (F54 a0).bind fun (x4 : Int) => if ¬ x4 = 0 then (some ([], 2)) else ((loopO (fun (s : (List UInt8) × Int) => F60_b10 a0 s.1 s.2) ([], 0)).bind fun (e : (List UInt8)) => F60_k10 e)

theorem F60_ok {H : IHeap} {K : IEnd → IHeap → Prop} (a0 : List S89) {r : (List UInt8) × Int} (h : F60 a0 = some r) (hK : K (.ret (.tu [.v (str r.1), .v (.int .i64 r.2)])) H) : ICalls prog 60 [.sl 2 (a0.map fun x => [.v (str x.fType), .v (str x.fValue)])] H K := by
 refine ICalls_iwp (N := 32) func60 (by kernel_rfl) rfl (by kernel_rfl) (by kernel_rfl) fun cb hcb hw hbd hnb => ?_
 clear hbd hnb
 subst hcb
 unfold F60 at h
 refine wG ?_
 refine IWp_seqF fun cb hc2 => ?_
 refine IWp_seqF fun cb hc3 => ?_
 refine vG ?_
 obtain ⟨x4, hx4, h⟩ := bind_some' h
 refine F54_ok a0 hx4 ?_
 refine sG ?_
 subst hc3
 refine IWp_cond_i h eA rfl ?_ ?_
 ·intro c5 h
  refine wG ?_
  refine vO ?_
  obtain rfl := Option.some.inj h
  refine sG ?_
  exact retA (.refl hw) hK
 intro c5 h
 simp (disch := omega) at c5
 refine vO ?_
 subst hc2
 refine wG ?_
 refine IWp_seqF fun cb hc8 => ?_
 refine wG ?_
 obtain ⟨y10, hl10q, hk10⟩ := bind_some' h
 refine IWp_tailC (fun tm' H' => ∃ v13 : List UInt8, v13 = y10 ∧ Ext H H' ∧ H.next ≤ H'.next ∧ tm' 4 = .v (str v13)) ?_ fun cb hc10 => ?_
 ·rintro tm10e H10e ⟨v13, rfl, he10e, hl10e, t4_10e⟩
  have h : F60_k10 v13 = some r := hk10
  unfold F60_k10 at h
  simp -implicitDefEqProofs only [go_sem]
  subst hc8
  refine wF t4_10e ?_
  refine vO ?_
  obtain rfl := Option.some.inj h
  refine sG ?_
  refine retG_pureE (extA he10e) rfl nbA hK
 refine IWp_block ?_
 refine IWp_loopF (fun (s : (List UInt8) × Int) tm' H' => Ext H H' ∧ H.next ≤ H'.next ∧ tm' 4 = .v (str s.1) ∧ tm' 10 = .sl 2 (a0.map fun x => [.v (str x.fType), .v (str x.fValue)]) ∧ tm' 11 = .v (.int .i64 (a0.length : Int)) ∧ tm' 12 = .v (.int .i64 s.2)) hl10q ?_ ?_
 ·refine .same ⟨by exact extA (Ext.refl hw), by omega, ?_, ?_, ?_, ?_⟩ <;> (simp -implicitDefEqProofs (disch := omega) [go_sem] <;> omega)
 rintro I10 hI10 ⟨v11, v12⟩ x10 tm10 H10 ⟨he10, hl10, t4_10, t10_10, t11_10, t12_10⟩ h hret10
 replace h : F60_b10 a0 v11 v12 = some x10 := h
 unfold F60_b10 at h
 refine wF (nd t11_10 t12_10) ?_
 refine IWp_seqF fun cb hc16 => ?_
 refine IWp_cond_i h eA rfl ?_ ?_
 ·intro c17 h
  refine vO ?_
  subst hc16
  refine IWp_seqF fun cb hc18 => ?_
  refine IWp_block ?_
  obtain ⟨g20, h⟩ := gd_some.1 h
  refine wF (nd t10_10 t12_10) ?_
  refine IWp_seqC (fun tm' H' => ∃ v22 : List UInt8, Ext H H' ∧ H10.next + 1 ≤ H'.next ∧ tm' 4 = .v (str v22) ∧ tm' 6 = .p H10.next 0 ∧ tm' 10 = .sl 2 (a0.map fun x => [.v (str x.fType), .v (str x.fValue)]) ∧ tm' 11 = .v (.int .i64 (a0.length : Int)) ∧ tm' 12 = .v (.int .i64 v12) ∧ H'.obj H10.next = some (.cells ([.v (str ((a0.getD v12.toNat S89.zero).fType)), .v (str ((a0.getD v12.toNat S89.zero).fValue))])) ∧ F60_k21 a0 v12 v22 = some x10) ?_ fun cb hc21 => ?_
  ·rintro tm21 H21 ⟨v22, he21, hl21, t4_21, t6_21, t10_21, t11_21, t12_21, ob0_21, h⟩
   unfold F60_k21 at h
   refine IWp_drawP [6] [0, 1, 2, 3, 4, 5, 6, 7, 8, 9] (by kernel_rfl) (by kernel_rfl) (fun _ _ _ _ h => h) ?_
   obtain ⟨g23, h⟩ := gS h
   refine sF (nd t4_21 (nd t6_21 ob0_21)) ?_
   obtain ⟨x24, hx24, h⟩ := bind_some' h
   refine PureC.mk _ (fun _ _ hK => ICalls.eqA eA (F91_ok ((a0.getD v12.toNat S89.zero).fValue) hx24 hK)) ?_
   obtain ⟨g25, h⟩ := gS h
   obtain ⟨g26, h⟩ := gS h
   refine sG ?_
   subst hc18
   refine vF t12_21 ?_
   obtain rfl := Option.some.inj h
   refine loopN_mk hI10 ((v22 ++ ((((a0.getD v12.toNat S89.zero).fType) ++ ([61])) ++ x24), IntKind.i64.wrap (v12 + 1))) ?_
   refine .same ⟨by exact extA he21, by omega, ?_, ?_, ?_, ?_⟩ <;> (simp -implicitDefEqProofs (disch := omega) [go_sem, t10_21, t11_21] <;> omega)
  refine wG ?_
  refine IWp_cond_i h eA rfl ?_ ?_
  ·intro c28 h
   obtain ⟨g29, h⟩ := gS h
   refine vF t4_10 ?_
   refine hc21 _ _ ?_
   refine .same ⟨(v11 ++ ([44])), by exact extA he10, by (simp -implicitDefEqProofs (disch := omega) [go_sem] <;> omega), ?_, ?_, ?_, ?_, ?_, ?_, h⟩ <;> (simp -implicitDefEqProofs (disch := omega) [go_sem, t10_10, t11_10, t12_10] <;> omega)
  intro c28 h
  simp (disch := omega) at c28
  refine vO ?_
  refine hc21 _ _ ?_
  refine .same ⟨v11, by exact extA he10, by (simp -implicitDefEqProofs (disch := omega) [go_sem] <;> omega), ?_, ?_, ?_, ?_, ?_, ?_, h⟩ <;> (simp -implicitDefEqProofs (disch := omega) [go_sem, t4_10, t10_10, t11_10, t12_10] <;> omega)
 intro c17 h
 simp (disch := omega) at c17
 refine vO ?_
 obtain rfl := Option.some.inj h
 have hy10 := hret10 _ rfl
 refine hc10 _ _ ?_
 refine .same ⟨v11, hy10, by exact extA he10, by with_reducible assumption, by (simp -implicitDefEqProofs (disch := omega) [go_sem, t4_10] <;> omega)⟩

/-! (*cardcase/pairs.Pairs).Rows -/

noncomputable def F33_k9 (v13 : List S78) : Option (List S78) :=
 some v13

noncomputable def F33_b9 (el12 : Int × S39) (v10 : List S78) : Option ((List S78) ⊕ (List S78)) :=
 gd (el12.2.fShadow.length = 8) ((F61 el12.2.fShadow).bind fun (x18 : (List UInt8) × Int) => gd (((([112]) : List UInt8).length : Int) + el12.2.fHref.length ≤ 9223372036854775807) (gd ((el12.2.fUuid.length : Int) + (([10]) : List UInt8).length ≤ 9223372036854775807) (gd (((el12.2.fUuid ++ ([10])).length : Int) + x18.1.length ≤ 9223372036854775807) (gd ((v10.length + ([(⟨([112]) ++ el12.2.fHref, (el12.2.fUuid ++ ([10])) ++ x18.1⟩ : S78)]).length) * 32 ≤ 140737488355328) (some (.inl (v10 ++ ([(⟨([112]) ++ el12.2.fHref, (el12.2.fUuid ++ ([10])) ++ x18.1⟩ : S78)]))))))))

noncomputable def F33_k3 (a0_0_0 : List (List UInt8 × S39)) (a0_0_1 : List (List UInt8 × (List UInt8))) (a0_1 : Option S33) (v4 : List S78) : Option (List S78) :=
 (F14 a0_0_0 a0_0_1 a0_1).bind fun (x8 : (List S39)) => gd (∀ x, x ∈ x8 → bigC x.fShadow) ((rangeR (ρ := (List S78)) (fun (el12 : Int × S39) (s : (List S78)) => F33_b9 el12 s) (fun (s : (List S78)) => s) (enumI x8) v4).bind fun (e : (List S78)) => F33_k9 e)

noncomputable def F33 (a0_0_0 : List (List UInt8 × S39)) (a0_0_1 : List (List UInt8 × (List UInt8))) (a0_1 : Option S33) : Option (List S78) :=
 (F26 a0_0_0 a0_0_1 a0_1).bind fun (x32 : S33 × Bool) => gd (x32.1.fShadow.length = 8) (if x32.2 = true then ((F60 x32.1.fDn).bind fun (x37 : (List UInt8) × Int) => (F61 x32.1.fShadow).bind fun (x39 : (List UInt8) × Int) => (F62 ([x32.1.fHref, x32.1.fUuid, x37.1, x39.1]) ([10])).bind fun (x40 : (List UInt8)) => gd (([(⟨[105], x40⟩ : S78)]).length * 32 ≤ 140737488355328) (F33_k3 a0_0_0 a0_0_1 a0_1 ([(⟨[105], x40⟩ : S78)]))) else (F33_k3 a0_0_0 a0_0_1 a0_1 []))

theorem F33_ok {H : IHeap} {K : IEnd → IHeap → Prop} (a0_0_0 : List (List UInt8 × S39)) (a0_0_1 : List (List UInt8 × (List UInt8))) (a0_1 : Option S33) (ka0 : Nat) (ka0_0_0 : Nat) (ka0_0_1 : Nat) (oka0 : H.obj ka0 = some (.cells ([.mp ka0_0_0, .mp ka0_0_1, optP (fun (x : S33) => .v (str x.fHref) :: .v (str x.fUuid) :: .sl 2 (x.fDn.map fun x => [.v (str x.fType), .v (str x.fValue)]) :: (x.fShadow.map fun x => .sl 1 (x.map fun x => [.v (str x)]))) a0_1]))) (oka0_0_0 : H.obj ka0_0_0 = some (.map (mE (fun (x : S39) => .ag (.v (str x.fHref) :: .v (str x.fUuid) :: (x.fShadow.map fun x => .sl 1 (x.map fun x => [.v (str x)])))) a0_0_0))) (oka0_0_1 : H.obj ka0_0_1 = some (.map (mE (fun (x : List UInt8) => .v (str x)) a0_0_1))) (hV : TOK prog H) {r : (List S78)} (h : F33 a0_0_0 a0_0_1 a0_1 = some r) (hK : K (.ret (.sl 2 (r.map fun x => [.v (str x.fKey), .v (str x.fValue)]))) H) : ICalls prog 33 [.p ka0 0] H K := by
 refine ICalls_iwp (N := 67) func33 (by kernel_rfl) rfl (by kernel_rfl) (by kernel_rfl) fun cb hcb hw hbd hnb => ?_
 clear hbd hnb
 subst hcb
 unfold F33 at h
 have hka0 : ka0 < H.next := Nat.lt_of_not_le fun q => by rw [hw _ q] at oka0; cases oka0
 have hka0_0_0 : ka0_0_0 < H.next := Nat.lt_of_not_le fun q => by rw [hw _ q] at oka0_0_0; cases oka0_0_0
 have hka0_0_1 : ka0_0_1 < H.next := Nat.lt_of_not_le fun q => by rw [hw _ q] at oka0_0_1; cases oka0_0_1
 refine wG ?_
 refine wG ?_
 refine IWp_seqC (fun tm' H' => ∃ n5 : Nat, ∃ v4 : List S78, Ext H H' ∧ H.next + 1 ≤ H'.next ∧ H.next ≤ n5 ∧ n5 < H'.next ∧ ¬ ka0_0_0 = n5 ∧ ¬ ka0_0_1 = n5 ∧ ¬ ka0 = n5 ∧ ¬ H.next = n5 ∧ tm' 0 = .p ka0 0 ∧ tm' 3 = .p H.next 0 ∧ H'.obj ka0_0_0 = some (.map (mE (fun (x : S39) => .ag (.v (str x.fHref) :: .v (str x.fUuid) :: (x.fShadow.map fun x => .sl 1 (x.map fun x => [.v (str x)])))) a0_0_0)) ∧ H'.obj ka0_0_1 = some (.map (mE (fun (x : List UInt8) => .v (str x)) a0_0_1)) ∧ H'.obj ka0 = some (.cells ([.mp ka0_0_0, .mp ka0_0_1, optP (fun (x : S33) => .v (str x.fHref) :: .v (str x.fUuid) :: .sl 2 (x.fDn.map fun x => [.v (str x.fType), .v (str x.fValue)]) :: (x.fShadow.map fun x => .sl 1 (x.map fun x => [.v (str x)]))) a0_1])) ∧ H'.obj H.next = some (.cells ([.os n5 v4.length])) ∧ H'.obj n5 = some (.row 2 (v4.map fun x => [.v (str x.fKey), .v (str x.fValue)])) ∧ F33_k3 a0_0_0 a0_0_1 a0_1 v4 = some r) ?_ fun cb hc3 => ?_
 ·rintro tm3 H3 ⟨n5, v4, he3, hl3, hr0_3, hs0_3, hq42, hq43, hq44, hq45, t0_3, t3_3, ob0_3, ob1_3, ob2_3, ob3_3, or0_3, h⟩
  unfold F33_k3 at h
  refine IWp_seqF fun cb hc6 => ?_
  refine IWp_seqF fun cb hc7 => ?_
  refine vF t0_3 ?_
  obtain ⟨x8, hx8, h⟩ := bind_some' h
  refine F14_ok a0_0_0 a0_0_1 a0_1 ka0 ka0_0_0 ka0_0_1 (by assumption) (by assumption) (by assumption) hx8 ?_
  refine sG ?_
  subst hc7
  obtain ⟨gi9, h⟩ := gd_some.1 h
  obtain ⟨y9, hl9q, hk9⟩ := bind_some' h
  refine IWp_tailC (fun tm' H' => ∃ n14 : Nat, ∃ v13 : List S78, v13 = y9 ∧ Ext H H' ∧ H3.next ≤ H'.next ∧ H.next ≤ n14 ∧ n14 < H'.next ∧ ¬ ka0_0_0 = n14 ∧ ¬ ka0_0_1 = n14 ∧ ¬ ka0 = n14 ∧ ¬ H.next = n14 ∧ tm' 3 = .p H.next 0 ∧ H'.obj ka0_0_0 = some (.map (mE (fun (x : S39) => .ag (.v (str x.fHref) :: .v (str x.fUuid) :: (x.fShadow.map fun x => .sl 1 (x.map fun x => [.v (str x)])))) a0_0_0)) ∧ H'.obj ka0_0_1 = some (.map (mE (fun (x : List UInt8) => .v (str x)) a0_0_1)) ∧ H'.obj ka0 = some (.cells ([.mp ka0_0_0, .mp ka0_0_1, optP (fun (x : S33) => .v (str x.fHref) :: .v (str x.fUuid) :: .sl 2 (x.fDn.map fun x => [.v (str x.fType), .v (str x.fValue)]) :: (x.fShadow.map fun x => .sl 1 (x.map fun x => [.v (str x)]))) a0_1])) ∧ H'.obj H.next = some (.cells ([.os n14 v13.length])) ∧ H'.obj n14 = some (.row 2 (v13.map fun x => [.v (str x.fKey), .v (str x.fValue)]))) ?_ fun cb hc9 => ?_
  ·rintro tm9e H9e ⟨n14, v13, rfl, he9e, hl9e, hr0_9e, hs0_9e, hq23, hq24, hq25, hq26, t3_9e, ob0_9e, ob1_9e, ob2_9e, ob3_9e, or0_9e⟩
   have h : F33_k9 v13 = some r := hk9
   unfold F33_k9 at h
   simp -implicitDefEqProofs only [go_sem]
   subst hc6
   refine wF (nd t3_9e ob3_9e) ?_
   refine IWp.gh (Gh.freeze (d := 2) (k := n14) (sz := 2) (es := v13.map fun x => [.v (str x.fKey), .v (str x.fValue)]) (eF or0_9e) eA) ?_
   refine vO ?_
   obtain rfl := Option.some.inj h
   refine sG ?_
   refine retG_pureE (extA he9e) rfl nbA hK
  refine IWp_block ?_
  refine IWp_rangeF (gf := 46) (cap := [.cp [.sl 10 (x8.map fun x => .v (str x.fHref) :: .v (str x.fUuid) :: (x.fShadow.map fun x => .sl 1 (x.map fun x => [.v (str x)])))]]) (C := []) (enc := fun (el12 : Int × S39) => [.v (.int .i64 el12.1), .ag (.v (str el12.2.fHref) :: .v (str el12.2.fUuid) :: (el12.2.fShadow.map fun x => .sl 1 (x.map fun x => [.v (str x)])))]) (fun (s : (List S78)) _ H' => ∃ n11 : Nat, Ext H H' ∧ H3.next ≤ H'.next ∧ H.next ≤ n11 ∧ n11 < H'.next ∧ ¬ ka0_0_0 = n11 ∧ ¬ ka0_0_1 = n11 ∧ ¬ ka0 = n11 ∧ ¬ H.next = n11 ∧ H'.obj ka0_0_0 = some (.map (mE (fun (x : S39) => .ag (.v (str x.fHref) :: .v (str x.fUuid) :: (x.fShadow.map fun x => .sl 1 (x.map fun x => [.v (str x)])))) a0_0_0)) ∧ H'.obj ka0_0_1 = some (.map (mE (fun (x : List UInt8) => .v (str x)) a0_0_1)) ∧ H'.obj ka0 = some (.cells ([.mp ka0_0_0, .mp ka0_0_1, optP (fun (x : S33) => .v (str x.fHref) :: .v (str x.fUuid) :: .sl 2 (x.fDn.map fun x => [.v (str x.fType), .v (str x.fValue)]) :: (x.fShadow.map fun x => .sl 1 (x.map fun x => [.v (str x)]))) a0_1])) ∧ H'.obj H.next = some (.cells ([.os n11 s.length])) ∧ H'.obj n11 = some (.row 2 (s.map fun x => [.v (str x.fKey), .v (str x.fValue)]))) hl9q (by kernel_rfl) (by rfl) (all46 (x8) gi9) ?_ (fun _ _ _ _ hh => hh) (by intro _ _ _ _ p hp; cases hp) (fun _ => rfl) ?_ ?_
  ·exact ⟨n5, by exact extA he3, by omega, by with_reducible assumption, by with_reducible assumption, by with_reducible assumption, by with_reducible assumption, by with_reducible assumption, by with_reducible assumption, by with_reducible assumption, by with_reducible assumption, by with_reducible assumption, by with_reducible assumption, by with_reducible assumption⟩
  ·rintro I9 hI9 el12 v10 x9 H9 ⟨n11, he9, hl9, hr0_9, hs0_9, hq27, hq28, hq29, hq30, ob0_9, ob1_9, ob2_9, ob3_9, or0_9⟩ h hret9
   replace h : F33_b9 el12 v10 = some x9 := h
   unfold F33_b9 at h
   skip
   obtain ⟨g16, h⟩ := gd_some.1 h
   refine vF g16 ?_
   refine IWp_block ?_
   refine IWp_seqF fun cb hc17 => ?_
   refine vF g16 ?_
   obtain ⟨x18, hx18, h⟩ := bind_some' h
   refine F61_ok el12.2.fShadow (by exact hV.of (he9).sn) hx18 ?_
   refine sG ?_
   subst hc17
   obtain ⟨g19, h⟩ := gS h
   obtain ⟨g20, h⟩ := gS h
   obtain ⟨g21, h⟩ := gS h
   obtain ⟨g22, h⟩ := gS h
   refine v0 ?_
   simp -implicitDefEqProofs (disch := omega) [go_sem, bdP, t3_3, ob3_9, or0_9, g16]
   obtain rfl := Option.some.inj h
   refine loopN_mk hI9 (v10 ++ ([(⟨([112]) ++ el12.2.fHref, (el12.2.fUuid ++ ([10])) ++ x18.1⟩ : S78)])) ?_
   refine .same ⟨n11, by exact extA he9, by (simp -implicitDefEqProofs (disch := omega) [go_sem] <;> omega), by with_reducible assumption, by (simp -implicitDefEqProofs (disch := omega) [go_sem] <;> omega), by with_reducible assumption, by with_reducible assumption, by with_reducible assumption, by with_reducible assumption, ?_, ?_, ?_, ?_, ?_⟩ <;> (simp -implicitDefEqProofs (disch := omega) [go_sem, ob0_9, ob1_9, ob2_9] <;> omega)
  rintro v10 H9 ⟨n11, he9, hl9, hr0_9, hs0_9, hq27, hq28, hq29, hq30, ob0_9, ob1_9, ob2_9, ob3_9, or0_9⟩ hy9
  simp -implicitDefEqProofs only [go_sem]
  refine hc9 _ _ ?_
  refine .same ⟨n11, v10, hy9, by exact extA he9, by (simp -implicitDefEqProofs (disch := omega) [go_sem] <;> omega), by with_reducible assumption, by (simp -implicitDefEqProofs (disch := omega) [go_sem] <;> omega), by with_reducible assumption, by with_reducible assumption, by with_reducible assumption, by with_reducible assumption, ?_, ?_, ?_, ?_, ?_, ?_⟩ <;> (simp -implicitDefEqProofs (disch := omega) [go_sem, t3_3, ob0_9, ob1_9, ob2_9, ob3_9, or0_9] <;> omega)
 refine IWp_seqF fun cb hc31 => ?_
 refine vG ?_
 obtain ⟨x32, hx32, h⟩ := bind_some' h
 refine F26_ok a0_0_0 a0_0_1 a0_1 ka0 ka0_0_0 ka0_0_1 (eF oka0) (eF oka0_0_0) (eF oka0_0_1) hx32 ?_
 obtain ⟨g33, h⟩ := gd_some.1 h
 refine sF g33 ?_
 subst hc31
 refine wG ?_
 refine IWp_cond_i h eA rfl ?_ ?_
 ·intro c35 h
  refine IWp_seqF fun cb hc36 => ?_
  refine vF g33 ?_
  obtain ⟨x37, hx37, h⟩ := bind_some' h
  refine F60_ok x32.1.fDn hx37 ?_
  refine sG ?_
  subst hc36
  refine IWp_seqF fun cb hc38 => ?_
  refine vF g33 ?_
  obtain ⟨x39, hx39, h⟩ := bind_some' h
  refine F61_ok x32.1.fShadow (by exact hV.of rfl) hx39 ?_
  refine sG ?_
  subst hc38
  refine IWp_drawP [8] [0, 1, 2, 3, 4, 5, 6, 7, 8, 9, 10, 11, 12] (by kernel_rfl) (by kernel_rfl) (fun _ _ _ _ h => h) ?_
  simp -implicitDefEqProofs (disch := omega) [go_sem, bdP, g33]
  obtain ⟨x40, hx40, h⟩ := bind_some' h
  refine PureC.mk _ (fun _ _ hK => ICalls.eqA eA (F62_ok ([x32.1.fHref, x32.1.fUuid, x37.1, x39.1]) ([10]) hx40 hK)) ?_
  obtain ⟨g41, h⟩ := gS h
  refine sF g33 ?_
  refine hc3 _ _ ?_
  refine .same ⟨H.next + 2, ([(⟨[105], x40⟩ : S78)]), by exact extA (Ext.refl hw), by (simp -implicitDefEqProofs (disch := omega) [go_sem] <;> omega), by omega, by (simp -implicitDefEqProofs (disch := omega) [go_sem] <;> omega), by omega, by omega, by omega, by omega, ?_, ?_, ?_, ?_, ?_, ?_, ?_, h⟩ <;> (simp -implicitDefEqProofs (disch := omega) [go_sem, oka0_0_0, oka0_0_1, oka0] <;> omega)
 intro c35 h
 simp (disch := omega) at c35
 refine vO ?_
 refine hc3 _ _ ?_
 refine UpI.gh (Gh.nilrowBox (kb := H.next) (sz := 2) (cs := [.v (.slice none 0 0)]) (cs' := [.os (H.next + 2) 0]) (by omega) eA (NzL.row NzL.nil)) ?_
 refine .same ⟨H.next + 2, [], by exact extA (Ext.refl hw), by (simp -implicitDefEqProofs (disch := omega) [go_sem] <;> omega), by omega, by (simp -implicitDefEqProofs (disch := omega) [go_sem] <;> omega), by omega, by omega, by omega, by omega, ?_, ?_, ?_, ?_, ?_, ?_, ?_, h⟩ <;> (simp -implicitDefEqProofs (disch := omega) [go_sem, oka0_0_0, oka0_0_1, oka0] <;> omega)

end Go.Idl

namespace Go.Idl

set_option maxHeartbeats 8000000

set_option pp.deepTerms false

set_option maxRecDepth 60000

open Go Go.Proofs.Tryz

/-! (*cardcase/pairs.Pairs).Copy -/

noncomputable def F22_k10 (a0_0_0 : List (List UInt8 × S39)) (a0_0_1 : List (List UInt8 × (List UInt8))) (a0_1 : Option S33) (x6 : (List (List UInt8 × S39)) × (List (List UInt8 × (List UInt8))) × (Option S33)) (v14 : List (List UInt8 × S39)) (v15 : List (List UInt8 × (List UInt8))) : Option ((List (List UInt8 × S39)) × (List (List UInt8 × (List UInt8))) × (Option S33)) :=
 (F26 a0_0_0 a0_0_1 a0_1).bind fun (x18 : S33 × Bool) => gd (x18.1.fShadow.length = 8) (if x18.2 = true then (some ((v14, v15, (some x18.1)))) else (some (v14, v15, x6.2.2)))

noncomputable def F22_b10 (el13 : Int × S39) (v11 : List (List UInt8 × S39)) (v12 : List (List UInt8 × (List UInt8))) : Option (((List (List UInt8 × S39)) × (List (List UInt8 × (List UInt8)))) ⊕ ((List (List UInt8 × S39)) × (List (List UInt8 × (List UInt8))))) :=
 gd (el13.2.fShadow.length = 8) ((F49 v11 v12 el13.2).bind fun (x25 : (List (List UInt8 × S39)) × (List (List UInt8 × (List UInt8)))) => some (.inl (x25.1, x25.2)))

noncomputable def F22 (a0_0_0 : List (List UInt8 × S39)) (a0_0_1 : List (List UInt8 × (List UInt8))) (a0_1 : Option S33) : Option ((List (List UInt8 × S39)) × (List (List UInt8 × (List UInt8))) × (Option S33)) :=
 (F42 a0_0_0 a0_0_1 a0_1).bind fun (x4 : Bool) => (F12 ).bind fun (x6 : (List (List UInt8 × S39)) × (List (List UInt8 × (List UInt8))) × (Option S33)) => (F14 a0_0_0 a0_0_1 a0_1).bind fun (x9 : (List S39)) => gd (∀ x, x ∈ x9 → bigC x.fShadow) ((rangeR (ρ := (List (List UInt8 × S39)) × (List (List UInt8 × (List UInt8)))) (fun (el13 : Int × S39) (s : (List (List UInt8 × S39)) × (List (List UInt8 × (List UInt8)))) => F22_b10 el13 s.1 s.2) (fun (s : (List (List UInt8 × S39)) × (List (List UInt8 × (List UInt8)))) => (s.1, s.2)) (enumI x9) (x6.1, x6.2.1)).bind fun (e : (List (List UInt8 × S39)) × (List (List UInt8 × (List UInt8)))) => F22_k10 a0_0_0 a0_0_1 a0_1 x6 e.1 e.2)

theorem F22_ok {H : IHeap} {K : IEnd → IHeap → Prop} (a0_0_0 : List (List UInt8 × S39)) (a0_0_1 : List (List UInt8 × (List UInt8))) (a0_1 : Option S33) (ka0 : Nat) (ka0_0_0 : Nat) (ka0_0_1 : Nat) (oka0 : H.obj ka0 = some (.cells ([.mp ka0_0_0, .mp ka0_0_1, optP (fun (x : S33) => .v (str x.fHref) :: .v (str x.fUuid) :: .sl 2 (x.fDn.map fun x => [.v (str x.fType), .v (str x.fValue)]) :: (x.fShadow.map fun x => .sl 1 (x.map fun x => [.v (str x)]))) a0_1]))) (oka0_0_0 : H.obj ka0_0_0 = some (.map (mE (fun (x : S39) => .ag (.v (str x.fHref) :: .v (str x.fUuid) :: (x.fShadow.map fun x => .sl 1 (x.map fun x => [.v (str x)])))) a0_0_0))) (oka0_0_1 : H.obj ka0_0_1 = some (.map (mE (fun (x : List UInt8) => .v (str x)) a0_0_1))) {r : (List (List UInt8 × S39)) × (List (List UInt8 × (List UInt8))) × (Option S33)} (h : F22 a0_0_0 a0_0_1 a0_1 = some r) (hK : K (.ret (.p H.next 0)) (newL H [.cells ([.mp (H.next + 1), .mp (H.next + 2), optP (fun (x : S33) => .v (str x.fHref) :: .v (str x.fUuid) :: .sl 2 (x.fDn.map fun x => [.v (str x.fType), .v (str x.fValue)]) :: (x.fShadow.map fun x => .sl 1 (x.map fun x => [.v (str x)]))) r.2.2]), .map (mE (fun (x : S39) => .ag (.v (str x.fHref) :: .v (str x.fUuid) :: (x.fShadow.map fun x => .sl 1 (x.map fun x => [.v (str x)])))) r.1), .map (mE (fun (x : List UInt8) => .v (str x)) r.2.1)])) : ICalls prog 22 [.p ka0 0] H K := by
 refine ICalls_iwp (N := 31) func22 (by kernel_rfl) rfl (by kernel_rfl) (by kernel_rfl) fun cb hcb hw hbd hnb => ?_
 clear hbd hnb
 subst hcb
 unfold F22 at h
 have hka0 : ka0 < H.next := Nat.lt_of_not_le fun q => by rw [hw _ q] at oka0; cases oka0
 have hka0_0_0 : ka0_0_0 < H.next := Nat.lt_of_not_le fun q => by rw [hw _ q] at oka0_0_0; cases oka0_0_0
 have hka0_0_1 : ka0_0_1 < H.next := Nat.lt_of_not_le fun q => by rw [hw _ q] at oka0_0_1; cases oka0_0_1
 refine wG ?_
 refine IWp_seqF fun cb hc2 => ?_
 refine IWp_seqF fun cb hc3 => ?_
 refine vG ?_
 obtain ⟨x4, hx4, h⟩ := bind_some' h
 cases (show some false = some x4 from hx4)
 refine F42_ok a0_0_0 a0_0_1 a0_1 ka0 ka0_0_0 ka0_0_1 (by assumption) (by assumption) (by assumption) hx4 ?_
 refine sG ?_
 subst hc3
 refine IWp_cond_f eA rfl ?_
 refine vO ?_
 subst hc2
 refine IWp_seqF fun cb hc5 => ?_
 refine vG ?_
 obtain ⟨x6, hx6, h⟩ := bind_some' h
 refine F12_ok  hx6 ?_
 refine sG ?_
 subst hc5
 refine IWp_seqF fun cb hc7 => ?_
 refine IWp_seqF fun cb hc8 => ?_
 refine vG ?_
 obtain ⟨x9, hx9, h⟩ := bind_some' h
 refine F14_ok a0_0_0 a0_0_1 a0_1 ka0 ka0_0_0 ka0_0_1 (eF oka0) (eF oka0_0_0) (eF oka0_0_1) hx9 ?_
 refine sG ?_
 subst hc8
 obtain ⟨gi10, h⟩ := gd_some.1 h
 obtain ⟨y10, hl10q, hk10⟩ := bind_some' h
 refine IWp_tailC (fun tm' H' => ∃ v14 : List (List UInt8 × S39), ∃ v15 : List (List UInt8 × (List UInt8)), (v14, v15) = y10 ∧ Ext H H' ∧ H.next + 4 ≤ H'.next ∧ tm' 0 = .p ka0 0 ∧ tm' 3 = .p (H.next + 3) 0 ∧ H'.obj ka0_0_0 = some (.map (mE (fun (x : S39) => .ag (.v (str x.fHref) :: .v (str x.fUuid) :: (x.fShadow.map fun x => .sl 1 (x.map fun x => [.v (str x)])))) a0_0_0)) ∧ H'.obj ka0_0_1 = some (.map (mE (fun (x : List UInt8) => .v (str x)) a0_0_1)) ∧ H'.obj ka0 = some (.cells ([.mp ka0_0_0, .mp ka0_0_1, optP (fun (x : S33) => .v (str x.fHref) :: .v (str x.fUuid) :: .sl 2 (x.fDn.map fun x => [.v (str x.fType), .v (str x.fValue)]) :: (x.fShadow.map fun x => .sl 1 (x.map fun x => [.v (str x)]))) a0_1])) ∧ H'.obj H.next = some (.cells ([.mp (H.next + 1), .mp (H.next + 2), optP (fun (x : S33) => .v (str x.fHref) :: .v (str x.fUuid) :: .sl 2 (x.fDn.map fun x => [.v (str x.fType), .v (str x.fValue)]) :: (x.fShadow.map fun x => .sl 1 (x.map fun x => [.v (str x)]))) x6.2.2])) ∧ H'.obj (H.next + 1) = some (.map (mE (fun (x : S39) => .ag (.v (str x.fHref) :: .v (str x.fUuid) :: (x.fShadow.map fun x => .sl 1 (x.map fun x => [.v (str x)])))) v14)) ∧ H'.obj (H.next + 2) = some (.map (mE (fun (x : List UInt8) => .v (str x)) v15)) ∧ H'.obj (H.next + 3) = some (.cells ([.p H.next 0]))) ?_ fun cb hc10 => ?_
 ·rintro tm10e H10e ⟨v14, v15, rfl, he10e, hl10e, t0_10e, t3_10e, ob0_10e, ob1_10e, ob2_10e, ob3_10e, ob4_10e, ob5_10e, ob6_10e⟩
  have h : F22_k10 a0_0_0 a0_0_1 a0_1 x6 v14 v15 = some r := hk10
  unfold F22_k10 at h
  simp -implicitDefEqProofs only [go_sem]
  subst hc7
  refine IWp_seqF fun cb hc16 => ?_
  refine IWp_seqF fun cb hc17 => ?_
  refine vF t0_10e ?_
  obtain ⟨x18, hx18, h⟩ := bind_some' h
  refine F26_ok a0_0_0 a0_0_1 a0_1 ka0 ka0_0_0 ka0_0_1 (by assumption) (by assumption) (by assumption) hx18 ?_
  obtain ⟨g19, h⟩ := gd_some.1 h
  refine sF g19 ?_
  subst hc17
  refine wG ?_
  refine IWp_cond_i h eA rfl ?_ ?_
  ·intro c21 h
   refine vF (nd t3_10e (nd ob3_10e ob6_10e)) ?_
   refine IWp.gh (Gh.fzPtr (k := H10e.next) (kb := H.next) (ck := .v (str x18.1.fHref) :: .v (str x18.1.fUuid) :: .sl 2 (x18.1.fDn.map fun x => [.v (str x.fType), .v (str x.fValue)]) :: (x18.1.fShadow.map fun x => .sl 1 (x.map fun x => [.v (str x)]))) (cs := [.mp (H.next + 1), .mp (H.next + 2), .p H10e.next 0]) (cs' := [.mp (H.next + 1), .mp (H.next + 2), optP (fun (x : S33) => .v (str x.fHref) :: .v (str x.fUuid) :: .sl 2 (x.fDn.map fun x => [.v (str x.fType), .v (str x.fValue)]) :: (x.fShadow.map fun x => .sl 1 (x.map fun x => [.v (str x)]))) (some x18.1)]) eA eA (by omega) (by repeat (first | exact FzPL.nil | refine FzPL.cons ?_ ?_ | exact FzP.p | exact FzP.same _))) ?_
   subst hc16
   refine wF (nd t3_10e ob6_10e) ?_
   refine vO ?_
   obtain rfl := Option.some.inj h
   refine sG ?_
   refine retG_R (r := .p H.next 0) (r' := .p H.next 0) rfl (endR_new (extA he10e) (ks := [H.next, H.next + 1, H.next + 2]) (os := [.cells ([.mp (H.next + 1), .mp (H.next + 2), optP (fun (x : S33) => .v (str x.fHref) :: .v (str x.fUuid) :: .sl 2 (x.fDn.map fun x => [.v (str x.fType), .v (str x.fValue)]) :: (x.fShadow.map fun x => .sl 1 (x.map fun x => [.v (str x)]))) (some x18.1)]), .map (mE (fun (x : S39) => .ag (.v (str x.fHref) :: .v (str x.fUuid) :: (x.fShadow.map fun x => .sl 1 (x.map fun x => [.v (str x)])))) v14), .map (mE (fun (x : List UInt8) => .v (str x)) v15)]) (.cons (o := .cells ([.mp (H.next + 1), .mp (H.next + 2), optP (fun (x : S33) => .v (str x.fHref) :: .v (str x.fUuid) :: .sl 2 (x.fDn.map fun x => [.v (str x.fType), .v (str x.fValue)]) :: (x.fShadow.map fun x => .sl 1 (x.map fun x => [.v (str x)]))) (some x18.1)])) (by omega) (by (simp [go_sem]; omega)) eA (.cells _ _ (.cons (.mpE (k := H.next + 1) (by simp [rhoL]) (by simp [go_sem])) (.cons (.mpE (k := H.next + 2) (by simp [rhoL]) (by simp [go_sem])) (.cons (.same _ (by exact nbA)) .nil)))) (.cons (o := .map (mE (fun (x : S39) => .ag (.v (str x.fHref) :: .v (str x.fUuid) :: (x.fShadow.map fun x => .sl 1 (x.map fun x => [.v (str x)])))) v14)) (by omega) (by (simp [go_sem]; omega)) (eF ob4_10e) (.same _ (by exact nboA)) (.cons (o := .map (mE (fun (x : List UInt8) => .v (str x)) v15)) (by omega) (by (simp [go_sem]; omega)) (eF ob5_10e) (.same _ (by exact nboA)) .nil))) (by simp [List.nodup_cons] <;> omega)) (.pE (k := H.next) (by simp [rhoL]) (by simp [go_sem])) hK
  intro c21 h
  simp (disch := omega) at c21
  refine vO ?_
  subst hc16
  refine wF (nd t3_10e ob6_10e) ?_
  refine vO ?_
  obtain rfl := Option.some.inj h
  refine sG ?_
  refine retG_R (r := .p H.next 0) (r' := .p H.next 0) rfl (endR_new (extA he10e) (ks := [H.next, H.next + 1, H.next + 2]) (os := [.cells ([.mp (H.next + 1), .mp (H.next + 2), optP (fun (x : S33) => .v (str x.fHref) :: .v (str x.fUuid) :: .sl 2 (x.fDn.map fun x => [.v (str x.fType), .v (str x.fValue)]) :: (x.fShadow.map fun x => .sl 1 (x.map fun x => [.v (str x)]))) x6.2.2]), .map (mE (fun (x : S39) => .ag (.v (str x.fHref) :: .v (str x.fUuid) :: (x.fShadow.map fun x => .sl 1 (x.map fun x => [.v (str x)])))) v14), .map (mE (fun (x : List UInt8) => .v (str x)) v15)]) (.cons (o := .cells ([.mp (H.next + 1), .mp (H.next + 2), optP (fun (x : S33) => .v (str x.fHref) :: .v (str x.fUuid) :: .sl 2 (x.fDn.map fun x => [.v (str x.fType), .v (str x.fValue)]) :: (x.fShadow.map fun x => .sl 1 (x.map fun x => [.v (str x)]))) x6.2.2])) (by omega) (by (simp [go_sem]; omega)) (eF ob3_10e) (.cells _ _ (.cons (.mpE (k := H.next + 1) (by simp [rhoL]) (by simp [go_sem])) (.cons (.mpE (k := H.next + 2) (by simp [rhoL]) (by simp [go_sem])) (.cons (.same _ (by exact nbA)) .nil)))) (.cons (o := .map (mE (fun (x : S39) => .ag (.v (str x.fHref) :: .v (str x.fUuid) :: (x.fShadow.map fun x => .sl 1 (x.map fun x => [.v (str x)])))) v14)) (by omega) (by (simp [go_sem]; omega)) (eF ob4_10e) (.same _ (by exact nboA)) (.cons (o := .map (mE (fun (x : List UInt8) => .v (str x)) v15)) (by omega) (by (simp [go_sem]; omega)) (eF ob5_10e) (.same _ (by exact nboA)) .nil))) (by simp [List.nodup_cons] <;> omega)) (.pE (k := H.next) (by simp [rhoL]) (by simp [go_sem])) hK
 refine IWp_block ?_
 refine IWp_rangeF (gf := 46) (cap := [.cp [.sl 10 (x9.map fun x => .v (str x.fHref) :: .v (str x.fUuid) :: (x.fShadow.map fun x => .sl 1 (x.map fun x => [.v (str x)])))]]) (C := []) (enc := fun (el13 : Int × S39) => [.v (.int .i64 el13.1), .ag (.v (str el13.2.fHref) :: .v (str el13.2.fUuid) :: (el13.2.fShadow.map fun x => .sl 1 (x.map fun x => [.v (str x)])))]) (fun (s : (List (List UInt8 × S39)) × (List (List UInt8 × (List UInt8)))) _ H' => Ext H H' ∧ H.next + 4 ≤ H'.next ∧ H'.obj ka0_0_0 = some (.map (mE (fun (x : S39) => .ag (.v (str x.fHref) :: .v (str x.fUuid) :: (x.fShadow.map fun x => .sl 1 (x.map fun x => [.v (str x)])))) a0_0_0)) ∧ H'.obj ka0_0_1 = some (.map (mE (fun (x : List UInt8) => .v (str x)) a0_0_1)) ∧ H'.obj ka0 = some (.cells ([.mp ka0_0_0, .mp ka0_0_1, optP (fun (x : S33) => .v (str x.fHref) :: .v (str x.fUuid) :: .sl 2 (x.fDn.map fun x => [.v (str x.fType), .v (str x.fValue)]) :: (x.fShadow.map fun x => .sl 1 (x.map fun x => [.v (str x)]))) a0_1])) ∧ H'.obj H.next = some (.cells ([.mp (H.next + 1), .mp (H.next + 2), optP (fun (x : S33) => .v (str x.fHref) :: .v (str x.fUuid) :: .sl 2 (x.fDn.map fun x => [.v (str x.fType), .v (str x.fValue)]) :: (x.fShadow.map fun x => .sl 1 (x.map fun x => [.v (str x)]))) x6.2.2])) ∧ H'.obj (H.next + 1) = some (.map (mE (fun (x : S39) => .ag (.v (str x.fHref) :: .v (str x.fUuid) :: (x.fShadow.map fun x => .sl 1 (x.map fun x => [.v (str x)])))) s.1)) ∧ H'.obj (H.next + 2) = some (.map (mE (fun (x : List UInt8) => .v (str x)) s.2)) ∧ H'.obj (H.next + 3) = some (.cells ([.p H.next 0]))) hl10q (by kernel_rfl) (by rfl) (all46 (x9) gi10) ?_ (fun _ _ _ _ hh => hh) (by intro _ _ _ _ p hp; cases hp) (fun _ => rfl) ?_ ?_
 ·exact ⟨by exact extA (Ext.refl hw), by (simp -implicitDefEqProofs (disch := omega) [go_sem] <;> omega), by (simp -implicitDefEqProofs (disch := omega) [go_sem, oka0_0_0] <;> omega), by (simp -implicitDefEqProofs (disch := omega) [go_sem, oka0_0_1] <;> omega), by (simp -implicitDefEqProofs (disch := omega) [go_sem, oka0] <;> omega), by (simp -implicitDefEqProofs (disch := omega) [go_sem] <;> omega), by (simp -implicitDefEqProofs (disch := omega) [go_sem] <;> omega), by (simp -implicitDefEqProofs (disch := omega) [go_sem] <;> omega), by (simp -implicitDefEqProofs (disch := omega) [go_sem] <;> omega)⟩
 ·rintro I10 hI10 el13 ⟨v11, v12⟩ x10 H10 ⟨he10, hl10, ob0_10, ob1_10, ob2_10, ob3_10, ob4_10, ob5_10, ob6_10⟩ h hret10
  replace h : F22_b10 el13 v11 v12 = some x10 := h
  unfold F22_b10 at h
  skip
  obtain ⟨g24, h⟩ := gd_some.1 h
  refine vF g24 ?_
  refine IWp_block ?_
  refine IWp_drawP [] [0, 1, 2, 3, 4, 5] (by kernel_rfl) (by kernel_rfl) (fun _ _ _ _ h => h) ?_
  refine sF (nd ob3_10 (nd ob6_10 g24)) ?_
  obtain ⟨x25, hx25, h⟩ := bind_some' h
  refine ICalls.wkL (args' := [.ag [.mp (H.next + 1), .mp (H.next + 2)], .ag (.v (str el13.2.fHref) :: .v (str el13.2.fUuid) :: (el13.2.fShadow.map fun x => .sl 1 (x.map fun x => [.v (str x)])))]) (by repeat (first | exact WkL.nil | refine WkL.cons ?_ ?_ | exact Wk.refl _)) (F49_ok v11 v12 el13.2 (H.next + 1) (H.next + 2) (eF ob4_10) (eF ob5_10) (by omega) hx25 ?_)
  refine sF (nd ob3_10 (nd ob6_10 g24)) ?_
  obtain rfl := Option.some.inj h
  refine loopN_mk hI10 (x25.1, x25.2) ?_
  refine .same ⟨by exact extA he10, by (simp -implicitDefEqProofs (disch := omega) [go_sem] <;> omega), ?_, ?_, ?_, ?_, ?_, ?_, ?_⟩ <;> (simp -implicitDefEqProofs (disch := omega) [go_sem, ob0_10, ob1_10, ob2_10, ob3_10, ob6_10] <;> omega)
 rintro ⟨v11, v12⟩ H10 ⟨he10, hl10, ob0_10, ob1_10, ob2_10, ob3_10, ob4_10, ob5_10, ob6_10⟩ hy10
 simp -implicitDefEqProofs only [go_sem]
 refine hc10 _ _ ?_
 refine .same ⟨v11, v12, hy10, by exact extA he10, by (simp -implicitDefEqProofs (disch := omega) [go_sem] <;> omega), ?_, ?_, ?_, ?_, ?_, ?_, ?_, ?_, ?_⟩ <;> (simp -implicitDefEqProofs (disch := omega) [go_sem, ob0_10, ob1_10, ob2_10, ob3_10, ob4_10, ob5_10, ob6_10] <;> omega)

/-! cardcase/cardcaselaw20.few -/

noncomputable def F10_k8  : Option Bool :=
 some true

noncomputable def F10_k28 (v9 : Int) : Option (Int ⊕ (Unit ⊕ Bool)) :=
 some (.inl (IntKind.i64.wrap (v9 + 1)))

noncomputable def F10_k40 (v29 : Int) : Option (Int ⊕ (Unit ⊕ Bool)) :=
 some (.inl (IntKind.i64.wrap (v29 + 1)))

noncomputable def F10_b40 (a0 : List S41) (v9 : Int) (v29 : Int) (v41 : Int) : Option (Int ⊕ (Unit ⊕ Bool)) :=
 if v41 < ((((((a0.getD v9.toNat S41.zero).fPairing).fShadow).getD v29.toNat []).length : Int)) then (gd (0 ≤ v41 ∧ v41 < ((((a0.getD v9.toNat S41.zero).fPairing).fShadow).getD v29.toNat []).length) (if 300 < (((((((a0.getD v9.toNat S41.zero).fPairing).fShadow).getD v29.toNat []).getD v41.toNat []).length : Int)) then (some (.inr (.inr false))) else (some (.inl (IntKind.i64.wrap (v41 + 1)))))) else (some (.inr (.inl ())))

noncomputable def F10_b28 (a0 : List S41) (v9 : Int) (v29 : Int) : Option (Int ⊕ (Unit ⊕ Bool)) :=
 if v29 < 8 then (gd (0 ≤ v29 ∧ v29 < 8) (if 20 < ((((((a0.getD v9.toNat S41.zero).fPairing).fShadow).getD v29.toNat []).length : Int)) then (some (.inr (.inr false))) else ((loopO (fun (s : Int) => F10_b40 a0 v9 v29 s) 0).bind fun y => Sum.elim (fun (e : Unit) => F10_k40 v29) (fun (q : Bool) => some (.inr (.inr q))) y))) else (some (.inr (.inl ())))

noncomputable def F10_k25 (a0 : List S41) (v9 : Int) : Option (Int ⊕ (Unit ⊕ Bool)) :=
 (loopO (fun (s : Int) => F10_b28 a0 v9 s) 0).bind fun y => Sum.elim (fun (e : Unit) => F10_k28 v9) (fun (q : Bool) => some (.inr (.inr q))) y

noncomputable def F10_b25 (a0 : List S41) (v9 : Int) (v26 : Int) : Option (Int ⊕ (Unit ⊕ Bool)) :=
 if v26 < ((((a0.getD v9.toNat S41.zero).fDn).length : Int)) then (gd (0 ≤ v26 ∧ v26 < ((a0.getD v9.toNat S41.zero).fDn).length) (if 400 < (IntKind.i64.wrap (((((((a0.getD v9.toNat S41.zero).fDn).getD v26.toNat S89.zero).fType).length : Int)) + ((((((a0.getD v9.toNat S41.zero).fDn).getD v26.toNat S89.zero).fValue).length : Int)))) then (some (.inr (.inr false))) else (some (.inl (IntKind.i64.wrap (v26 + 1)))))) else (some (.inr (.inl ())))

noncomputable def F10_b8 (a0 : List S41) (v9 : Int) : Option (Int ⊕ (Unit ⊕ Bool)) :=
 if v9 < (a0.length : Int) then (gd (0 ≤ v9 ∧ v9 < a0.length) (gd ((((a0.getD v9.toNat S41.zero).fPairing).fShadow).length = 8) (if 400 < (IntKind.i64.wrap ((((((a0.getD v9.toNat S41.zero).fPairing).fHref).length : Int)) + (((((a0.getD v9.toNat S41.zero).fPairing).fUuid).length : Int)))) then (some (.inr (.inr false))) else (if 20 < ((((a0.getD v9.toNat S41.zero).fDn).length : Int)) then (some (.inr (.inr false))) else ((loopO (fun (s : Int) => F10_b25 a0 v9 s) 0).bind fun y => Sum.elim (fun (e : Unit) => F10_k25 a0 v9) (fun (q : Bool) => some (.inr (.inr q))) y))))) else (some (.inr (.inl ())))

noncomputable def F10 (a0 : List S41) (a1 : Int) : Option Bool :=
 if a1 < (a0.length : Int) then (some false) else ((loopO (fun (s : Int) => F10_b8 a0 s) 0).bind fun y => Sum.elim (fun (e : Unit) => F10_k8) (fun (q : Bool) => some q) y)

theorem F10_ok {H : IHeap} {K : IEnd → IHeap → Prop} (a0 : List S41) (a1 : Int) {r : Bool} (h : F10 a0 a1 = some r) (hK : K (.ret (.v (.bool r))) H) : ICalls prog 10 [.sl 12 (a0.map fun x => .v (.int .i64 x.fKind) :: .v (str x.fPairing.fHref) :: .v (str x.fPairing.fUuid) :: ((x.fPairing.fShadow.map fun x => .sl 1 (x.map fun x => [.v (str x)])) ++ [.sl 2 (x.fDn.map fun x => [.v (str x.fType), .v (str x.fValue)])])), .v (.int .i64 a1)] H K := by
 refine ICalls_iwp (N := 102) func10 (by kernel_rfl) rfl (by kernel_rfl) (by kernel_rfl) fun cb hcb hw hbd hnb => ?_
 clear hbd hnb
 subst hcb
 unfold F10 at h
 refine wG ?_
 refine IWp_seqF fun cb hc2 => ?_
 refine wG ?_
 refine IWp_cond_i h eA rfl ?_ ?_
 ·intro c4 h
  refine wG ?_
  refine vO ?_
  obtain rfl := Option.some.inj h
  refine sG ?_
  exact retA (.refl hw) hK
 intro c4 h
 simp (disch := omega) at c4
 refine vO ?_
 subst hc2
 refine IWp_seqF fun cb hc6 => ?_
 refine wG ?_
 obtain ⟨y8, hl8q, hk8⟩ := bind_some' h
 refine IWp_tailC (fun tm' H' => .inl () = y8 ∧ Ext H H' ∧ H.next ≤ H'.next) ?_ fun cb hc8 => ?_
 ·rintro tm8e H8e ⟨rfl, he8e, hl8e⟩
  have h : F10_k8 = some r := hk8
  unfold F10_k8 at h
  simp -implicitDefEqProofs only [go_sem]
  subst hc6
  refine wG ?_
  refine vO ?_
  obtain rfl := Option.some.inj h
  refine sG ?_
  refine retG_pureE (extA he8e) rfl nbA hK
 refine IWp_block ?_
 refine IWp_loopF (fun (s : Int) tm' H' => Ext H H' ∧ H.next ≤ H'.next ∧ tm' 0 = .sl 12 (a0.map fun x => .v (.int .i64 x.fKind) :: .v (str x.fPairing.fHref) :: .v (str x.fPairing.fUuid) :: ((x.fPairing.fShadow.map fun x => .sl 1 (x.map fun x => [.v (str x)])) ++ [.sl 2 (x.fDn.map fun x => [.v (str x.fType), .v (str x.fValue)])])) ∧ tm' 5 = .v (.int .i64 s)) hl8q ?_ ?_
 ·refine .same ⟨by exact extA (Ext.refl hw), by omega, ?_, ?_⟩ <;> (simp -implicitDefEqProofs (disch := omega) [go_sem] <;> omega)
 rintro I8 hI8 v9 x8 tm8 H8 ⟨he8, hl8, t0_8, t5_8⟩ h hret8
 replace h : F10_b8 a0 v9 = some x8 := h
 unfold F10_b8 at h
 refine IWp_seqF fun cb hc11 => ?_
 refine wF (nd t0_8 t5_8) ?_
 refine IWp_cond_i h eA rfl ?_ ?_
 ·intro c13 h
  refine vO ?_
  subst hc11
  refine IWp_seqF fun cb hc14 => ?_
  refine IWp_block ?_
  obtain ⟨g16, h⟩ := gd_some.1 h
  obtain ⟨g17, h⟩ := gS h
  refine wF (nd t0_8 (nd t5_8 g17)) ?_
  refine IWp_seqF fun cb hc18 => ?_
  refine IWp_seqF fun cb hc19 => ?_
  refine vF g17 ?_
  refine splitG_f h eA ?_ ?_
  ·intro c58 h
   simp (disch := omega) at c58
   refine sG ?_
   subst hc19
   refine IWp_cond_t eA rfl ?_
   refine wG ?_
   refine vO ?_
   obtain rfl := Option.some.inj h
   obtain rfl := hret8 _ rfl
   replace h : some false = some r := hk8
   obtain rfl := Option.some.inj h
   refine sG ?_
   refine retG_pureE (extA he8) rfl nbA hK
  intro c58 h
  simp (disch := omega) at c58
  refine sF (nd t0_8 t5_8) ?_
  subst hc19
  refine IWp_cond_i h eA rfl ?_ ?_
  ·intro c21 h
   simp (disch := omega) at c21
   refine wG ?_
   refine vO ?_
   obtain rfl := Option.some.inj h
   obtain rfl := hret8 _ rfl
   replace h : some false = some r := hk8
   obtain rfl := Option.some.inj h
   refine sG ?_
   refine retG_pureE (extA he8) rfl nbA hK
  intro c21 h
  simp (disch := omega) at c21
  refine vO ?_
  subst hc18
  refine IWp_seqF fun cb hc23 => ?_
  refine wG ?_
  obtain ⟨y25, hl25q, hk25⟩ := bind_some' h
  refine IWp_tailC (fun tm' H' => .inl () = y25 ∧ Ext H H' ∧ H8.next + 1 ≤ H'.next ∧ tm' 0 = .sl 12 (a0.map fun x => .v (.int .i64 x.fKind) :: .v (str x.fPairing.fHref) :: .v (str x.fPairing.fUuid) :: ((x.fPairing.fShadow.map fun x => .sl 1 (x.map fun x => [.v (str x)])) ++ [.sl 2 (x.fDn.map fun x => [.v (str x.fType), .v (str x.fValue)])])) ∧ tm' 5 = .v (.int .i64 v9) ∧ tm' 6 = .p H8.next 0 ∧ H'.obj H8.next = some (.cells (.v (str (((a0.getD v9.toNat S41.zero).fPairing).fHref)) :: .v (str (((a0.getD v9.toNat S41.zero).fPairing).fUuid)) :: ((((a0.getD v9.toNat S41.zero).fPairing).fShadow).map fun x => .sl 1 (x.map fun x => [.v (str x)]))))) ?_ fun cb hc25 => ?_
  ·rintro tm25e H25e ⟨rfl, he25e, hl25e, t0_25e, t5_25e, t6_25e, ob0_25e⟩
   have h : F10_k25 a0 v9 = some x8 := hk25
   unfold F10_k25 at h
   simp -implicitDefEqProofs only [go_sem]
   subst hc23
   refine wG ?_
   obtain ⟨y28, hl28q, hk28⟩ := bind_some' h
   refine IWp_tailC (fun tm' H' => .inl () = y28 ∧ H25e = H' ∧ tm' 0 = .sl 12 (a0.map fun x => .v (.int .i64 x.fKind) :: .v (str x.fPairing.fHref) :: .v (str x.fPairing.fUuid) :: ((x.fPairing.fShadow.map fun x => .sl 1 (x.map fun x => [.v (str x)])) ++ [.sl 2 (x.fDn.map fun x => [.v (str x.fType), .v (str x.fValue)])])) ∧ tm' 5 = .v (.int .i64 v9)) ?_ fun cb hc28 => ?_
   ·rintro tm28e H28e ⟨rfl, rfl, t0_28e, t5_28e⟩
    have h : F10_k28 v9 = some x8 := hk28
    unfold F10_k28 at h
    simp -implicitDefEqProofs only [go_sem]
    subst hc14
    refine vF t5_28e ?_
    obtain rfl := Option.some.inj h
    refine loopN_mk hI8 (IntKind.i64.wrap (v9 + 1)) ?_
    refine .same ⟨by exact extA he25e, by omega, ?_, ?_⟩ <;> (simp -implicitDefEqProofs (disch := omega) [go_sem, t0_28e] <;> omega)
   refine IWp_block ?_
   refine IWp_loopF (fun (s : Int) tm' H' => H25e = H' ∧ tm' 0 = .sl 12 (a0.map fun x => .v (.int .i64 x.fKind) :: .v (str x.fPairing.fHref) :: .v (str x.fPairing.fUuid) :: ((x.fPairing.fShadow.map fun x => .sl 1 (x.map fun x => [.v (str x)])) ++ [.sl 2 (x.fDn.map fun x => [.v (str x.fType), .v (str x.fValue)])])) ∧ tm' 5 = .v (.int .i64 v9) ∧ tm' 6 = .p H8.next 0 ∧ tm' 8 = .v (.int .i64 s)) hl28q ?_ ?_
   ·exact smF (nd t0_25e (nd t5_25e t6_25e))
   rintro I28 hI28 v29 x28 tm28 H28 ⟨rfl, t0_28, t5_28, t6_28, t8_28⟩ h hret28
   replace h : F10_b28 a0 v9 v29 = some x28 := h
   unfold F10_b28 at h
   refine IWp_seqF fun cb hc30 => ?_
   refine wF t8_28 ?_
   refine IWp_cond_i h eA rfl ?_ ?_
   ·intro c32 h
    refine vO ?_
    subst hc30
    refine IWp_seqF fun cb hc33 => ?_
    refine IWp_block ?_
    refine IWp_seqF fun cb hc34 => ?_
    obtain ⟨g36, h⟩ := gd_some.1 h
    refine wF (nd t6_28 (nd t8_28 (nd g17 ob0_25e))) ?_
    refine IWp_cond_i h eA rfl ?_ ?_
    ·intro c37 h
     simp (disch := omega) at c37
     refine wG ?_
     refine vO ?_
     obtain rfl := Option.some.inj h
     obtain rfl := hret28 _ rfl
     replace h : some (.inr (.inr false)) = some x8 := hk28
     obtain rfl := Option.some.inj h
     obtain rfl := hret8 _ rfl
     replace h : some false = some r := hk8
     obtain rfl := Option.some.inj h
     refine sG ?_
     refine retG_pureE (extA he25e) rfl nbA hK
    intro c37 h
    simp (disch := omega) at c37
    refine vO ?_
    subst hc34
    refine wG ?_
    obtain ⟨y40, hl40q, hk40⟩ := bind_some' h
    refine IWp_tailC (fun tm' H' => .inl () = y40 ∧ H25e = H' ∧ tm' 0 = .sl 12 (a0.map fun x => .v (.int .i64 x.fKind) :: .v (str x.fPairing.fHref) :: .v (str x.fPairing.fUuid) :: ((x.fPairing.fShadow.map fun x => .sl 1 (x.map fun x => [.v (str x)])) ++ [.sl 2 (x.fDn.map fun x => [.v (str x.fType), .v (str x.fValue)])])) ∧ tm' 5 = .v (.int .i64 v9) ∧ tm' 6 = .p H8.next 0 ∧ tm' 8 = .v (.int .i64 v29)) ?_ fun cb hc40 => ?_
    ·rintro tm40e H40e ⟨rfl, rfl, t0_40e, t5_40e, t6_40e, t8_40e⟩
     have h : F10_k40 v29 = some x28 := hk40
     unfold F10_k40 at h
     simp -implicitDefEqProofs only [go_sem]
     subst hc33
     refine vF t8_40e ?_
     obtain rfl := Option.some.inj h
     refine loopN_mk hI28 (IntKind.i64.wrap (v29 + 1)) ?_
     exact smF (nd t0_40e (nd t5_40e t6_40e))
    refine IWp_block ?_
    refine IWp_loopF (fun (s : Int) tm' H' => H25e = H' ∧ tm' 0 = .sl 12 (a0.map fun x => .v (.int .i64 x.fKind) :: .v (str x.fPairing.fHref) :: .v (str x.fPairing.fUuid) :: ((x.fPairing.fShadow.map fun x => .sl 1 (x.map fun x => [.v (str x)])) ++ [.sl 2 (x.fDn.map fun x => [.v (str x.fType), .v (str x.fValue)])])) ∧ tm' 5 = .v (.int .i64 v9) ∧ tm' 6 = .p H8.next 0 ∧ tm' 8 = .v (.int .i64 v29) ∧ tm' 9 = .v (.int .i64 s)) hl40q ?_ ?_
    ·exact smF (nd t0_28 (nd t5_28 (nd t6_28 t8_28)))
    rintro I40 hI40 v41 x40 tm40 H40 ⟨rfl, t0_40, t5_40, t6_40, t8_40, t9_40⟩ h hret40
    replace h : F10_b40 a0 v9 v29 v41 = some x40 := h
    unfold F10_b40 at h
    refine IWp_seqF fun cb hc42 => ?_
    refine wF (nd t6_40 (nd t8_40 (nd t9_40 (nd g17 ob0_25e)))) ?_
    refine IWp_cond_i h eA rfl ?_ ?_
    ·intro c44 h
     simp (disch := omega) at c44
     refine vO ?_
     subst hc42
     refine IWp_seqF fun cb hc45 => ?_
     refine IWp_block ?_
     obtain ⟨g47, h⟩ := gS h
     refine wF (nd t6_40 (nd t8_40 (nd t9_40 (nd g17 ob0_25e)))) ?_
     refine IWp_cond_i h eA rfl ?_ ?_
     ·intro c48 h
      simp (disch := omega) at c48
      refine wG ?_
      refine vO ?_
      obtain rfl := Option.some.inj h
      obtain rfl := hret40 _ rfl
      replace h : some (.inr (.inr false)) = some x28 := hk40
      obtain rfl := Option.some.inj h
      obtain rfl := hret28 _ rfl
      replace h : some (.inr (.inr false)) = some x8 := hk28
      obtain rfl := Option.some.inj h
      obtain rfl := hret8 _ rfl
      replace h : some false = some r := hk8
      obtain rfl := Option.some.inj h
      refine sG ?_
      refine retG_pureE (extA he25e) rfl nbA hK
     intro c48 h
     simp (disch := omega) at c48
     refine vO ?_
     subst hc45
     refine vF t9_40 ?_
     obtain rfl := Option.some.inj h
     refine loopN_mk hI40 (IntKind.i64.wrap (v41 + 1)) ?_
     exact smF (nd t0_40 (nd t5_40 (nd t6_40 t8_40)))
    intro c44 h
    simp (disch := omega) at c44
    refine vO ?_
    obtain rfl := Option.some.inj h
    have hy40 := hret40 _ rfl
    refine hc40 _ _ ?_
    refine .same ⟨hy40, rfl, ?_, ?_, ?_, ?_⟩ <;> (simp -implicitDefEqProofs (disch := omega) [go_sem, t0_40, t5_40, t6_40, t8_40] <;> omega)
   intro c32 h
   simp (disch := omega) at c32
   refine vO ?_
   obtain rfl := Option.some.inj h
   have hy28 := hret28 _ rfl
   refine hc28 _ _ ?_
   refine .same ⟨hy28, rfl, ?_, ?_⟩ <;> (simp -implicitDefEqProofs (disch := omega) [go_sem, t0_28, t5_28] <;> omega)
  refine IWp_block ?_
  refine IWp_loopF (fun (s : Int) tm' H' => Ext H H' ∧ H8.next + 1 ≤ H'.next ∧ tm' 0 = .sl 12 (a0.map fun x => .v (.int .i64 x.fKind) :: .v (str x.fPairing.fHref) :: .v (str x.fPairing.fUuid) :: ((x.fPairing.fShadow.map fun x => .sl 1 (x.map fun x => [.v (str x)])) ++ [.sl 2 (x.fDn.map fun x => [.v (str x.fType), .v (str x.fValue)])])) ∧ tm' 5 = .v (.int .i64 v9) ∧ tm' 6 = .p H8.next 0 ∧ tm' 7 = .v (.int .i64 s) ∧ H'.obj H8.next = some (.cells (.v (str (((a0.getD v9.toNat S41.zero).fPairing).fHref)) :: .v (str (((a0.getD v9.toNat S41.zero).fPairing).fUuid)) :: ((((a0.getD v9.toNat S41.zero).fPairing).fShadow).map fun x => .sl 1 (x.map fun x => [.v (str x)]))))) hl25q ?_ ?_
  ·refine .same ⟨by exact extA he8, by (simp -implicitDefEqProofs (disch := omega) [go_sem] <;> omega), ?_, ?_, ?_, ?_, ?_⟩ <;> (simp -implicitDefEqProofs (disch := omega) [go_sem, t0_8, t5_8] <;> omega)
  rintro I25 hI25 v26 x25 tm25 H25 ⟨he25, hl25, t0_25, t5_25, t6_25, t7_25, ob0_25⟩ h hret25
  replace h : F10_b25 a0 v9 v26 = some x25 := h
  unfold F10_b25 at h
  refine IWp_seqF fun cb hc50 => ?_
  refine wF (nd t0_25 (nd t5_25 t7_25)) ?_
  refine IWp_cond_i h eA rfl ?_ ?_
  ·intro c52 h
   simp (disch := omega) at c52
   refine vO ?_
   subst hc50
   refine IWp_seqF fun cb hc53 => ?_
   refine IWp_block ?_
   refine IWp_seqF fun cb hc54 => ?_
   refine IWp_drawP [] [0, 1, 2, 3, 4, 5, 6, 7, 8, 9, 10, 11, 12, 13, 14, 15, 16, 17, 18, 19, 20, 21] (by kernel_rfl) (by kernel_rfl) (fun _ _ _ _ h => h) ?_
   obtain ⟨g55, h⟩ := gS h
   refine sF (nd t0_25 (nd t5_25 t7_25)) ?_
   subst hc54
   refine IWp_cond_i h eA rfl ?_ ?_
   ·intro c56 h
    simp (disch := omega) at c56
    refine wG ?_
    refine vO ?_
    obtain rfl := Option.some.inj h
    obtain rfl := hret25 _ rfl
    replace h : some (.inr (.inr false)) = some x8 := hk25
    obtain rfl := Option.some.inj h
    obtain rfl := hret8 _ rfl
    replace h : some false = some r := hk8
    obtain rfl := Option.some.inj h
    refine sG ?_
    refine retG_pureE (extA he25) rfl nbA hK
   intro c56 h
   simp (disch := omega) at c56
   refine vO ?_
   subst hc53
   refine vF t7_25 ?_
   obtain rfl := Option.some.inj h
   refine loopN_mk hI25 (IntKind.i64.wrap (v26 + 1)) ?_
   refine .same ⟨by exact extA he25, by with_reducible assumption, ?_, ?_, ?_, ?_, ?_⟩ <;> first | with_reducible assumption | (simp -implicitDefEqProofs (disch := omega) [go_sem, t0_25, t5_25, t6_25] <;> omega)
  intro c52 h
  simp (disch := omega) at c52
  refine vO ?_
  obtain rfl := Option.some.inj h
  have hy25 := hret25 _ rfl
  refine hc25 _ _ ?_
  refine .same ⟨hy25, by exact extA he25, by with_reducible assumption, ?_, ?_, ?_, ?_⟩ <;> first | with_reducible assumption | (simp -implicitDefEqProofs (disch := omega) [go_sem, t0_25, t5_25, t6_25] <;> omega)
 intro c13 h
 simp (disch := omega) at c13
 refine vO ?_
 obtain rfl := Option.some.inj h
 have hy8 := hret8 _ rfl
 refine hc8 _ _ ?_
 refine .same ⟨hy8, by exact extA he8, by with_reducible assumption⟩

/-! cardcase/cardcaselaw20.somebody -/

noncomputable def F31  : Option ((List (List (List UInt8)))) :=
 some ([[[65, 110, 110]], [], [], [], [], [], [], []])

theorem F31_ok {H : IHeap} {K : IEnd → IHeap → Prop}  {r : (List (List (List UInt8)))} (h : F31  = some r) (hK : K (.ret (.ag (r.map fun x => .sl 1 (x.map fun x => [.v (str x)])))) H) : ICalls prog 31 [] H K := by
 refine ICalls_iwp (N := 6) func31 (by kernel_rfl) rfl (by kernel_rfl) (by kernel_rfl) fun cb hcb hw hbd hnb => ?_
 clear hbd hnb
 subst hcb
 unfold F31 at h
 refine wG ?_
 refine IWp_seqF fun cb hc2 => ?_
 refine v0 ?_
 simp -implicitDefEqProofs (disch := omega) [go_sem, bdP]
 subst hc2
 refine wG ?_
 refine wG ?_
 refine vO ?_
 obtain rfl := Option.some.inj h
 refine sG ?_
 refine retG_fzE (J := H) (r' := _) (Ext.endH (by exact extA (Ext.refl hw))) eA (.wk _ (.ag ([.sl 1 (([[65, 110, 110]]).map fun x => [.v (str x)]), .sl 1 ((([] : List (List UInt8))).map fun x => [.v (str x)]), .sl 1 ((([] : List (List UInt8))).map fun x => [.v (str x)]), .sl 1 ((([] : List (List UInt8))).map fun x => [.v (str x)]), .sl 1 ((([] : List (List UInt8))).map fun x => [.v (str x)]), .sl 1 ((([] : List (List UInt8))).map fun x => [.v (str x)]), .sl 1 ((([] : List (List UInt8))).map fun x => [.v (str x)]), .sl 1 ((([] : List (List UInt8))).map fun x => [.v (str x)])])) (by repeat (first | exact WkL.nil | refine WkL.cons ?_ ?_ | exact Wk.refl _ | exact Wk.nil _ | refine Wk.agL ?_)) (by exact nbA)) hK

/-! cardcase/cardcaselaw20.known -/

noncomputable def F11  : Option Bool :=
 (F12 ).bind fun (x3 : (List (List UInt8 × S39)) × (List (List UInt8 × (List UInt8))) × (Option S33)) => (F31 ).bind fun (x5 : (List (List (List UInt8)))) => gd (x5.length = 8) ((F29 x3.1 x3.2.1 x3.2.2 (⟨[47, 98, 111, 111, 107, 47, 97], [117, 49], x5⟩ : S39)).bind fun (x7 : Int × (List (List UInt8 × S39)) × (List (List UInt8 × (List UInt8)))) => (F31 ).bind fun (x9 : (List (List (List UInt8)))) => gd (x9.length = 8) ((F29 x7.2.1 x7.2.2 x3.2.2 (⟨[47, 98, 111, 111, 107, 47, 98], [117, 49], x9⟩ : S39)).bind fun (x11 : Int × (List (List UInt8 × S39)) × (List (List UInt8 × (List UInt8)))) => (F18 x11.2.1 x11.2.2 x3.2.2 ([117, 49])).bind fun (x13 : S39 × Bool) => gd (x13.1.fShadow.length = 8) ((F33 x11.2.1 x11.2.2 x3.2.2).bind fun (x16 : (List S78)) => if x7.1 = 0 then (if x11.1 = 300 then (if x13.2 = true then (if x13.1.fHref = ([47, 98, 111, 111, 107, 47, 97]) then (if (x16.length : Int) = 1 then (gd (0 < x16.length) (if ((x16.getD 0 S78.zero).fKey) = ([112, 47, 98, 111, 111, 107, 47, 97]) then (some (decide (((x16.getD 0 S78.zero).fValue) = ([117, 49, 10, 102, 117, 108, 108, 32, 49, 10, 51, 32, 65, 110, 110, 10])))) else (some false))) else (some false)) else (some false)) else (some false)) else (some false)) else (some false))))

theorem F11_ok {H : IHeap} {K : IEnd → IHeap → Prop}  (hV : TOK prog H) {r : Bool} (h : F11  = some r) (hK : K (.ret (.v (.bool r))) H) : ICalls prog 11 [] H K := by
 refine ICalls_iwp (N := 56) func11 (by kernel_rfl) rfl (by kernel_rfl) (by kernel_rfl) fun cb hcb hw hbd hnb => ?_
 clear hbd hnb
 subst hcb
 unfold F11 at h
 refine wG ?_
 refine IWp_seqF fun cb hc2 => ?_
 refine vG ?_
 obtain ⟨x3, hx3, h⟩ := bind_some' h
 refine F12_ok  hx3 ?_
 refine sG ?_
 subst hc2
 refine IWp_seqF fun cb hc4 => ?_
 refine vG ?_
 obtain ⟨x5, hx5, h⟩ := bind_some' h
 refine F31_ok  hx5 ?_
 obtain ⟨g6, h⟩ := gd_some.1 h
 simp -implicitDefEqProofs (disch := omega) [go_sem, bdP, g6]
 obtain ⟨x7, hx7, h⟩ := bind_some' h
 refine ICalls.wkL (args' := [.p H.next 0, .ag (.v (str ((⟨[47, 98, 111, 111, 107, 47, 97], [117, 49], x5⟩ : S39).fHref)) :: .v (str ((⟨[47, 98, 111, 111, 107, 47, 97], [117, 49], x5⟩ : S39).fUuid)) :: (((⟨[47, 98, 111, 111, 107, 47, 97], [117, 49], x5⟩ : S39).fShadow).map fun x => .sl 1 (x.map fun x => [.v (str x)])))]) (by repeat (first | exact WkL.nil | refine WkL.cons ?_ ?_ | exact Wk.refl _)) (F29_ok x3.1 x3.2.1 x3.2.2 (⟨[47, 98, 111, 111, 107, 47, 97], [117, 49], x5⟩ : S39) H.next (H.next + 1) (H.next + 2) eA eA eA (by omega) hx7 ?_)
 refine sG ?_
 subst hc4
 refine IWp_seqF fun cb hc8 => ?_
 refine vG ?_
 obtain ⟨x9, hx9, h⟩ := bind_some' h
 refine F31_ok  hx9 ?_
 obtain ⟨g10, h⟩ := gd_some.1 h
 simp -implicitDefEqProofs (disch := omega) [go_sem, bdP, g10]
 obtain ⟨x11, hx11, h⟩ := bind_some' h
 refine ICalls.wkL (args' := [.p H.next 0, .ag (.v (str ((⟨[47, 98, 111, 111, 107, 47, 98], [117, 49], x9⟩ : S39).fHref)) :: .v (str ((⟨[47, 98, 111, 111, 107, 47, 98], [117, 49], x9⟩ : S39).fUuid)) :: (((⟨[47, 98, 111, 111, 107, 47, 98], [117, 49], x9⟩ : S39).fShadow).map fun x => .sl 1 (x.map fun x => [.v (str x)])))]) (by repeat (first | exact WkL.nil | refine WkL.cons ?_ ?_ | exact Wk.refl _)) (F29_ok x7.2.1 x7.2.2 x3.2.2 (⟨[47, 98, 111, 111, 107, 47, 98], [117, 49], x9⟩ : S39) H.next (H.next + 1) (H.next + 2) eA eA eA (by omega) hx11 ?_)
 refine sG ?_
 subst hc8
 refine IWp_seqF fun cb hc12 => ?_
 refine vG ?_
 obtain ⟨x13, hx13, h⟩ := bind_some' h
 refine F18_ok x11.2.1 x11.2.2 x3.2.2 ([117, 49]) H.next (H.next + 1) (H.next + 2) eA eA eA hx13 ?_
 obtain ⟨g14, h⟩ := gd_some.1 h
 refine sF g14 ?_
 subst hc12
 refine IWp_seqF fun cb hc15 => ?_
 refine vG ?_
 obtain ⟨x16, hx16, h⟩ := bind_some' h
 refine F33_ok x11.2.1 x11.2.2 x3.2.2 H.next (H.next + 1) (H.next + 2) eA eA eA (by exact hV.of rfl) hx16 ?_
 refine sG ?_
 subst hc15
 refine IWp_seqF fun cb hc17 => ?_
 refine vG ?_
 refine splitG_f h rfl ?_ ?_
 ·intro c24 h
  refine sG ?_
  refine splitG_f h rfl ?_ ?_
  ·intro c23 h
   refine sG ?_
   refine splitG_f h eA ?_ ?_
   ·intro c22 h
    refine sF g14 ?_
    refine splitG_f h rfl ?_ ?_
    ·intro c21 h
     refine sG ?_
     refine splitG_f h rfl ?_ ?_
     ·intro c20 h
      obtain ⟨g18, h⟩ := gd_some.1 h
      refine sG ?_
      refine splitG_f h eA ?_ ?_
      ·intro c19 h
       simp (disch := omega) at c19
       refine sG ?_
       subst hc17
       refine vO ?_
       obtain rfl := Option.some.inj h
       refine sG ?_
       exact retA (.refl hw) hK
      intro c19 h
      simp (disch := omega) at c19
      refine sG ?_
      subst hc17
      refine vO ?_
      obtain rfl := Option.some.inj h
      refine sG ?_
      exact retA (.refl hw) hK
     intro c20 h
     refine sG ?_
     subst hc17
     refine vO ?_
     obtain rfl := Option.some.inj h
     refine sG ?_
     exact retA (.refl hw) hK
    intro c21 h
    refine sG ?_
    subst hc17
    refine vO ?_
    obtain rfl := Option.some.inj h
    refine sG ?_
    exact retA (.refl hw) hK
   intro c22 h
   simp (disch := omega) at c22
   refine sG ?_
   subst hc17
   refine vO ?_
   obtain rfl := Option.some.inj h
   refine sG ?_
   exact retA (.refl hw) hK
  intro c23 h
  refine sG ?_
  subst hc17
  refine vO ?_
  obtain rfl := Option.some.inj h
  refine sG ?_
  exact retA (.refl hw) hK
 intro c24 h
 refine sG ?_
 subst hc17
 refine vO ?_
 obtain rfl := Option.some.inj h
 refine sG ?_
 exact retA (.refl hw) hK

end Go.Idl

namespace Go.Idl

set_option maxHeartbeats 8000000

set_option pp.deepTerms false

set_option maxRecDepth 60000

open Go Go.Proofs.Tryz

/-! cardcase/cardcaseref13.Plain -/

noncomputable def F113_k4 (a0 : List UInt8) : Option Bool :=
 if 1 ≤ (a0.length : Int) then (some (decide ((a0.length : Int) ≤ 64))) else (some false)

noncomputable def F113_b4 (a0 : List UInt8) (v5 : Int) : Option (Int ⊕ (Unit ⊕ Bool)) :=
 if v5 < (a0.length : Int) then (gd (0 ≤ v5 ∧ v5 < a0.length) (if (((a0.getD v5.toNat 0).toNat : Int)) < 48 then (if (((a0.getD v5.toNat 0).toNat : Int)) < 65 then (if (((a0.getD v5.toNat 0).toNat : Int)) < 97 then (if ¬ (((a0.getD v5.toNat 0).toNat : Int)) = 45 then (if ¬ (((a0.getD v5.toNat 0).toNat : Int)) = 46 then (if ¬ (((a0.getD v5.toNat 0).toNat : Int)) = 95 then (some (.inr (.inr false))) else (some (.inl (IntKind.i64.wrap (v5 + 1))))) else (some (.inl (IntKind.i64.wrap (v5 + 1))))) else (some (.inl (IntKind.i64.wrap (v5 + 1))))) else (if 122 < (((a0.getD v5.toNat 0).toNat : Int)) then (if ¬ (((a0.getD v5.toNat 0).toNat : Int)) = 45 then (if ¬ (((a0.getD v5.toNat 0).toNat : Int)) = 46 then (if ¬ (((a0.getD v5.toNat 0).toNat : Int)) = 95 then (some (.inr (.inr false))) else (some (.inl (IntKind.i64.wrap (v5 + 1))))) else (some (.inl (IntKind.i64.wrap (v5 + 1))))) else (some (.inl (IntKind.i64.wrap (v5 + 1))))) else (some (.inl (IntKind.i64.wrap (v5 + 1)))))) else (if 90 < (((a0.getD v5.toNat 0).toNat : Int)) then (if (((a0.getD v5.toNat 0).toNat : Int)) < 97 then (if ¬ (((a0.getD v5.toNat 0).toNat : Int)) = 45 then (if ¬ (((a0.getD v5.toNat 0).toNat : Int)) = 46 then (if ¬ (((a0.getD v5.toNat 0).toNat : Int)) = 95 then (some (.inr (.inr false))) else (some (.inl (IntKind.i64.wrap (v5 + 1))))) else (some (.inl (IntKind.i64.wrap (v5 + 1))))) else (some (.inl (IntKind.i64.wrap (v5 + 1))))) else (if 122 < (((a0.getD v5.toNat 0).toNat : Int)) then (if ¬ (((a0.getD v5.toNat 0).toNat : Int)) = 45 then (if ¬ (((a0.getD v5.toNat 0).toNat : Int)) = 46 then (if ¬ (((a0.getD v5.toNat 0).toNat : Int)) = 95 then (some (.inr (.inr false))) else (some (.inl (IntKind.i64.wrap (v5 + 1))))) else (some (.inl (IntKind.i64.wrap (v5 + 1))))) else (some (.inl (IntKind.i64.wrap (v5 + 1))))) else (some (.inl (IntKind.i64.wrap (v5 + 1)))))) else (some (.inl (IntKind.i64.wrap (v5 + 1)))))) else (if 57 < (((a0.getD v5.toNat 0).toNat : Int)) then (if (((a0.getD v5.toNat 0).toNat : Int)) < 65 then (if (((a0.getD v5.toNat 0).toNat : Int)) < 97 then (if ¬ (((a0.getD v5.toNat 0).toNat : Int)) = 45 then (if ¬ (((a0.getD v5.toNat 0).toNat : Int)) = 46 then (if ¬ (((a0.getD v5.toNat 0).toNat : Int)) = 95 then (some (.inr (.inr false))) else (some (.inl (IntKind.i64.wrap (v5 + 1))))) else (some (.inl (IntKind.i64.wrap (v5 + 1))))) else (some (.inl (IntKind.i64.wrap (v5 + 1))))) else (if 122 < (((a0.getD v5.toNat 0).toNat : Int)) then (if ¬ (((a0.getD v5.toNat 0).toNat : Int)) = 45 then (if ¬ (((a0.getD v5.toNat 0).toNat : Int)) = 46 then (if ¬ (((a0.getD v5.toNat 0).toNat : Int)) = 95 then (some (.inr (.inr false))) else (some (.inl (IntKind.i64.wrap (v5 + 1))))) else (some (.inl (IntKind.i64.wrap (v5 + 1))))) else (some (.inl (IntKind.i64.wrap (v5 + 1))))) else (some (.inl (IntKind.i64.wrap (v5 + 1)))))) else (if 90 < (((a0.getD v5.toNat 0).toNat : Int)) then (if (((a0.getD v5.toNat 0).toNat : Int)) < 97 then (if ¬ (((a0.getD v5.toNat 0).toNat : Int)) = 45 then (if ¬ (((a0.getD v5.toNat 0).toNat : Int)) = 46 then (if ¬ (((a0.getD v5.toNat 0).toNat : Int)) = 95 then (some (.inr (.inr false))) else (some (.inl (IntKind.i64.wrap (v5 + 1))))) else (some (.inl (IntKind.i64.wrap (v5 + 1))))) else (some (.inl (IntKind.i64.wrap (v5 + 1))))) else (if 122 < (((a0.getD v5.toNat 0).toNat : Int)) then (if ¬ (((a0.getD v5.toNat 0).toNat : Int)) = 45 then (if ¬ (((a0.getD v5.toNat 0).toNat : Int)) = 46 then (if ¬ (((a0.getD v5.toNat 0).toNat : Int)) = 95 then (some (.inr (.inr false))) else (some (.inl (IntKind.i64.wrap (v5 + 1))))) else (some (.inl (IntKind.i64.wrap (v5 + 1))))) else (some (.inl (IntKind.i64.wrap (v5 + 1))))) else (some (.inl (IntKind.i64.wrap (v5 + 1)))))) else (some (.inl (IntKind.i64.wrap (v5 + 1)))))) else (some (.inl (IntKind.i64.wrap (v5 + 1))))))) else (some (.inr (.inl ())))

noncomputable def F113 (a0 : List UInt8) : Option Bool :=
 (loopO (fun (s : Int) => F113_b4 a0 s) 0).bind fun y => Sum.elim (fun (e : Unit) => F113_k4 a0) (fun (q : Bool) => some q) y

theorem F113_ok {H : IHeap} {K : IEnd → IHeap → Prop} (a0 : List UInt8) {r : Bool} (h : F113 a0 = some r) (hK : K (.ret (.v (.bool r))) H) : ICalls prog 113 [.v (str a0)] H K := by
 refine ICalls_iwp (N := 56) func113 (by kernel_rfl) rfl (by kernel_rfl) (by kernel_rfl) fun cb hcb hw hbd hnb => ?_
 clear hbd hnb
 subst hcb
 unfold F113 at h
 refine wG ?_
 refine IWp_seqF fun cb hc2 => ?_
 refine wG ?_
 obtain ⟨y4, hl4q, hk4⟩ := bind_some' h
 refine IWp_tailC (fun tm' H' => .inl () = y4 ∧ H = H' ∧ tm' 0 = .v (str a0)) ?_ fun cb hc4 => ?_
 ·rintro tm4e H4e ⟨rfl, rfl, t0_4e⟩
  have h : F113_k4 a0 = some r := hk4
  unfold F113_k4 at h
  simp -implicitDefEqProofs only [go_sem]
  subst hc2
  refine IWp_seqF fun cb hc6 => ?_
  refine vF t0_4e ?_
  refine splitG_f h rfl ?_ ?_
  ·intro c7 h
   refine sF t0_4e ?_
   subst hc6
   refine vO ?_
   obtain rfl := Option.some.inj h
   refine sG ?_
   exact retA (.refl hw) hK
  intro c7 h
  simp (disch := omega) at c7
  refine sG ?_
  subst hc6
  refine vO ?_
  obtain rfl := Option.some.inj h
  refine sG ?_
  exact retA (.refl hw) hK
 refine IWp_block ?_
 refine IWp_loopF (fun (s : Int) tm' H' => H = H' ∧ tm' 0 = .v (str a0) ∧ tm' 3 = .v (.int .i64 s)) hl4q ?_ ?_
 ·exact sm
 rintro I4 hI4 v5 x4 tm4 H4 ⟨rfl, t0_4, t3_4⟩ h hret4
 replace h : F113_b4 a0 v5 = some x4 := h
 unfold F113_b4 at h
 refine IWp_seqF fun cb hc8 => ?_
 refine wF (nd t0_4 t3_4) ?_
 refine IWp_cond_i h eA rfl ?_ ?_
 ·intro c10 h
  refine vO ?_
  subst hc8
  refine IWp_seqF fun cb hc11 => ?_
  refine IWp_block ?_
  obtain ⟨g13, h⟩ := gd_some.1 h
  refine wF (nd t0_4 t3_4) ?_
  refine IWp_seqF fun cb hc14 => ?_
  refine vG ?_
  refine splitG_f h eA ?_ ?_
  ·intro c60 h
   simp (disch := omega) at c60
   refine sG ?_
   refine splitG_f h eA ?_ ?_
   ·intro c36 h
    simp (disch := omega) at c36
    refine sG ?_
    refine splitG_f h eA ?_ ?_
    ·intro c24 h
     simp (disch := omega) at c24
     refine sG ?_
     refine splitG_f h eA ?_ ?_
     ·intro c18 h
      simp (disch := omega) at c18
      refine sG ?_
      refine splitG_f h eA ?_ ?_
      ·intro c17 h
       simp (disch := omega) at c17
       refine sG ?_
       subst hc14
       refine IWp_cond_i h eA rfl ?_ ?_
       ·intro c15 h
        simp (disch := omega) at c15
        refine wG ?_
        refine vO ?_
        obtain rfl := Option.some.inj h
        obtain rfl := hret4 _ rfl
        replace h : some false = some r := hk4
        obtain rfl := Option.some.inj h
        refine sG ?_
        exact retA (.refl hw) hK
       intro c15 h
       simp (disch := omega) at c15
       refine vO ?_
       subst hc11
       refine vF t3_4 ?_
       obtain rfl := Option.some.inj h
       refine loopN_mk hI4 (IntKind.i64.wrap (v5 + 1)) ?_
       exact smF t0_4
      intro c17 h
      simp (disch := omega) at c17
      refine sG ?_
      subst hc14
      refine IWp_cond_f eA rfl ?_
      refine vO ?_
      subst hc11
      refine vF t3_4 ?_
      obtain rfl := Option.some.inj h
      refine loopN_mk hI4 (IntKind.i64.wrap (v5 + 1)) ?_
      exact smF t0_4
     intro c18 h
     simp (disch := omega) at c18
     refine sG ?_
     subst hc14
     refine IWp_cond_f eA rfl ?_
     refine vO ?_
     subst hc11
     refine vF t3_4 ?_
     obtain rfl := Option.some.inj h
     refine loopN_mk hI4 (IntKind.i64.wrap (v5 + 1)) ?_
     exact smF t0_4
    intro c24 h
    simp (disch := omega) at c24
    refine sG ?_
    refine splitG_f h eA ?_ ?_
    ·intro c23 h
     simp (disch := omega) at c23
     refine sG ?_
     refine splitG_f h eA ?_ ?_
     ·intro c22 h
      simp (disch := omega) at c22
      refine sG ?_
      refine splitG_f h eA ?_ ?_
      ·intro c21 h
       simp (disch := omega) at c21
       refine sG ?_
       subst hc14
       refine IWp_cond_i h eA rfl ?_ ?_
       ·intro c19 h
        simp (disch := omega) at c19
        refine wG ?_
        refine vO ?_
        obtain rfl := Option.some.inj h
        obtain rfl := hret4 _ rfl
        replace h : some false = some r := hk4
        obtain rfl := Option.some.inj h
        refine sG ?_
        exact retA (.refl hw) hK
       intro c19 h
       simp (disch := omega) at c19
       refine vO ?_
       subst hc11
       refine vF t3_4 ?_
       obtain rfl := Option.some.inj h
       refine loopN_mk hI4 (IntKind.i64.wrap (v5 + 1)) ?_
       exact smF t0_4
      intro c21 h
      simp (disch := omega) at c21
      refine sG ?_
      subst hc14
      refine IWp_cond_f eA rfl ?_
      refine vO ?_
      subst hc11
      refine vF t3_4 ?_
      obtain rfl := Option.some.inj h
      refine loopN_mk hI4 (IntKind.i64.wrap (v5 + 1)) ?_
      exact smF t0_4
     intro c22 h
     simp (disch := omega) at c22
     refine sG ?_
     subst hc14
     refine IWp_cond_f eA rfl ?_
     refine vO ?_
     subst hc11
     refine vF t3_4 ?_
     obtain rfl := Option.some.inj h
     refine loopN_mk hI4 (IntKind.i64.wrap (v5 + 1)) ?_
     exact smF t0_4
    intro c23 h
    simp (disch := omega) at c23
    refine sG ?_
    subst hc14
    refine IWp_cond_f eA rfl ?_
    refine vO ?_
    subst hc11
    refine vF t3_4 ?_
    obtain rfl := Option.some.inj h
    refine loopN_mk hI4 (IntKind.i64.wrap (v5 + 1)) ?_
    exact smF t0_4
   intro c36 h
   simp (disch := omega) at c36
   refine sG ?_
   refine splitG_f h eA ?_ ?_
   ·intro c35 h
    simp (disch := omega) at c35
    refine sG ?_
    refine splitG_f h eA ?_ ?_
    ·intro c34 h
     simp (disch := omega) at c34
     refine sG ?_
     refine splitG_f h eA ?_ ?_
     ·intro c28 h
      simp (disch := omega) at c28
      refine sG ?_
      refine splitG_f h eA ?_ ?_
      ·intro c27 h
       simp (disch := omega) at c27
       refine sG ?_
       subst hc14
       refine IWp_cond_i h eA rfl ?_ ?_
       ·intro c25 h
        simp (disch := omega) at c25
        refine wG ?_
        refine vO ?_
        obtain rfl := Option.some.inj h
        obtain rfl := hret4 _ rfl
        replace h : some false = some r := hk4
        obtain rfl := Option.some.inj h
        refine sG ?_
        exact retA (.refl hw) hK
       intro c25 h
       simp (disch := omega) at c25
       refine vO ?_
       subst hc11
       refine vF t3_4 ?_
       obtain rfl := Option.some.inj h
       refine loopN_mk hI4 (IntKind.i64.wrap (v5 + 1)) ?_
       exact smF t0_4
      intro c27 h
      simp (disch := omega) at c27
      refine sG ?_
      subst hc14
      refine IWp_cond_f eA rfl ?_
      refine vO ?_
      subst hc11
      refine vF t3_4 ?_
      obtain rfl := Option.some.inj h
      refine loopN_mk hI4 (IntKind.i64.wrap (v5 + 1)) ?_
      exact smF t0_4
     intro c28 h
     simp (disch := omega) at c28
     refine sG ?_
     subst hc14
     refine IWp_cond_f eA rfl ?_
     refine vO ?_
     subst hc11
     refine vF t3_4 ?_
     obtain rfl := Option.some.inj h
     refine loopN_mk hI4 (IntKind.i64.wrap (v5 + 1)) ?_
     exact smF t0_4
    intro c34 h
    simp (disch := omega) at c34
    refine sG ?_
    refine splitG_f h eA ?_ ?_
    ·intro c33 h
     simp (disch := omega) at c33
     refine sG ?_
     refine splitG_f h eA ?_ ?_
     ·intro c32 h
      simp (disch := omega) at c32
      refine sG ?_
      refine splitG_f h eA ?_ ?_
      ·intro c31 h
       simp (disch := omega) at c31
       refine sG ?_
       subst hc14
       refine IWp_cond_i h eA rfl ?_ ?_
       ·intro c29 h
        simp (disch := omega) at c29
        refine wG ?_
        refine vO ?_
        obtain rfl := Option.some.inj h
        obtain rfl := hret4 _ rfl
        replace h : some false = some r := hk4
        obtain rfl := Option.some.inj h
        refine sG ?_
        exact retA (.refl hw) hK
       intro c29 h
       simp (disch := omega) at c29
       refine vO ?_
       subst hc11
       refine vF t3_4 ?_
       obtain rfl := Option.some.inj h
       refine loopN_mk hI4 (IntKind.i64.wrap (v5 + 1)) ?_
       exact smF t0_4
      intro c31 h
      simp (disch := omega) at c31
      refine sG ?_
      subst hc14
      refine IWp_cond_f eA rfl ?_
      refine vO ?_
      subst hc11
      refine vF t3_4 ?_
      obtain rfl := Option.some.inj h
      refine loopN_mk hI4 (IntKind.i64.wrap (v5 + 1)) ?_
      exact smF t0_4
     intro c32 h
     simp (disch := omega) at c32
     refine sG ?_
     subst hc14
     refine IWp_cond_f eA rfl ?_
     refine vO ?_
     subst hc11
     refine vF t3_4 ?_
     obtain rfl := Option.some.inj h
     refine loopN_mk hI4 (IntKind.i64.wrap (v5 + 1)) ?_
     exact smF t0_4
    intro c33 h
    simp (disch := omega) at c33
    refine sG ?_
    subst hc14
    refine IWp_cond_f eA rfl ?_
    refine vO ?_
    subst hc11
    refine vF t3_4 ?_
    obtain rfl := Option.some.inj h
    refine loopN_mk hI4 (IntKind.i64.wrap (v5 + 1)) ?_
    exact smF t0_4
   intro c35 h
   simp (disch := omega) at c35
   refine sG ?_
   subst hc14
   refine IWp_cond_f eA rfl ?_
   refine vO ?_
   subst hc11
   refine vF t3_4 ?_
   obtain rfl := Option.some.inj h
   refine loopN_mk hI4 (IntKind.i64.wrap (v5 + 1)) ?_
   exact smF t0_4
  intro c60 h
  simp (disch := omega) at c60
  refine sG ?_
  refine splitG_f h eA ?_ ?_
  ·intro c59 h
   simp (disch := omega) at c59
   refine sG ?_
   refine splitG_f h eA ?_ ?_
   ·intro c58 h
    simp (disch := omega) at c58
    refine sG ?_
    refine splitG_f h eA ?_ ?_
    ·intro c46 h
     simp (disch := omega) at c46
     refine sG ?_
     refine splitG_f h eA ?_ ?_
     ·intro c40 h
      simp (disch := omega) at c40
      refine sG ?_
      refine splitG_f h eA ?_ ?_
      ·intro c39 h
       simp (disch := omega) at c39
       refine sG ?_
       subst hc14
       refine IWp_cond_i h eA rfl ?_ ?_
       ·intro c37 h
        simp (disch := omega) at c37
        refine wG ?_
        refine vO ?_
        obtain rfl := Option.some.inj h
        obtain rfl := hret4 _ rfl
        replace h : some false = some r := hk4
        obtain rfl := Option.some.inj h
        refine sG ?_
        exact retA (.refl hw) hK
       intro c37 h
       simp (disch := omega) at c37
       refine vO ?_
       subst hc11
       refine vF t3_4 ?_
       obtain rfl := Option.some.inj h
       refine loopN_mk hI4 (IntKind.i64.wrap (v5 + 1)) ?_
       exact smF t0_4
      intro c39 h
      simp (disch := omega) at c39
      refine sG ?_
      subst hc14
      refine IWp_cond_f eA rfl ?_
      refine vO ?_
      subst hc11
      refine vF t3_4 ?_
      obtain rfl := Option.some.inj h
      refine loopN_mk hI4 (IntKind.i64.wrap (v5 + 1)) ?_
      exact smF t0_4
     intro c40 h
     simp (disch := omega) at c40
     refine sG ?_
     subst hc14
     refine IWp_cond_f eA rfl ?_
     refine vO ?_
     subst hc11
     refine vF t3_4 ?_
     obtain rfl := Option.some.inj h
     refine loopN_mk hI4 (IntKind.i64.wrap (v5 + 1)) ?_
     exact smF t0_4
    intro c46 h
    simp (disch := omega) at c46
    refine sG ?_
    refine splitG_f h eA ?_ ?_
    ·intro c45 h
     simp (disch := omega) at c45
     refine sG ?_
     refine splitG_f h eA ?_ ?_
     ·intro c44 h
      simp (disch := omega) at c44
      refine sG ?_
      refine splitG_f h eA ?_ ?_
      ·intro c43 h
       simp (disch := omega) at c43
       refine sG ?_
       subst hc14
       refine IWp_cond_i h eA rfl ?_ ?_
       ·intro c41 h
        simp (disch := omega) at c41
        refine wG ?_
        refine vO ?_
        obtain rfl := Option.some.inj h
        obtain rfl := hret4 _ rfl
        replace h : some false = some r := hk4
        obtain rfl := Option.some.inj h
        refine sG ?_
        exact retA (.refl hw) hK
       intro c41 h
       simp (disch := omega) at c41
       refine vO ?_
       subst hc11
       refine vF t3_4 ?_
       obtain rfl := Option.some.inj h
       refine loopN_mk hI4 (IntKind.i64.wrap (v5 + 1)) ?_
       exact smF t0_4
      intro c43 h
      simp (disch := omega) at c43
      refine sG ?_
      subst hc14
      refine IWp_cond_f eA rfl ?_
      refine vO ?_
      subst hc11
      refine vF t3_4 ?_
      obtain rfl := Option.some.inj h
      refine loopN_mk hI4 (IntKind.i64.wrap (v5 + 1)) ?_
      exact smF t0_4
     intro c44 h
     simp (disch := omega) at c44
     refine sG ?_
     subst hc14
     refine IWp_cond_f eA rfl ?_
     refine vO ?_
     subst hc11
     refine vF t3_4 ?_
     obtain rfl := Option.some.inj h
     refine loopN_mk hI4 (IntKind.i64.wrap (v5 + 1)) ?_
     exact smF t0_4
    intro c45 h
    simp (disch := omega) at c45
    refine sG ?_
    subst hc14
    refine IWp_cond_f eA rfl ?_
    refine vO ?_
    subst hc11
    refine vF t3_4 ?_
    obtain rfl := Option.some.inj h
    refine loopN_mk hI4 (IntKind.i64.wrap (v5 + 1)) ?_
    exact smF t0_4
   intro c58 h
   simp (disch := omega) at c58
   refine sG ?_
   refine splitG_f h eA ?_ ?_
   ·intro c57 h
    simp (disch := omega) at c57
    refine sG ?_
    refine splitG_f h eA ?_ ?_
    ·intro c56 h
     simp (disch := omega) at c56
     refine sG ?_
     refine splitG_f h eA ?_ ?_
     ·intro c50 h
      simp (disch := omega) at c50
      refine sG ?_
      refine splitG_f h eA ?_ ?_
      ·intro c49 h
       simp (disch := omega) at c49
       refine sG ?_
       subst hc14
       refine IWp_cond_i h eA rfl ?_ ?_
       ·intro c47 h
        simp (disch := omega) at c47
        refine wG ?_
        refine vO ?_
        obtain rfl := Option.some.inj h
        obtain rfl := hret4 _ rfl
        replace h : some false = some r := hk4
        obtain rfl := Option.some.inj h
        refine sG ?_
        exact retA (.refl hw) hK
       intro c47 h
       simp (disch := omega) at c47
       refine vO ?_
       subst hc11
       refine vF t3_4 ?_
       obtain rfl := Option.some.inj h
       refine loopN_mk hI4 (IntKind.i64.wrap (v5 + 1)) ?_
       exact smF t0_4
      intro c49 h
      simp (disch := omega) at c49
      refine sG ?_
      subst hc14
      refine IWp_cond_f eA rfl ?_
      refine vO ?_
      subst hc11
      refine vF t3_4 ?_
      obtain rfl := Option.some.inj h
      refine loopN_mk hI4 (IntKind.i64.wrap (v5 + 1)) ?_
      exact smF t0_4
     intro c50 h
     simp (disch := omega) at c50
     refine sG ?_
     subst hc14
     refine IWp_cond_f eA rfl ?_
     refine vO ?_
     subst hc11
     refine vF t3_4 ?_
     obtain rfl := Option.some.inj h
     refine loopN_mk hI4 (IntKind.i64.wrap (v5 + 1)) ?_
     exact smF t0_4
    intro c56 h
    simp (disch := omega) at c56
    refine sG ?_
    refine splitG_f h eA ?_ ?_
    ·intro c55 h
     simp (disch := omega) at c55
     refine sG ?_
     refine splitG_f h eA ?_ ?_
     ·intro c54 h
      simp (disch := omega) at c54
      refine sG ?_
      refine splitG_f h eA ?_ ?_
      ·intro c53 h
       simp (disch := omega) at c53
       refine sG ?_
       subst hc14
       refine IWp_cond_i h eA rfl ?_ ?_
       ·intro c51 h
        simp (disch := omega) at c51
        refine wG ?_
        refine vO ?_
        obtain rfl := Option.some.inj h
        obtain rfl := hret4 _ rfl
        replace h : some false = some r := hk4
        obtain rfl := Option.some.inj h
        refine sG ?_
        exact retA (.refl hw) hK
       intro c51 h
       simp (disch := omega) at c51
       refine vO ?_
       subst hc11
       refine vF t3_4 ?_
       obtain rfl := Option.some.inj h
       refine loopN_mk hI4 (IntKind.i64.wrap (v5 + 1)) ?_
       exact smF t0_4
      intro c53 h
      simp (disch := omega) at c53
      refine sG ?_
      subst hc14
      refine IWp_cond_f eA rfl ?_
      refine vO ?_
      subst hc11
      refine vF t3_4 ?_
      obtain rfl := Option.some.inj h
      refine loopN_mk hI4 (IntKind.i64.wrap (v5 + 1)) ?_
      exact smF t0_4
     intro c54 h
     simp (disch := omega) at c54
     refine sG ?_
     subst hc14
     refine IWp_cond_f eA rfl ?_
     refine vO ?_
     subst hc11
     refine vF t3_4 ?_
     obtain rfl := Option.some.inj h
     refine loopN_mk hI4 (IntKind.i64.wrap (v5 + 1)) ?_
     exact smF t0_4
    intro c55 h
    simp (disch := omega) at c55
    refine sG ?_
    subst hc14
    refine IWp_cond_f eA rfl ?_
    refine vO ?_
    subst hc11
    refine vF t3_4 ?_
    obtain rfl := Option.some.inj h
    refine loopN_mk hI4 (IntKind.i64.wrap (v5 + 1)) ?_
    exact smF t0_4
   intro c57 h
   simp (disch := omega) at c57
   refine sG ?_
   subst hc14
   refine IWp_cond_f eA rfl ?_
   refine vO ?_
   subst hc11
   refine vF t3_4 ?_
   obtain rfl := Option.some.inj h
   refine loopN_mk hI4 (IntKind.i64.wrap (v5 + 1)) ?_
   exact smF t0_4
  intro c59 h
  simp (disch := omega) at c59
  refine sG ?_
  subst hc14
  refine IWp_cond_f eA rfl ?_
  refine vO ?_
  subst hc11
  refine vF t3_4 ?_
  obtain rfl := Option.some.inj h
  refine loopN_mk hI4 (IntKind.i64.wrap (v5 + 1)) ?_
  exact smF t0_4
 intro c10 h
 simp (disch := omega) at c10
 refine vO ?_
 obtain rfl := Option.some.inj h
 have hy4 := hret4 _ rfl
 refine hc4 _ _ ?_
 refine .same ⟨hy4, rfl, by (simp -implicitDefEqProofs (disch := omega) [go_sem, t0_4] <;> omega)⟩

/-! cardcase/cardcaseref13.Href -/

noncomputable def F71 (a0 : List UInt8) : Option Bool :=
 if 6 < (a0.length : Int) then (gd (0 ≤ 6) (gd (6 ≤ a0.length) (if (a0.take 6) = ([47, 98, 111, 111, 107, 47]) then ((F113 (a0.drop 6)).bind fun (x5 : Bool) => some x5) else (some false)))) else (some false)

theorem F71_ok {H : IHeap} {K : IEnd → IHeap → Prop} (a0 : List UInt8) {r : Bool} (h : F71 a0 = some r) (hK : K (.ret (.v (.bool r))) H) : ICalls prog 71 [.v (str a0)] H K := by
 refine ICalls_iwp (N := 16) func71 (by kernel_rfl) rfl (by kernel_rfl) (by kernel_rfl) fun cb hcb hw hbd hnb => ?_
 clear hbd hnb
 subst hcb
 unfold F71 at h
 refine wG ?_
 refine IWp_seqF fun cb hc2 => ?_
 refine vG ?_
 refine splitG_f h rfl ?_ ?_
 ·intro c7 h
  obtain ⟨g3, h⟩ := gS h
  obtain ⟨g4, h⟩ := gd_some.1 h
  refine sG ?_
  refine splitG_f h rfl ?_ ?_
  ·intro c6 h
   refine sG ?_
   obtain ⟨x5, hx5, h⟩ := bind_some' h
   refine F113_ok (a0.drop 6) hx5 ?_
   refine sG ?_
   subst hc2
   refine vO ?_
   obtain rfl := Option.some.inj h
   refine sG ?_
   exact retA (.refl hw) hK
  intro c6 h
  refine sG ?_
  subst hc2
  refine vO ?_
  obtain rfl := Option.some.inj h
  refine sG ?_
  exact retA (.refl hw) hK
 intro c7 h
 simp (disch := omega) at c7
 refine sG ?_
 subst hc2
 refine vO ?_
 obtain rfl := Option.some.inj h
 refine sG ?_
 exact retA (.refl hw) hK

/-! cardcase/cardcaseref20.Uuid -/

noncomputable def F72_k4 (a0 : List UInt8) : Option Bool :=
 if 1 ≤ (a0.length : Int) then (some (decide ((a0.length : Int) ≤ 64))) else (some false)

noncomputable def F72_b4 (a0 : List UInt8) (v5 : Int) : Option (Int ⊕ (Unit ⊕ Bool)) :=
 if v5 < (a0.length : Int) then (gd (0 ≤ v5 ∧ v5 < a0.length) (if (((a0.getD v5.toNat 0).toNat : Int)) < 33 then (some (.inr (.inr false))) else (if 126 < (((a0.getD v5.toNat 0).toNat : Int)) then (some (.inr (.inr false))) else (some (.inl (IntKind.i64.wrap (v5 + 1))))))) else (some (.inr (.inl ())))

noncomputable def F72 (a0 : List UInt8) : Option Bool :=
 (loopO (fun (s : Int) => F72_b4 a0 s) 0).bind fun y => Sum.elim (fun (e : Unit) => F72_k4 a0) (fun (q : Bool) => some q) y

theorem F72_ok {H : IHeap} {K : IEnd → IHeap → Prop} (a0 : List UInt8) {r : Bool} (h : F72 a0 = some r) (hK : K (.ret (.v (.bool r))) H) : ICalls prog 72 [.v (str a0)] H K := by
 refine ICalls_iwp (N := 28) func72 (by kernel_rfl) rfl (by kernel_rfl) (by kernel_rfl) fun cb hcb hw hbd hnb => ?_
 clear hbd hnb
 subst hcb
 unfold F72 at h
 refine wG ?_
 refine IWp_seqF fun cb hc2 => ?_
 refine wG ?_
 obtain ⟨y4, hl4q, hk4⟩ := bind_some' h
 refine IWp_tailC (fun tm' H' => .inl () = y4 ∧ H = H' ∧ tm' 0 = .v (str a0)) ?_ fun cb hc4 => ?_
 ·rintro tm4e H4e ⟨rfl, rfl, t0_4e⟩
  have h : F72_k4 a0 = some r := hk4
  unfold F72_k4 at h
  simp -implicitDefEqProofs only [go_sem]
  subst hc2
  refine IWp_seqF fun cb hc6 => ?_
  refine vF t0_4e ?_
  refine splitG_f h rfl ?_ ?_
  ·intro c7 h
   refine sF t0_4e ?_
   subst hc6
   refine vO ?_
   obtain rfl := Option.some.inj h
   refine sG ?_
   exact retA (.refl hw) hK
  intro c7 h
  simp (disch := omega) at c7
  refine sG ?_
  subst hc6
  refine vO ?_
  obtain rfl := Option.some.inj h
  refine sG ?_
  exact retA (.refl hw) hK
 refine IWp_block ?_
 refine IWp_loopF (fun (s : Int) tm' H' => H = H' ∧ tm' 0 = .v (str a0) ∧ tm' 3 = .v (.int .i64 s)) hl4q ?_ ?_
 ·exact sm
 rintro I4 hI4 v5 x4 tm4 H4 ⟨rfl, t0_4, t3_4⟩ h hret4
 replace h : F72_b4 a0 v5 = some x4 := h
 unfold F72_b4 at h
 refine IWp_seqF fun cb hc8 => ?_
 refine wF (nd t0_4 t3_4) ?_
 refine IWp_cond_i h eA rfl ?_ ?_
 ·intro c10 h
  refine vO ?_
  subst hc8
  refine IWp_seqF fun cb hc11 => ?_
  refine IWp_block ?_
  refine IWp_seqF fun cb hc12 => ?_
  obtain ⟨g13, h⟩ := gd_some.1 h
  refine vF (nd t0_4 t3_4) ?_
  refine splitG_f h eA ?_ ?_
  ·intro c17 h
   simp (disch := omega) at c17
   refine sG ?_
   subst hc12
   refine IWp_cond_t eA rfl ?_
   refine wG ?_
   refine vO ?_
   obtain rfl := Option.some.inj h
   obtain rfl := hret4 _ rfl
   replace h : some false = some r := hk4
   obtain rfl := Option.some.inj h
   refine sG ?_
   exact retA (.refl hw) hK
  intro c17 h
  simp (disch := omega) at c17
  refine sF (nd t0_4 t3_4) ?_
  subst hc12
  refine IWp_cond_i h eA rfl ?_ ?_
  ·intro c15 h
   simp (disch := omega) at c15
   refine wG ?_
   refine vO ?_
   obtain rfl := Option.some.inj h
   obtain rfl := hret4 _ rfl
   replace h : some false = some r := hk4
   obtain rfl := Option.some.inj h
   refine sG ?_
   exact retA (.refl hw) hK
  intro c15 h
  simp (disch := omega) at c15
  refine vO ?_
  subst hc11
  refine vF t3_4 ?_
  obtain rfl := Option.some.inj h
  refine loopN_mk hI4 (IntKind.i64.wrap (v5 + 1)) ?_
  exact smF t0_4
 intro c10 h
 simp (disch := omega) at c10
 refine vO ?_
 obtain rfl := Option.some.inj h
 have hy4 := hret4 _ rfl
 refine hc4 _ _ ?_
 refine .same ⟨hy4, rfl, by (simp -implicitDefEqProofs (disch := omega) [go_sem, t0_4] <;> omega)⟩

/-! cardcase/cardcaseref16.most -/

noncomputable def F76 (a0 : Int) : Option Int :=
 if 6 ≤ a0 then (some 8) else (some 1)

theorem F76_ok {H : IHeap} {K : IEnd → IHeap → Prop} (a0 : Int) {r : Int} (h : F76 a0 = some r) (hK : K (.ret (.v (.int .i64 r))) H) : ICalls prog 76 [.v (.int .i64 a0)] H K := by
 refine ICalls_iwp (N := 5) func76 (by kernel_rfl) rfl (by kernel_rfl) (by kernel_rfl) fun cb hcb hw hbd hnb => ?_
 clear hbd hnb
 subst hcb
 unfold F76 at h
 refine wG ?_
 refine IWp_seqF fun cb hc2 => ?_
 refine wG ?_
 refine IWp_cond_i h eA rfl ?_ ?_
 ·intro c4 h
  refine wG ?_
  refine vO ?_
  obtain rfl := Option.some.inj h
  refine sG ?_
  exact retA (.refl hw) hK
 intro c4 h
 simp (disch := omega) at c4
 refine vO ?_
 subst hc2
 refine wG ?_
 refine vO ?_
 obtain rfl := Option.some.inj h
 refine sG ?_
 exact retA (.refl hw) hK

/-! cardcase/cardcaseref16.Values -/

noncomputable def F47_k5  : Option Bool :=
 some true

noncomputable def F47_k14 (v6 : Int) : Option (Int ⊕ (Unit ⊕ Bool)) :=
 some (.inl (IntKind.i64.wrap (v6 + 1)))

noncomputable def F47_b14 (a0 : Int) (a1 : List (List UInt8)) (v6 : Int) (v15 : Int) : Option (Int ⊕ (Unit ⊕ Bool)) :=
 gd (0 ≤ v6 ∧ v6 < a1.length) (if v15 < (((a1.getD v6.toNat []).length : Int)) then (gd (0 ≤ v15 ∧ v15 < (a1.getD v6.toNat []).length) (if ((((a1.getD v6.toNat []).getD v15.toNat 0).toNat : Int)) < 32 then (if ¬ ((((a1.getD v6.toNat []).getD v15.toNat 0).toNat : Int)) = 10 then (some (.inr (.inr false))) else (if ¬ a0 = 5 then (some (.inr (.inr false))) else (some (.inl (IntKind.i64.wrap (v15 + 1)))))) else (some (.inl (IntKind.i64.wrap (v15 + 1)))))) else (some (.inr (.inl ()))))

noncomputable def F47_k12 (a0 : Int) (a1 : List (List UInt8)) (v6 : Int) : Option (Int ⊕ (Unit ⊕ Bool)) :=
 (loopO (fun (s : Int) => F47_b14 a0 a1 v6 s) 0).bind fun y => Sum.elim (fun (e : Unit) => F47_k14 v6) (fun (q : Bool) => some (.inr (.inr q))) y

noncomputable def F47_b5 (a0 : Int) (a1 : List (List UInt8)) (v6 : Int) : Option (Int ⊕ (Unit ⊕ Bool)) :=
 if v6 < (a1.length : Int) then (gd (0 ≤ v6 ∧ v6 < a1.length) (if (((a1.getD v6.toNat []).length : Int)) < 1 then (some (.inr (.inr false))) else (if 200 < (((a1.getD v6.toNat []).length : Int)) then (some (.inr (.inr false))) else (if 0 < v6 then (gd (0 ≤ (IntKind.i64.wrap (v6 - 1)) ∧ (IntKind.i64.wrap (v6 - 1)) < a1.length) (if ¬ Op.bytesLess (a1.getD (IntKind.i64.wrap (v6 - 1)).toNat []) (a1.getD v6.toNat []) = true then (some (.inr (.inr false))) else (F47_k12 a0 a1 v6))) else (F47_k12 a0 a1 v6))))) else (some (.inr (.inl ())))

noncomputable def F47_k2 (a0 : Int) (a1 : List (List UInt8)) : Option Bool :=
 (loopO (fun (s : Int) => F47_b5 a0 a1 s) 0).bind fun y => Sum.elim (fun (e : Unit) => F47_k5) (fun (q : Bool) => some q) y

noncomputable def F47 (a0 : Int) (a1 : List (List UInt8)) : Option Bool :=
 (F76 a0).bind fun (x40 : Int) => if x40 < (a1.length : Int) then (some false) else (if a0 = 0 then (if ¬ (a1.length : Int) = 1 then (some false) else (F47_k2 a0 a1)) else (F47_k2 a0 a1))

theorem F47_ok {H : IHeap} {K : IEnd → IHeap → Prop} (a0 : Int) (a1 : List (List UInt8)) {r : Bool} (h : F47 a0 a1 = some r) (hK : K (.ret (.v (.bool r))) H) : ICalls prog 47 [.v (.int .i64 a0), .sl 1 (a1.map fun x => [.v (str x)])] H K := by
 refine ICalls_iwp (N := 83) func47 (by kernel_rfl) rfl (by kernel_rfl) (by kernel_rfl) fun cb hcb hw hbd hnb => ?_
 clear hbd hnb
 subst hcb
 unfold F47 at h
 refine wG ?_
 refine IWp_seqC (fun tm' H' => H = H' ∧ tm' 0 = .v (.int .i64 a0) ∧ tm' 1 = .sl 1 (a1.map fun x => [.v (str x)]) ∧ F47_k2 a0 a1 = some r) ?_ fun cb hc2 => ?_
 ·rintro tm2 H2 ⟨rfl, t0_2, t1_2, h⟩
  unfold F47_k2 at h
  refine IWp_seqF fun cb hc3 => ?_
  refine wG ?_
  obtain ⟨y5, hl5q, hk5⟩ := bind_some' h
  refine IWp_tailC (fun tm' H' => .inl () = y5 ∧ H = H') ?_ fun cb hc5 => ?_
  ·rintro tm5e H5e ⟨rfl, rfl⟩
   have h : F47_k5 = some r := hk5
   unfold F47_k5 at h
   simp -implicitDefEqProofs only [go_sem]
   subst hc3
   refine wG ?_
   refine vO ?_
   obtain rfl := Option.some.inj h
   refine sG ?_
   exact retA (.refl hw) hK
  refine IWp_block ?_
  refine IWp_loopF (fun (s : Int) tm' H' => H = H' ∧ tm' 0 = .v (.int .i64 a0) ∧ tm' 1 = .sl 1 (a1.map fun x => [.v (str x)]) ∧ tm' 5 = .v (.int .i64 s)) hl5q ?_ ?_
  ·exact smF (nd t0_2 t1_2)
  rintro I5 hI5 v6 x5 tm5 H5 ⟨rfl, t0_5, t1_5, t5_5⟩ h hret5
  replace h : F47_b5 a0 a1 v6 = some x5 := h
  unfold F47_b5 at h
  refine IWp_seqF fun cb hc8 => ?_
  refine wF (nd t1_5 t5_5) ?_
  refine IWp_cond_i h eA rfl ?_ ?_
  ·intro c10 h
   refine vO ?_
   subst hc8
   refine IWp_seqF fun cb hc11 => ?_
   refine IWp_block ?_
   refine IWp_seqC (fun tm' H' => H = H' ∧ tm' 0 = .v (.int .i64 a0) ∧ tm' 1 = .sl 1 (a1.map fun x => [.v (str x)]) ∧ tm' 5 = .v (.int .i64 v6) ∧ F47_k12 a0 a1 v6 = some x5) ?_ fun cb hc12 => ?_
   ·rintro tm12 H12 ⟨rfl, t0_12, t1_12, t5_12, h⟩
    unfold F47_k12 at h
    refine wG ?_
    obtain ⟨y14, hl14q, hk14⟩ := bind_some' h
    refine IWp_tailC (fun tm' H' => .inl () = y14 ∧ H = H' ∧ tm' 0 = .v (.int .i64 a0) ∧ tm' 1 = .sl 1 (a1.map fun x => [.v (str x)]) ∧ tm' 5 = .v (.int .i64 v6)) ?_ fun cb hc14 => ?_
    ·rintro tm14e H14e ⟨rfl, rfl, t0_14e, t1_14e, t5_14e⟩
     have h : F47_k14 v6 = some x5 := hk14
     unfold F47_k14 at h
     simp -implicitDefEqProofs only [go_sem]
     subst hc11
     refine vF t5_14e ?_
     obtain rfl := Option.some.inj h
     refine loopN_mk hI5 (IntKind.i64.wrap (v6 + 1)) ?_
     exact smF (nd t0_14e t1_14e)
    refine IWp_block ?_
    refine IWp_loopF (fun (s : Int) tm' H' => H = H' ∧ tm' 0 = .v (.int .i64 a0) ∧ tm' 1 = .sl 1 (a1.map fun x => [.v (str x)]) ∧ tm' 5 = .v (.int .i64 v6) ∧ tm' 6 = .v (.int .i64 s)) hl14q ?_ ?_
    ·exact smF (nd t0_12 (nd t1_12 t5_12))
    rintro I14 hI14 v15 x14 tm14 H14 ⟨rfl, t0_14, t1_14, t5_14, t6_14⟩ h hret14
    replace h : F47_b14 a0 a1 v6 v15 = some x14 := h
    unfold F47_b14 at h
    refine IWp_seqF fun cb hc16 => ?_
    obtain ⟨g18, h⟩ := gd_some.1 h
    refine wF (nd t1_14 (nd t5_14 t6_14)) ?_
    refine IWp_cond_i h eA rfl ?_ ?_
    ·intro c19 h
     simp (disch := omega) at c19
     refine vO ?_
     subst hc16
     refine IWp_seqF fun cb hc20 => ?_
     refine IWp_block ?_
     obtain ⟨g22, h⟩ := gS h
     refine wF (nd t1_14 (nd t5_14 t6_14)) ?_
     refine IWp_seqF fun cb hc23 => ?_
     refine vG ?_
     refine splitG_f h eA ?_ ?_
     ·intro c28 h
      simp (disch := omega) at c28
      refine sG ?_
      refine splitG_f h eA ?_ ?_
      ·intro c27 h
       simp (disch := omega) at c27
       refine sG ?_
       subst hc23
       refine IWp_cond_t eA rfl ?_
       refine wG ?_
       refine vO ?_
       obtain rfl := Option.some.inj h
       obtain rfl := hret14 _ rfl
       replace h : some (.inr (.inr false)) = some x5 := hk14
       obtain rfl := Option.some.inj h
       obtain rfl := hret5 _ rfl
       replace h : some false = some r := hk5
       obtain rfl := Option.some.inj h
       refine sG ?_
       exact retA (.refl hw) hK
      intro c27 h
      simp (disch := omega) at c27
      refine sF t0_14 ?_
      subst hc23
      refine IWp_cond_i h eA rfl ?_ ?_
      ·intro c25 h
       refine wG ?_
       refine vO ?_
       obtain rfl := Option.some.inj h
       obtain rfl := hret14 _ rfl
       replace h : some (.inr (.inr false)) = some x5 := hk14
       obtain rfl := Option.some.inj h
       obtain rfl := hret5 _ rfl
       replace h : some false = some r := hk5
       obtain rfl := Option.some.inj h
       refine sG ?_
       exact retA (.refl hw) hK
      intro c25 h
      simp (disch := omega) at c25
      refine vO ?_
      subst hc20
      refine vF t6_14 ?_
      obtain rfl := Option.some.inj h
      refine loopN_mk hI14 (IntKind.i64.wrap (v15 + 1)) ?_
      exact smF (nd t0_14 (nd t1_14 t5_14))
     intro c28 h
     simp (disch := omega) at c28
     refine sG ?_
     subst hc23
     refine IWp_cond_f eA rfl ?_
     refine vO ?_
     subst hc20
     refine vF t6_14 ?_
     obtain rfl := Option.some.inj h
     refine loopN_mk hI14 (IntKind.i64.wrap (v15 + 1)) ?_
     exact smF (nd t0_14 (nd t1_14 t5_14))
    intro c19 h
    simp (disch := omega) at c19
    refine vO ?_
    obtain rfl := Option.some.inj h
    have hy14 := hret14 _ rfl
    refine hc14 _ _ ?_
    refine .same ⟨hy14, rfl, ?_, ?_, ?_⟩ <;> (simp -implicitDefEqProofs (disch := omega) [go_sem, t0_14, t1_14, t5_14] <;> omega)
   refine IWp_seqF fun cb hc29 => ?_
   refine IWp_drawP [] [0, 1, 2, 3, 4, 5, 6, 7, 8, 9, 10, 11, 12, 13, 14, 15, 16, 17, 18, 19, 20, 21, 22, 23, 24, 25, 26, 27, 28, 29] (by kernel_rfl) (by kernel_rfl) (fun _ _ _ _ h => h) ?_
   obtain ⟨g30, h⟩ := gd_some.1 h
   refine sF (nd t1_5 t5_5) ?_
   refine splitG_f h eA ?_ ?_
   ·intro c38 h
    simp (disch := omega) at c38
    refine sG ?_
    subst hc29
    refine IWp_cond_t eA rfl ?_
    refine wG ?_
    refine vO ?_
    obtain rfl := Option.some.inj h
    obtain rfl := hret5 _ rfl
    replace h : some false = some r := hk5
    obtain rfl := Option.some.inj h
    refine sG ?_
    exact retA (.refl hw) hK
   intro c38 h
   simp (disch := omega) at c38
   refine sF (nd t1_5 t5_5) ?_
   refine splitG_f h eA ?_ ?_
   ·intro c37 h
    simp (disch := omega) at c37
    refine sG ?_
    subst hc29
    refine IWp_cond_t eA rfl ?_
    refine wG ?_
    refine vO ?_
    obtain rfl := Option.some.inj h
    obtain rfl := hret5 _ rfl
    replace h : some false = some r := hk5
    obtain rfl := Option.some.inj h
    refine sG ?_
    exact retA (.refl hw) hK
   intro c37 h
   simp (disch := omega) at c37
   refine sF t5_5 ?_
   refine splitG_f h rfl ?_ ?_
   ·intro c36 h
    obtain ⟨g33, h⟩ := gd_some.1 h
    refine sF (nd t1_5 t5_5) ?_
    subst hc29
    refine IWp_cond_i h eA rfl ?_ ?_
    ·intro c34 h
     simp (disch := omega) at c34
     refine wG ?_
     refine vO ?_
     obtain rfl := Option.some.inj h
     obtain rfl := hret5 _ rfl
     replace h : some false = some r := hk5
     obtain rfl := Option.some.inj h
     refine sG ?_
     exact retA (.refl hw) hK
    intro c34 h
    simp (disch := omega) at c34
    refine vO ?_
    refine hc12 _ _ ?_
    refine .same ⟨rfl, ?_, ?_, ?_, h⟩ <;> (simp -implicitDefEqProofs (disch := omega) [go_sem, t0_5, t1_5, t5_5] <;> omega)
   intro c36 h
   simp (disch := omega) at c36
   refine sG ?_
   subst hc29
   refine IWp_cond_f eA rfl ?_
   refine vO ?_
   refine hc12 _ _ ?_
   refine .same ⟨rfl, ?_, ?_, ?_, h⟩ <;> (simp -implicitDefEqProofs (disch := omega) [go_sem, t0_5, t1_5, t5_5] <;> omega)
  intro c10 h
  simp (disch := omega) at c10
  refine vO ?_
  obtain rfl := Option.some.inj h
  have hy5 := hret5 _ rfl
  refine hc5 _ _ ?_
  refine .same ⟨hy5, rfl⟩
 refine IWp_seqF fun cb hc39 => ?_
 refine vG ?_
 obtain ⟨x40, hx40, h⟩ := bind_some' h
 refine F76_ok a0 hx40 ?_
 refine sG ?_
 refine splitG_f h rfl ?_ ?_
 ·intro c45 h
  refine sG ?_
  subst hc39
  refine IWp_cond_t eA rfl ?_
  refine wG ?_
  refine vO ?_
  obtain rfl := Option.some.inj h
  refine sG ?_
  exact retA (.refl hw) hK
 intro c45 h
 simp (disch := omega) at c45
 refine sG ?_
 refine splitG_f h rfl ?_ ?_
 ·intro c44 h
  refine sG ?_
  subst hc39
  refine IWp_cond_i h eA rfl ?_ ?_
  ·intro c42 h
   refine wG ?_
   refine vO ?_
   obtain rfl := Option.some.inj h
   refine sG ?_
   exact retA (.refl hw) hK
  intro c42 h
  simp (disch := omega) at c42
  refine vO ?_
  refine hc2 _ _ ?_
  refine .same ⟨rfl, ?_, ?_, h⟩ <;> (simp -implicitDefEqProofs (disch := omega) [go_sem] <;> omega)
 intro c44 h
 refine sG ?_
 subst hc39
 refine IWp_cond_f eA rfl ?_
 refine vO ?_
 refine hc2 _ _ ?_
 refine .same ⟨rfl, ?_, ?_, h⟩ <;> (simp -implicitDefEqProofs (disch := omega) [go_sem] <;> omega)

/-! cardcase/cardcaseref16.Right -/

noncomputable def F17_k5  : Option Bool :=
 some true

noncomputable def F17_b5 (a0 : List (List (List UInt8))) (v6 : Int) : Option (Int ⊕ (Unit ⊕ Bool)) :=
 if v6 < 8 then (gd (0 ≤ v6 ∧ v6 < 8) ((F47 v6 (a0.getD v6.toNat [])).bind fun (x14 : Bool) => if ¬ (x14 = true) then (some (.inr (.inr false))) else (some (.inl (IntKind.i64.wrap (v6 + 1)))))) else (some (.inr (.inl ())))

noncomputable def F17 (a0 : List (List (List UInt8))) : Option Bool :=
 gd (a0.length = 8) ((loopO (fun (s : Int) => F17_b5 a0 s) 0).bind fun y => Sum.elim (fun (e : Unit) => F17_k5) (fun (q : Bool) => some q) y)

theorem F17_ok {H : IHeap} {K : IEnd → IHeap → Prop} (a0 : List (List (List UInt8))) {r : Bool} (h : F17 a0 = some r) (hK : K (.ret (.v (.bool r))) H) : ICalls prog 17 [.ag (a0.map fun x => .sl 1 (x.map fun x => [.v (str x)]))] H K := by
 refine ICalls_iwp (N := 14) func17 (by kernel_rfl) rfl (by kernel_rfl) (by kernel_rfl) fun cb hcb hw hbd hnb => ?_
 clear hbd hnb
 subst hcb
 unfold F17 at h
 obtain ⟨g2, h⟩ := gd_some.1 h
 refine wG ?_
 refine IWp_seqF fun cb hc3 => ?_
 refine wG ?_
 obtain ⟨y5, hl5q, hk5⟩ := bind_some' h
 refine IWp_tailC (fun tm' H' => .inl () = y5 ∧ Ext H H' ∧ H.next + 1 ≤ H'.next ∧ H'.obj H.next = some (.cells ((a0.map fun x => .sl 1 (x.map fun x => [.v (str x)]))))) ?_ fun cb hc5 => ?_
 ·rintro tm5e H5e ⟨rfl, he5e, hl5e, ob0_5e⟩
  have h : F17_k5 = some r := hk5
  unfold F17_k5 at h
  simp -implicitDefEqProofs only [go_sem]
  subst hc3
  refine wG ?_
  refine vO ?_
  obtain rfl := Option.some.inj h
  refine sG ?_
  refine retG_pureE (extA he5e) rfl nbA hK
 refine IWp_block ?_
 refine IWp_loopF (fun (s : Int) tm' H' => Ext H H' ∧ H.next + 1 ≤ H'.next ∧ tm' 1 = .p H.next 0 ∧ tm' 3 = .v (.int .i64 s) ∧ H'.obj H.next = some (.cells ((a0.map fun x => .sl 1 (x.map fun x => [.v (str x)]))))) hl5q ?_ ?_
 ·refine .same ⟨by exact extA (Ext.refl hw), by (simp -implicitDefEqProofs (disch := omega) [go_sem] <;> omega), ?_, ?_, ?_⟩ <;> (simp -implicitDefEqProofs (disch := omega) [go_sem] <;> omega)
 rintro I5 hI5 v6 x5 tm5 H5 ⟨he5, hl5, t1_5, t3_5, ob0_5⟩ h hret5
 replace h : F17_b5 a0 v6 = some x5 := h
 unfold F17_b5 at h
 refine IWp_seqF fun cb hc8 => ?_
 refine wF t3_5 ?_
 refine IWp_cond_i h eA rfl ?_ ?_
 ·intro c10 h
  refine vO ?_
  subst hc8
  refine IWp_seqF fun cb hc11 => ?_
  refine IWp_block ?_
  refine IWp_seqF fun cb hc12 => ?_
  obtain ⟨g13, h⟩ := gd_some.1 h
  refine vF (nd t1_5 (nd t3_5 (nd g2 ob0_5))) ?_
  obtain ⟨x14, hx14, h⟩ := bind_some' h
  refine ICalls.eqA eA (F47_ok v6 (a0.getD v6.toNat []) hx14 ?_)
  refine sG ?_
  subst hc12
  refine IWp_cond_i h eA rfl ?_ ?_
  ·intro c15 h
   simp (disch := omega) at c15
   refine wG ?_
   refine vO ?_
   obtain rfl := Option.some.inj h
   obtain rfl := hret5 _ rfl
   replace h : some false = some r := hk5
   obtain rfl := Option.some.inj h
   refine sG ?_
   refine retG_pureE (extA he5) rfl nbA hK
  intro c15 h
  simp (disch := omega) at c15
  refine vO ?_
  subst hc11
  refine vF t3_5 ?_
  obtain rfl := Option.some.inj h
  refine loopN_mk hI5 (IntKind.i64.wrap (v6 + 1)) ?_
  refine .same ⟨by exact extA he5, by with_reducible assumption, ?_, ?_, ?_⟩ <;> first | with_reducible assumption | (simp -implicitDefEqProofs (disch := omega) [go_sem, t1_5] <;> omega)
 intro c10 h
 simp (disch := omega) at c10
 refine vO ?_
 obtain rfl := Option.some.inj h
 have hy5 := hret5 _ rfl
 refine hc5 _ _ ?_
 refine .same ⟨hy5, by exact extA he5, by with_reducible assumption, by with_reducible assumption⟩

/-! cardcase/cardcaseref20.Card -/

noncomputable def F15_k4  : Option Int :=
 some (-1)

noncomputable def F15_b4 (a0 : List S39) (a1 : List UInt8) (v5 : Int) : Option (Int ⊕ (Unit ⊕ Int)) :=
 if v5 < (a0.length : Int) then (gd (0 ≤ v5 ∧ v5 < a0.length) (if ((a0.getD v5.toNat S39.zero).fHref) = a1 then (some (.inr (.inr v5))) else (some (.inl (IntKind.i64.wrap (v5 + 1)))))) else (some (.inr (.inl ())))

noncomputable def F15 (a0 : List S39) (a1 : List UInt8) : Option Int :=
 (loopO (fun (s : Int) => F15_b4 a0 a1 s) 0).bind fun y => Sum.elim (fun (e : Unit) => F15_k4) (fun (q : Int) => some q) y

theorem F15_ok {H : IHeap} {K : IEnd → IHeap → Prop} (a0 : List S39) (a1 : List UInt8) {r : Int} (h : F15 a0 a1 = some r) (hK : K (.ret (.v (.int .i64 r))) H) : ICalls prog 15 [.sl 10 (a0.map fun x => .v (str x.fHref) :: .v (str x.fUuid) :: (x.fShadow.map fun x => .sl 1 (x.map fun x => [.v (str x)]))), .v (str a1)] H K := by
 refine ICalls_iwp (N := 20) func15 (by kernel_rfl) rfl (by kernel_rfl) (by kernel_rfl) fun cb hcb hw hbd hnb => ?_
 clear hbd hnb
 subst hcb
 unfold F15 at h
 refine wG ?_
 refine IWp_seqF fun cb hc2 => ?_
 refine wG ?_
 obtain ⟨y4, hl4q, hk4⟩ := bind_some' h
 refine IWp_tailC (fun tm' H' => .inl () = y4 ∧ H = H') ?_ fun cb hc4 => ?_
 ·rintro tm4e H4e ⟨rfl, rfl⟩
  have h : F15_k4 = some r := hk4
  unfold F15_k4 at h
  simp -implicitDefEqProofs only [go_sem]
  subst hc2
  refine wG ?_
  refine vO ?_
  obtain rfl := Option.some.inj h
  refine sG ?_
  exact retA (.refl hw) hK
 refine IWp_block ?_
 refine IWp_loopF (fun (s : Int) tm' H' => H = H' ∧ tm' 0 = .sl 10 (a0.map fun x => .v (str x.fHref) :: .v (str x.fUuid) :: (x.fShadow.map fun x => .sl 1 (x.map fun x => [.v (str x)]))) ∧ tm' 1 = .v (str a1) ∧ tm' 5 = .v (.int .i64 s)) hl4q ?_ ?_
 ·exact sm
 rintro I4 hI4 v5 x4 tm4 H4 ⟨rfl, t0_4, t1_4, t5_4⟩ h hret4
 replace h : F15_b4 a0 a1 v5 = some x4 := h
 unfold F15_b4 at h
 refine IWp_seqF fun cb hc7 => ?_
 refine wF (nd t0_4 t5_4) ?_
 refine IWp_cond_i h eA rfl ?_ ?_
 ·intro c9 h
  refine vO ?_
  subst hc7
  refine IWp_seqF fun cb hc10 => ?_
  refine IWp_block ?_
  obtain ⟨g12, h⟩ := gd_some.1 h
  refine wF (nd t0_4 (nd t1_4 t5_4)) ?_
  refine IWp_cond_i h eA rfl ?_ ?_
  ·intro c13 h
   simp (disch := omega) at c13
   refine wF t5_4 ?_
   refine vO ?_
   obtain rfl := Option.some.inj h
   obtain rfl := hret4 _ rfl
   replace h : some v5 = some r := hk4
   obtain rfl := Option.some.inj h
   refine sG ?_
   exact retA (.refl hw) hK
  intro c13 h
  simp (disch := omega) at c13
  refine vO ?_
  subst hc10
  refine vF t5_4 ?_
  obtain rfl := Option.some.inj h
  refine loopN_mk hI4 (IntKind.i64.wrap (v5 + 1)) ?_
  exact smF (nd t0_4 t1_4)
 intro c9 h
 simp (disch := omega) at c9
 refine vO ?_
 obtain rfl := Option.some.inj h
 have hy4 := hret4 _ rfl
 refine hc4 _ _ ?_
 refine .same ⟨hy4, rfl⟩

end Go.Idl

namespace Go.Idl

set_option maxHeartbeats 8000000

set_option pp.deepTerms false

set_option maxRecDepth 60000

open Go Go.Proofs.Tryz

/-! cardcase/cardcaseref20.Entry -/

noncomputable def F16_k4  : Option Int :=
 some (-1)

noncomputable def F16_b4 (a0 : List S39) (a1 : List UInt8) (v5 : Int) : Option (Int ⊕ (Unit ⊕ Int)) :=
 if v5 < (a0.length : Int) then (gd (0 ≤ v5 ∧ v5 < a0.length) (if ((a0.getD v5.toNat S39.zero).fUuid) = a1 then (some (.inr (.inr v5))) else (some (.inl (IntKind.i64.wrap (v5 + 1)))))) else (some (.inr (.inl ())))

noncomputable def F16 (a0 : List S39) (a1 : List UInt8) : Option Int :=
 (loopO (fun (s : Int) => F16_b4 a0 a1 s) 0).bind fun y => Sum.elim (fun (e : Unit) => F16_k4) (fun (q : Int) => some q) y

theorem F16_ok {H : IHeap} {K : IEnd → IHeap → Prop} (a0 : List S39) (a1 : List UInt8) {r : Int} (h : F16 a0 a1 = some r) (hK : K (.ret (.v (.int .i64 r))) H) : ICalls prog 16 [.sl 10 (a0.map fun x => .v (str x.fHref) :: .v (str x.fUuid) :: (x.fShadow.map fun x => .sl 1 (x.map fun x => [.v (str x)]))), .v (str a1)] H K := by
 refine ICalls_iwp (N := 20) func16 (by kernel_rfl) rfl (by kernel_rfl) (by kernel_rfl) fun cb hcb hw hbd hnb => ?_
 clear hbd hnb
 subst hcb
 unfold F16 at h
 refine wG ?_
 refine IWp_seqF fun cb hc2 => ?_
 refine wG ?_
 obtain ⟨y4, hl4q, hk4⟩ := bind_some' h
 refine IWp_tailC (fun tm' H' => .inl () = y4 ∧ H = H') ?_ fun cb hc4 => ?_
 ·rintro tm4e H4e ⟨rfl, rfl⟩
  have h : F16_k4 = some r := hk4
  unfold F16_k4 at h
  simp -implicitDefEqProofs only [go_sem]
  subst hc2
  refine wG ?_
  refine vO ?_
  obtain rfl := Option.some.inj h
  refine sG ?_
  exact retA (.refl hw) hK
 refine IWp_block ?_
 refine IWp_loopF (fun (s : Int) tm' H' => H = H' ∧ tm' 0 = .sl 10 (a0.map fun x => .v (str x.fHref) :: .v (str x.fUuid) :: (x.fShadow.map fun x => .sl 1 (x.map fun x => [.v (str x)]))) ∧ tm' 1 = .v (str a1) ∧ tm' 5 = .v (.int .i64 s)) hl4q ?_ ?_
 ·exact sm
 rintro I4 hI4 v5 x4 tm4 H4 ⟨rfl, t0_4, t1_4, t5_4⟩ h hret4
 replace h : F16_b4 a0 a1 v5 = some x4 := h
 unfold F16_b4 at h
 refine IWp_seqF fun cb hc7 => ?_
 refine wF (nd t0_4 t5_4) ?_
 refine IWp_cond_i h eA rfl ?_ ?_
 ·intro c9 h
  refine vO ?_
  subst hc7
  refine IWp_seqF fun cb hc10 => ?_
  refine IWp_block ?_
  obtain ⟨g12, h⟩ := gd_some.1 h
  refine wF (nd t0_4 (nd t1_4 t5_4)) ?_
  refine IWp_cond_i h eA rfl ?_ ?_
  ·intro c13 h
   simp (disch := omega) at c13
   refine wF t5_4 ?_
   refine vO ?_
   obtain rfl := Option.some.inj h
   obtain rfl := hret4 _ rfl
   replace h : some v5 = some r := hk4
   obtain rfl := Option.some.inj h
   refine sG ?_
   exact retA (.refl hw) hK
  intro c13 h
  simp (disch := omega) at c13
  refine vO ?_
  subst hc10
  refine vF t5_4 ?_
  obtain rfl := Option.some.inj h
  refine loopN_mk hI4 (IntKind.i64.wrap (v5 + 1)) ?_
  exact smF (nd t0_4 t1_4)
 intro c9 h
 simp (disch := omega) at c9
 refine vO ?_
 obtain rfl := Option.some.inj h
 have hy4 := hret4 _ rfl
 refine hc4 _ _ ?_
 refine .same ⟨hy4, rfl⟩

/-! cardcase/cardcaseref20.Add -/

noncomputable def F38_k24 (a0 : List S39) (a1 : S39) (v26 : Int) : Option ((List S39) × Int) :=
 gd (0 ≤ v26) (gd (v26 ≤ a0.length) (gd ((a0.take v26.toNat).length * 224 ≤ 140737488355328) (gd (((a0.take v26.toNat).length + ([a1]).length) * 224 ≤ 140737488355328) (gd ((((a0.take v26.toNat) ++ ([a1])).length + (a0.drop v26.toNat).length) * 224 ≤ 140737488355328) (some ((((a0.take v26.toNat) ++ ([a1])) ++ (a0.drop v26.toNat), 0)))))))

noncomputable def F38_b24 (a0 : List S39) (a1 : S39) (v25 : Int) : Option (Int ⊕ Int) :=
 if v25 < (a0.length : Int) then (gd (0 ≤ v25 ∧ v25 < a0.length) (if Op.bytesLess ((a0.getD v25.toNat S39.zero).fHref) a1.fHref = true then (some (.inl (IntKind.i64.wrap (v25 + 1)))) else (some (.inr v25)))) else (some (.inr v25))

noncomputable def F38 (a0 : List S39) (a1 : S39) : Option ((List S39) × Int) :=
 gd (a1.fShadow.length = 8) ((F71 a1.fHref).bind fun (x5 : Bool) => if ¬ (x5 = true) then (some (a0, 2)) else ((F72 a1.fUuid).bind fun (x7 : Bool) => if ¬ (x7 = true) then (some (a0, 2)) else ((F17 a1.fShadow).bind fun (x9 : Bool) => if ¬ (x9 = true) then (some (a0, 2)) else ((F15 a0 a1.fHref).bind fun (x14 : Int) => if 0 ≤ x14 then (some (a0, 300)) else ((F16 a0 a1.fUuid).bind fun (x16 : Int) => if 0 ≤ x16 then (some (a0, 300)) else (if 64 ≤ (a0.length : Int) then (some (a0, 3)) else ((loopO (fun (s : Int) => F38_b24 a0 a1 s) 0).bind fun (e : Int) => F38_k24 a0 a1 e)))))))

theorem F38_ok {H : IHeap} {K : IEnd → IHeap → Prop} (a0 : List S39) (a1 : S39) {r : (List S39) × Int} (h : F38 a0 a1 = some r) (hK : K (.ret (.tu [.sl 10 (r.1.map fun x => .v (str x.fHref) :: .v (str x.fUuid) :: (x.fShadow.map fun x => .sl 1 (x.map fun x => [.v (str x)]))), .v (.int .i64 r.2)])) H) : ICalls prog 38 [.sl 10 (a0.map fun x => .v (str x.fHref) :: .v (str x.fUuid) :: (x.fShadow.map fun x => .sl 1 (x.map fun x => [.v (str x)]))), .ag (.v (str a1.fHref) :: .v (str a1.fUuid) :: (a1.fShadow.map fun x => .sl 1 (x.map fun x => [.v (str x)])))] H K := by
 refine ICalls_iwp (N := 68) func38 (by kernel_rfl) rfl (by kernel_rfl) (by kernel_rfl) fun cb hcb hw hbd hnb => ?_
 clear hbd hnb
 subst hcb
 unfold F38 at h
 obtain ⟨g2, h⟩ := gd_some.1 h
 refine wG ?_
 refine IWp_seqF fun cb hc3 => ?_
 refine IWp_seqF fun cb hc4 => ?_
 refine vF g2 ?_
 obtain ⟨x5, hx5, h⟩ := bind_some' h
 refine F71_ok a1.fHref hx5 ?_
 refine sG ?_
 refine splitG_f h eA ?_ ?_
 ·intro c40 h
  simp (disch := omega) at c40
  refine sG ?_
  subst hc4
  refine IWp_cond_t eA rfl ?_
  refine wG ?_
  refine vO ?_
  obtain rfl := Option.some.inj h
  refine sG ?_
  exact retA (.refl hw) hK
 intro c40 h
 simp (disch := omega) at c40
 refine sF g2 ?_
 obtain ⟨x7, hx7, h⟩ := bind_some' h
 refine F72_ok a1.fUuid hx7 ?_
 refine sG ?_
 refine splitG_f h eA ?_ ?_
 ·intro c39 h
  simp (disch := omega) at c39
  refine sG ?_
  subst hc4
  refine IWp_cond_t eA rfl ?_
  refine wG ?_
  refine vO ?_
  obtain rfl := Option.some.inj h
  refine sG ?_
  exact retA (.refl hw) hK
 intro c39 h
 simp (disch := omega) at c39
 refine sF g2 ?_
 obtain ⟨x9, hx9, h⟩ := bind_some' h
 refine F17_ok a1.fShadow hx9 ?_
 refine sG ?_
 subst hc4
 refine IWp_cond_i h eA rfl ?_ ?_
 ·intro c10 h
  simp (disch := omega) at c10
  refine wG ?_
  refine vO ?_
  obtain rfl := Option.some.inj h
  refine sG ?_
  exact retA (.refl hw) hK
 intro c10 h
 simp (disch := omega) at c10
 refine vO ?_
 subst hc3
 refine IWp_seqF fun cb hc12 => ?_
 refine IWp_seqF fun cb hc13 => ?_
 refine vF g2 ?_
 obtain ⟨x14, hx14, h⟩ := bind_some' h
 refine F15_ok a0 a1.fHref hx14 ?_
 refine sG ?_
 refine splitG_f h rfl ?_ ?_
 ·intro c38 h
  refine sG ?_
  subst hc13
  refine IWp_cond_t eA rfl ?_
  refine wG ?_
  refine vO ?_
  obtain rfl := Option.some.inj h
  refine sG ?_
  exact retA (.refl hw) hK
 intro c38 h
 simp (disch := omega) at c38
 refine sF g2 ?_
 obtain ⟨x16, hx16, h⟩ := bind_some' h
 refine F16_ok a0 a1.fUuid hx16 ?_
 refine sG ?_
 subst hc13
 refine IWp_cond_i h eA rfl ?_ ?_
 ·intro c17 h
  refine wG ?_
  refine vO ?_
  obtain rfl := Option.some.inj h
  refine sG ?_
  exact retA (.refl hw) hK
 intro c17 h
 simp (disch := omega) at c17
 refine vO ?_
 subst hc12
 refine IWp_seqF fun cb hc19 => ?_
 refine wG ?_
 refine IWp_cond_i h eA rfl ?_ ?_
 ·intro c21 h
  refine wG ?_
  refine vO ?_
  obtain rfl := Option.some.inj h
  refine sG ?_
  exact retA (.refl hw) hK
 intro c21 h
 simp (disch := omega) at c21
 refine vO ?_
 subst hc19
 refine wG ?_
 obtain ⟨y24, hl24q, hk24⟩ := bind_some' h
 refine IWp_seqC (fun tm' H' => ∃ v26 : Int, v26 = y24 ∧ Ext H H' ∧ H.next + 1 ≤ H'.next ∧ tm' 0 = .sl 10 (a0.map fun x => .v (str x.fHref) :: .v (str x.fUuid) :: (x.fShadow.map fun x => .sl 1 (x.map fun x => [.v (str x)]))) ∧ tm' 3 = .p H.next 0 ∧ tm' 6 = .v (.int .i64 v26) ∧ H'.obj H.next = some (.cells (.v (str a1.fHref) :: .v (str a1.fUuid) :: (a1.fShadow.map fun x => .sl 1 (x.map fun x => [.v (str x)]))))) ?_ fun cb hc24 => ?_
 ·rintro tm24e H24e ⟨v26, rfl, he24e, hl24e, t0_24e, t3_24e, t6_24e, ob0_24e⟩
  have h : F38_k24 a0 a1 v26 = some r := hk24
  unfold F38_k24 at h
  refine IWp_seqF fun cb hc27 => ?_
  refine IWp_drawP [] [0, 1, 2, 4, 5, 7, 8, 9, 3, 6, 10, 11, 12] (by kernel_rfl) (by kernel_rfl) (fun _ _ _ _ h => h) ?_
  obtain ⟨g28, h⟩ := gd_some.1 h
  obtain ⟨g29, h⟩ := gd_some.1 h
  obtain ⟨g30, h⟩ := gS h
  obtain ⟨g31, h⟩ := gS h
  obtain ⟨g32, h⟩ := gS h
  refine sF (nd t0_24e (nd t3_24e (nd t6_24e (nd g2 ob0_24e)))) ?_
  subst hc27
  refine IWp.gh (Gh.freeze (d := 4) (k := H24e.next) (sz := 10) (es := (((a0.take v26.toNat) ++ ([a1])) ++ (a0.drop v26.toNat)).map fun x => .v (str x.fHref) :: .v (str x.fUuid) :: (x.fShadow.map fun x => .sl 1 (x.map fun x => [.v (str x)]))) eA eA) ?_
  refine vO ?_
  obtain rfl := Option.some.inj h
  refine sG ?_
  refine retG_pureE (extA he24e) eA nbA hK
 refine IWp_block ?_
 refine IWp_loopF (fun (s : Int) tm' H' => Ext H H' ∧ H.next + 1 ≤ H'.next ∧ tm' 0 = .sl 10 (a0.map fun x => .v (str x.fHref) :: .v (str x.fUuid) :: (x.fShadow.map fun x => .sl 1 (x.map fun x => [.v (str x)]))) ∧ tm' 3 = .p H.next 0 ∧ tm' 6 = .v (.int .i64 s) ∧ H'.obj H.next = some (.cells (.v (str a1.fHref) :: .v (str a1.fUuid) :: (a1.fShadow.map fun x => .sl 1 (x.map fun x => [.v (str x)]))))) hl24q ?_ ?_
 ·refine .same ⟨by exact extA (Ext.refl hw), by (simp -implicitDefEqProofs (disch := omega) [go_sem] <;> omega), ?_, ?_, ?_, ?_⟩ <;> (simp -implicitDefEqProofs (disch := omega) [go_sem] <;> omega)
 rintro I24 hI24 v25 x24 tm24 H24 ⟨he24, hl24, t0_24, t3_24, t6_24, ob0_24⟩ h hret24
 replace h : F38_b24 a0 a1 v25 = some x24 := h
 unfold F38_b24 at h
 refine IWp_seqF fun cb hc33 => ?_
 refine IWp_seqF fun cb hc34 => ?_
 refine IWp_drawP [] [0, 1, 2, 3, 4, 5, 6, 7, 8, 9, 10, 11, 12, 13] (by kernel_rfl) (by kernel_rfl) (fun _ _ _ _ h => h) ?_
 refine sF (nd t0_24 t6_24) ?_
 refine splitG_f h rfl ?_ ?_
 ·intro c37 h
  obtain ⟨g35, h⟩ := gd_some.1 h
  refine sF (nd t0_24 (nd t3_24 (nd t6_24 (nd g2 ob0_24)))) ?_
  subst hc34
  refine IWp_cond_i h eA rfl ?_ ?_
  ·intro c36 h
   simp (disch := omega) at c36
   refine vO ?_
   subst hc33
   refine IWp_block ?_
   refine vF t6_24 ?_
   obtain rfl := Option.some.inj h
   refine loopN_mk hI24 (IntKind.i64.wrap (v25 + 1)) ?_
   refine .same ⟨by exact extA he24, by with_reducible assumption, ?_, ?_, ?_, ?_⟩ <;> first | with_reducible assumption | (simp -implicitDefEqProofs (disch := omega) [go_sem, t0_24, t3_24] <;> omega)
  intro c36 h
  simp (disch := omega) at c36
  refine vO ?_
  obtain rfl := Option.some.inj h
  have hy24 := hret24 _ rfl
  refine hc24 _ _ ?_
  refine .same ⟨v25, hy24, by exact extA he24, by with_reducible assumption, ?_, ?_, ?_, ?_⟩ <;> first | with_reducible assumption | (simp -implicitDefEqProofs (disch := omega) [go_sem, t0_24, t3_24, t6_24] <;> omega)
 intro c37 h
 simp (disch := omega) at c37
 refine sG ?_
 subst hc34
 refine IWp_cond_f eA rfl ?_
 refine vO ?_
 obtain rfl := Option.some.inj h
 have hy24 := hret24 _ rfl
 refine hc24 _ _ ?_
 refine .same ⟨v25, hy24, by exact extA he24, by with_reducible assumption, ?_, ?_, ?_, ?_⟩ <;> first | with_reducible assumption | (simp -implicitDefEqProofs (disch := omega) [go_sem, t0_24, t3_24, t6_24] <;> omega)

/-! cardcase/cardcaseref20.Set -/

noncomputable def F39 (a0 : List S39) (a1 : List UInt8) (a2 : List (List (List UInt8))) : Option ((List S39) × Int) :=
 gd (a2.length = 8) ((F15 a0 a1).bind fun (x4 : Int) => (F17 a2).bind fun (x7 : Bool) => if ¬ (x7 = true) then (some (a0, 2)) else (if x4 < 0 then (some (a0, 5)) else (gd (a0.length * 224 ≤ 140737488355328) (gd (0 ≤ x4 ∧ x4 < a0.length) (gd (((a0.getD x4.toNat S39.zero).fShadow).length = 8) (some ((a0.set x4.toNat ((⟨(a0.getD x4.toNat S39.zero).fHref, (a0.getD x4.toNat S39.zero).fUuid, a2⟩ : S39)), 0))))))))

theorem F39_ok {H : IHeap} {K : IEnd → IHeap → Prop} (a0 : List S39) (a1 : List UInt8) (a2 : List (List (List UInt8))) {r : (List S39) × Int} (h : F39 a0 a1 a2 = some r) (hK : K (.ret (.tu [.sl 10 (r.1.map fun x => .v (str x.fHref) :: .v (str x.fUuid) :: (x.fShadow.map fun x => .sl 1 (x.map fun x => [.v (str x)]))), .v (.int .i64 r.2)])) H) : ICalls prog 39 [.sl 10 (a0.map fun x => .v (str x.fHref) :: .v (str x.fUuid) :: (x.fShadow.map fun x => .sl 1 (x.map fun x => [.v (str x)]))), .v (str a1), .ag (a2.map fun x => .sl 1 (x.map fun x => [.v (str x)]))] H K := by
 refine ICalls_iwp (N := 28) func39 (by kernel_rfl) rfl (by kernel_rfl) (by kernel_rfl) fun cb hcb hw hbd hnb => ?_
 clear hbd hnb
 subst hcb
 unfold F39 at h
 obtain ⟨g2, h⟩ := gd_some.1 h
 refine wG ?_
 refine IWp_seqF fun cb hc3 => ?_
 refine vG ?_
 obtain ⟨x4, hx4, h⟩ := bind_some' h
 refine F15_ok a0 a1 hx4 ?_
 refine sG ?_
 subst hc3
 refine IWp_seqF fun cb hc5 => ?_
 refine IWp_seqF fun cb hc6 => ?_
 refine vF g2 ?_
 obtain ⟨x7, hx7, h⟩ := bind_some' h
 refine F17_ok a2 hx7 ?_
 refine sG ?_
 subst hc6
 refine IWp_cond_i h eA rfl ?_ ?_
 ·intro c8 h
  simp (disch := omega) at c8
  refine wG ?_
  refine vO ?_
  obtain rfl := Option.some.inj h
  refine sG ?_
  exact retA (.refl hw) hK
 intro c8 h
 simp (disch := omega) at c8
 refine vO ?_
 subst hc5
 refine IWp_seqF fun cb hc10 => ?_
 refine wG ?_
 refine IWp_cond_i h eA rfl ?_ ?_
 ·intro c12 h
  refine wG ?_
  refine vO ?_
  obtain rfl := Option.some.inj h
  refine sG ?_
  exact retA (.refl hw) hK
 intro c12 h
 simp (disch := omega) at c12
 refine vO ?_
 subst hc10
 obtain ⟨g15, h⟩ := gd_some.1 h
 refine wG ?_
 refine IWp_seqF fun cb hc16 => ?_
 obtain ⟨g17, h⟩ := gd_some.1 h
 obtain ⟨g18, h⟩ := gS h
 refine v0 ?_
 have hrp19 := rowPut_map (s := 10) (o := 2) (f := fun (x : S39) => .v (str x.fHref) :: .v (str x.fUuid) :: (x.fShadow.map fun x => .sl 1 (x.map fun x => [.v (str x)]))) (l := a0) (d := S39.zero) (i := x4.toNat) (vc := a2.map fun x => .sl 1 (x.map fun x => [.v (str x)])) (x := (⟨(a0.getD x4.toNat S39.zero).fHref, (a0.getD x4.toNat S39.zero).fUuid, a2⟩ : S39)) (by omega) (by simp [putL, go_sem, g17, g18] <;> omega) (by omega)
 refine sF (nd g2 hrp19) ?_
 subst hc16
 refine wG ?_
 refine IWp.gh (Gh.freeze (d := 6) (k := H.next + 1) (sz := 10) (es := (a0.set x4.toNat ((⟨(a0.getD x4.toNat S39.zero).fHref, (a0.getD x4.toNat S39.zero).fUuid, a2⟩ : S39))).map fun x => .v (str x.fHref) :: .v (str x.fUuid) :: (x.fShadow.map fun x => .sl 1 (x.map fun x => [.v (str x)]))) eA eA) ?_
 refine vO ?_
 obtain rfl := Option.some.inj h
 refine sG ?_
 exact retA (.refl hw) hK

/-! cardcase/cardcaseref20.Drop -/

noncomputable def F40 (a0 : List S39) (a1 : List UInt8) : Option ((List S39) × Int) :=
 (F15 a0 a1).bind fun (x3 : Int) => if x3 < 0 then (some (a0, 5)) else (gd (0 ≤ x3) (gd (x3 ≤ a0.length) (gd (0 ≤ (IntKind.i64.wrap (x3 + 1))) (gd (IntKind.i64.wrap (x3 + 1) ≤ a0.length) (gd ((a0.take x3.toNat).length * 224 ≤ 140737488355328) (gd (((a0.take x3.toNat).length + (a0.drop (IntKind.i64.wrap (x3 + 1)).toNat).length) * 224 ≤ 140737488355328) (some (((a0.take x3.toNat) ++ (a0.drop (IntKind.i64.wrap (x3 + 1)).toNat), 0)))))))))

theorem F40_ok {H : IHeap} {K : IEnd → IHeap → Prop} (a0 : List S39) (a1 : List UInt8) {r : (List S39) × Int} (h : F40 a0 a1 = some r) (hK : K (.ret (.tu [.sl 10 (r.1.map fun x => .v (str x.fHref) :: .v (str x.fUuid) :: (x.fShadow.map fun x => .sl 1 (x.map fun x => [.v (str x)]))), .v (.int .i64 r.2)])) H) : ICalls prog 40 [.sl 10 (a0.map fun x => .v (str x.fHref) :: .v (str x.fUuid) :: (x.fShadow.map fun x => .sl 1 (x.map fun x => [.v (str x)]))), .v (str a1)] H K := by
 refine ICalls_iwp (N := 22) func40 (by kernel_rfl) rfl (by kernel_rfl) (by kernel_rfl) fun cb hcb hw hbd hnb => ?_
 clear hbd hnb
 subst hcb
 unfold F40 at h
 refine wG ?_
 refine IWp_seqF fun cb hc2 => ?_
 refine vG ?_
 obtain ⟨x3, hx3, h⟩ := bind_some' h
 refine F15_ok a0 a1 hx3 ?_
 refine sG ?_
 subst hc2
 refine IWp_seqF fun cb hc4 => ?_
 refine wG ?_
 refine IWp_cond_i h eA rfl ?_ ?_
 ·intro c6 h
  refine wG ?_
  refine vO ?_
  obtain rfl := Option.some.inj h
  refine sG ?_
  exact retA (.refl hw) hK
 intro c6 h
 simp (disch := omega) at c6
 refine vO ?_
 subst hc4
 refine IWp_seqF fun cb hc8 => ?_
 refine IWp_drawP [] [0, 1, 2, 4, 5, 6, 7, 3, 8, 9, 10] (by kernel_rfl) (by kernel_rfl) (fun _ _ _ _ h => h) ?_
 obtain ⟨g9, h⟩ := gd_some.1 h
 obtain ⟨g10, h⟩ := gd_some.1 h
 obtain ⟨g11, h⟩ := gd_some.1 h
 obtain ⟨g12, h⟩ := gd_some.1 h
 obtain ⟨g13, h⟩ := gS h
 obtain ⟨g14, h⟩ := gS h
 simp -implicitDefEqProofs (disch := omega) [go_sem] at g11
 simp -implicitDefEqProofs (disch := omega) [go_sem] at g12
 simp -implicitDefEqProofs (disch := omega) [go_sem] at g14
 refine sG ?_
 subst hc8
 refine IWp.gh (Gh.freeze (d := 4) (k := H.next) (sz := 10) (es := ((a0.take x3.toNat) ++ (a0.drop (IntKind.i64.wrap (x3 + 1)).toNat)).map fun x => .v (str x.fHref) :: .v (str x.fUuid) :: (x.fShadow.map fun x => .sl 1 (x.map fun x => [.v (str x)]))) eA eA) ?_
 refine vO ?_
 obtain rfl := Option.some.inj h
 refine sG ?_
 exact retA (.refl hw) hK

/-! cardcase/cardcaseref06.letter -/

noncomputable def F145 (a0 : Int) : Option Bool :=
 if 65 ≤ a0 then (if a0 ≤ 90 then (some true) else (if 97 ≤ a0 then (some (decide (a0 ≤ 122))) else (some false))) else (if 97 ≤ a0 then (some (decide (a0 ≤ 122))) else (some false))

theorem F145_ok {H : IHeap} {K : IEnd → IHeap → Prop} (a0 : Int) {r : Bool} (h : F145 a0 = some r) (hK : K (.ret (.v (.bool r))) H) : ICalls prog 145 [.v (.int .u8 a0)] H K := by
 refine ICalls_iwp (N := 17) func145 (by kernel_rfl) rfl (by kernel_rfl) (by kernel_rfl) fun cb hcb hw hbd hnb => ?_
 clear hbd hnb
 subst hcb
 unfold F145 at h
 refine wG ?_
 refine IWp_seqF fun cb hc2 => ?_
 refine vG ?_
 refine splitG_f h rfl ?_ ?_
 ·intro c6 h
  refine sG ?_
  refine splitG_f h rfl ?_ ?_
  ·intro c4 h
   refine sG ?_
   subst hc2
   refine vO ?_
   obtain rfl := Option.some.inj h
   refine sG ?_
   exact retA (.refl hw) hK
  intro c4 h
  simp (disch := omega) at c4
  refine sG ?_
  refine splitG_f h rfl ?_ ?_
  ·intro c3 h
   refine sG ?_
   subst hc2
   refine vO ?_
   obtain rfl := Option.some.inj h
   refine sG ?_
   exact retA (.refl hw) hK
  intro c3 h
  simp (disch := omega) at c3
  refine sG ?_
  subst hc2
  refine vO ?_
  obtain rfl := Option.some.inj h
  refine sG ?_
  exact retA (.refl hw) hK
 intro c6 h
 simp (disch := omega) at c6
 refine sG ?_
 refine splitG_f h rfl ?_ ?_
 ·intro c5 h
  refine sG ?_
  subst hc2
  refine vO ?_
  obtain rfl := Option.some.inj h
  refine sG ?_
  exact retA (.refl hw) hK
 intro c5 h
 simp (disch := omega) at c5
 refine sG ?_
 subst hc2
 refine vO ?_
 obtain rfl := Option.some.inj h
 refine sG ?_
 exact retA (.refl hw) hK

/-! cardcase/cardcaseref06.Name -/

noncomputable def F114_k12  : Option Bool :=
 some true

noncomputable def F114_b12 (a0 : List UInt8) (v13 : Int) : Option (Int ⊕ (Unit ⊕ Bool)) :=
 if v13 < (a0.length : Int) then (gd (0 ≤ v13 ∧ v13 < a0.length) ((F145 (((a0.getD v13.toNat 0).toNat : Int))).bind fun (x21 : Bool) => if ¬ (x21 = true) then (if (((a0.getD v13.toNat 0).toNat : Int)) < 48 then (if ¬ (((a0.getD v13.toNat 0).toNat : Int)) = 45 then (some (.inr (.inr false))) else (some (.inl (IntKind.i64.wrap (v13 + 1))))) else (if 57 < (((a0.getD v13.toNat 0).toNat : Int)) then (if ¬ (((a0.getD v13.toNat 0).toNat : Int)) = 45 then (some (.inr (.inr false))) else (some (.inl (IntKind.i64.wrap (v13 + 1))))) else (some (.inl (IntKind.i64.wrap (v13 + 1)))))) else (some (.inl (IntKind.i64.wrap (v13 + 1)))))) else (some (.inr (.inl ())))

noncomputable def F114 (a0 : List UInt8) : Option Bool :=
 if (a0.length : Int) < 1 then (some false) else (if 64 < (a0.length : Int) then (some false) else (gd (0 < a0.length) ((F145 (((a0.getD 0 0).toNat : Int))).bind fun (x7 : Bool) => if ¬ (x7 = true) then (some false) else ((loopO (fun (s : Int) => F114_b12 a0 s) 0).bind fun y => Sum.elim (fun (e : Unit) => F114_k12) (fun (q : Bool) => some q) y))))

theorem F114_ok {H : IHeap} {K : IEnd → IHeap → Prop} (a0 : List UInt8) {r : Bool} (h : F114 a0 = some r) (hK : K (.ret (.v (.bool r))) H) : ICalls prog 114 [.v (str a0)] H K := by
 refine ICalls_iwp (N := 47) func114 (by kernel_rfl) rfl (by kernel_rfl) (by kernel_rfl) fun cb hcb hw hbd hnb => ?_
 clear hbd hnb
 subst hcb
 unfold F114 at h
 refine wG ?_
 refine IWp_seqF fun cb hc2 => ?_
 refine IWp_seqF fun cb hc3 => ?_
 refine vG ?_
 refine splitG_f h rfl ?_ ?_
 ·intro c30 h
  refine sG ?_
  subst hc3
  refine IWp_cond_t eA rfl ?_
  refine wG ?_
  refine vO ?_
  obtain rfl := Option.some.inj h
  refine sG ?_
  exact retA (.refl hw) hK
 intro c30 h
 simp (disch := omega) at c30
 refine sG ?_
 refine splitG_f h rfl ?_ ?_
 ·intro c29 h
  refine sG ?_
  subst hc3
  refine IWp_cond_t eA rfl ?_
  refine wG ?_
  refine vO ?_
  obtain rfl := Option.some.inj h
  refine sG ?_
  exact retA (.refl hw) hK
 intro c29 h
 simp (disch := omega) at c29
 obtain ⟨g6, h⟩ := gd_some.1 h
 refine sG ?_
 obtain ⟨x7, hx7, h⟩ := bind_some' h
 refine ICalls.eqA eA (F145_ok (((a0.getD 0 0).toNat : Int)) hx7 ?_)
 refine sG ?_
 subst hc3
 refine IWp_cond_i h eA rfl ?_ ?_
 ·intro c8 h
  simp (disch := omega) at c8
  refine wG ?_
  refine vO ?_
  obtain rfl := Option.some.inj h
  refine sG ?_
  exact retA (.refl hw) hK
 intro c8 h
 simp (disch := omega) at c8
 refine vO ?_
 subst hc2
 refine IWp_seqF fun cb hc10 => ?_
 refine wG ?_
 obtain ⟨y12, hl12q, hk12⟩ := bind_some' h
 refine IWp_tailC (fun tm' H' => .inl () = y12 ∧ H = H') ?_ fun cb hc12 => ?_
 ·rintro tm12e H12e ⟨rfl, rfl⟩
  have h : F114_k12 = some r := hk12
  unfold F114_k12 at h
  simp -implicitDefEqProofs only [go_sem]
  subst hc10
  refine wG ?_
  refine vO ?_
  obtain rfl := Option.some.inj h
  refine sG ?_
  exact retA (.refl hw) hK
 refine IWp_block ?_
 refine IWp_loopF (fun (s : Int) tm' H' => H = H' ∧ tm' 0 = .v (str a0) ∧ tm' 3 = .v (.int .i64 s)) hl12q ?_ ?_
 ·exact sm
 rintro I12 hI12 v13 x12 tm12 H12 ⟨rfl, t0_12, t3_12⟩ h hret12
 replace h : F114_b12 a0 v13 = some x12 := h
 unfold F114_b12 at h
 refine IWp_seqF fun cb hc15 => ?_
 refine wF (nd t0_12 t3_12) ?_
 refine IWp_cond_i h eA rfl ?_ ?_
 ·intro c17 h
  refine vO ?_
  subst hc15
  refine IWp_seqF fun cb hc18 => ?_
  refine IWp_block ?_
  refine IWp_seqF fun cb hc19 => ?_
  obtain ⟨g20, h⟩ := gd_some.1 h
  refine vF (nd t0_12 t3_12) ?_
  obtain ⟨x21, hx21, h⟩ := bind_some' h
  refine ICalls.eqA eA (F145_ok (((a0.getD v13.toNat 0).toNat : Int)) hx21 ?_)
  refine sG ?_
  refine splitG_f h eA ?_ ?_
  ·intro c28 h
   simp (disch := omega) at c28
   refine sF (nd t0_12 t3_12) ?_
   refine splitG_f h eA ?_ ?_
   ·intro c27 h
    simp (disch := omega) at c27
    refine sF (nd t0_12 t3_12) ?_
    subst hc19
    refine IWp_cond_i h eA rfl ?_ ?_
    ·intro c22 h
     simp (disch := omega) at c22
     refine wG ?_
     refine vO ?_
     obtain rfl := Option.some.inj h
     obtain rfl := hret12 _ rfl
     replace h : some false = some r := hk12
     obtain rfl := Option.some.inj h
     refine sG ?_
     exact retA (.refl hw) hK
    intro c22 h
    simp (disch := omega) at c22
    refine vO ?_
    subst hc18
    refine vF t3_12 ?_
    obtain rfl := Option.some.inj h
    refine loopN_mk hI12 (IntKind.i64.wrap (v13 + 1)) ?_
    exact smF t0_12
   intro c27 h
   simp (disch := omega) at c27
   refine sF (nd t0_12 t3_12) ?_
   refine splitG_f h eA ?_ ?_
   ·intro c26 h
    simp (disch := omega) at c26
    refine sF (nd t0_12 t3_12) ?_
    subst hc19
    refine IWp_cond_i h eA rfl ?_ ?_
    ·intro c24 h
     simp (disch := omega) at c24
     refine wG ?_
     refine vO ?_
     obtain rfl := Option.some.inj h
     obtain rfl := hret12 _ rfl
     replace h : some false = some r := hk12
     obtain rfl := Option.some.inj h
     refine sG ?_
     exact retA (.refl hw) hK
    intro c24 h
    simp (disch := omega) at c24
    refine vO ?_
    subst hc18
    refine vF t3_12 ?_
    obtain rfl := Option.some.inj h
    refine loopN_mk hI12 (IntKind.i64.wrap (v13 + 1)) ?_
    exact smF t0_12
   intro c26 h
   simp (disch := omega) at c26
   refine sG ?_
   subst hc19
   refine IWp_cond_f eA rfl ?_
   refine vO ?_
   subst hc18
   refine vF t3_12 ?_
   obtain rfl := Option.some.inj h
   refine loopN_mk hI12 (IntKind.i64.wrap (v13 + 1)) ?_
   exact smF t0_12
  intro c28 h
  simp (disch := omega) at c28
  refine sG ?_
  subst hc19
  refine IWp_cond_f eA rfl ?_
  refine vO ?_
  subst hc18
  refine vF t3_12 ?_
  obtain rfl := Option.some.inj h
  refine loopN_mk hI12 (IntKind.i64.wrap (v13 + 1)) ?_
  exact smF t0_12
 intro c17 h
 simp (disch := omega) at c17
 refine vO ?_
 obtain rfl := Option.some.inj h
 have hy12 := hret12 _ rfl
 refine hc12 _ _ ?_
 refine .same ⟨hy12, rfl⟩

/-! cardcase/cardcaseref06.Small -/

noncomputable def F115_k5 (v8 : List UInt8) : Option (List UInt8) :=
 some v8

noncomputable def F115_b5 (a0 : List UInt8) (v6 : List UInt8) (v7 : Int) : Option (((List UInt8) × Int) ⊕ (List UInt8)) :=
 if v7 < (a0.length : Int) then (gd (0 ≤ v7 ∧ v7 < a0.length) (if 65 ≤ (((a0.getD v7.toNat 0).toNat : Int)) then (if (((a0.getD v7.toNat 0).toNat : Int)) ≤ 90 then (gd (0 ≤ (IntKind.u8.wrap ((((a0.getD v7.toNat 0).toNat : Int)) + 32)) ∧ (IntKind.u8.wrap ((((a0.getD v7.toNat 0).toNat : Int)) + 32)) ≤ 255) (gd ((v6.length : Int) + ([UInt8.ofNat (IntKind.u8.wrap ((((a0.getD v7.toNat 0).toNat : Int)) + 32)).toNat]).length ≤ 9223372036854775807) (some (.inl ((v6 ++ ([UInt8.ofNat (IntKind.u8.wrap ((((a0.getD v7.toNat 0).toNat : Int)) + 32)).toNat]), IntKind.i64.wrap (v7 + 1))))))) else (gd (0 ≤ (((a0.getD v7.toNat 0).toNat : Int)) ∧ (((a0.getD v7.toNat 0).toNat : Int)) ≤ 255) (gd ((v6.length : Int) + ([UInt8.ofNat (((a0.getD v7.toNat 0).toNat : Int)).toNat]).length ≤ 9223372036854775807) (some (.inl ((v6 ++ ([UInt8.ofNat (((a0.getD v7.toNat 0).toNat : Int)).toNat]), IntKind.i64.wrap (v7 + 1)))))))) else (gd (0 ≤ (((a0.getD v7.toNat 0).toNat : Int)) ∧ (((a0.getD v7.toNat 0).toNat : Int)) ≤ 255) (gd ((v6.length : Int) + ([UInt8.ofNat (((a0.getD v7.toNat 0).toNat : Int)).toNat]).length ≤ 9223372036854775807) (some (.inl ((v6 ++ ([UInt8.ofNat (((a0.getD v7.toNat 0).toNat : Int)).toNat]), IntKind.i64.wrap (v7 + 1))))))))) else (some (.inr v6))

noncomputable def F115 (a0 : List UInt8) : Option (List UInt8) :=
 (loopO (fun (s : (List UInt8) × Int) => F115_b5 a0 s.1 s.2) ([], 0)).bind fun (e : (List UInt8)) => F115_k5 e

theorem F115_ok {H : IHeap} {K : IEnd → IHeap → Prop} (a0 : List UInt8) {r : (List UInt8)} (h : F115 a0 = some r) (hK : K (.ret (.v (str r))) H) : ICalls prog 115 [.v (str a0)] H K := by
 refine ICalls_iwp (N := 29) func115 (by kernel_rfl) rfl (by kernel_rfl) (by kernel_rfl) fun cb hcb hw hbd hnb => ?_
 clear hbd hnb
 subst hcb
 unfold F115 at h
 refine wG ?_
 refine wG ?_
 refine IWp_seqF fun cb hc3 => ?_
 refine wG ?_
 obtain ⟨y5, hl5q, hk5⟩ := bind_some' h
 refine IWp_tailC (fun tm' H' => ∃ v8 : List UInt8, v8 = y5 ∧ H = H' ∧ tm' 3 = .v (str v8)) ?_ fun cb hc5 => ?_
 ·rintro tm5e H5e ⟨v8, rfl, rfl, t3_5e⟩
  have h : F115_k5 v8 = some r := hk5
  unfold F115_k5 at h
  simp -implicitDefEqProofs only [go_sem]
  subst hc3
  refine wF t3_5e ?_
  refine vO ?_
  obtain rfl := Option.some.inj h
  refine sG ?_
  exact retA (.refl hw) hK
 refine IWp_block ?_
 refine IWp_loopF (fun (s : (List UInt8) × Int) tm' H' => H = H' ∧ tm' 0 = .v (str a0) ∧ tm' 3 = .v (str s.1) ∧ tm' 4 = .v (.int .i64 s.2)) hl5q ?_ ?_
 ·exact sm
 rintro I5 hI5 ⟨v6, v7⟩ x5 tm5 H5 ⟨rfl, t0_5, t3_5, t4_5⟩ h hret5
 replace h : F115_b5 a0 v6 v7 = some x5 := h
 unfold F115_b5 at h
 refine IWp_seqF fun cb hc10 => ?_
 refine wF (nd t0_5 t4_5) ?_
 refine IWp_cond_i h eA rfl ?_ ?_
 ·intro c12 h
  refine vO ?_
  subst hc10
  refine IWp_seqF fun cb hc13 => ?_
  refine IWp_block ?_
  obtain ⟨g15, h⟩ := gd_some.1 h
  refine wF (nd t0_5 t4_5) ?_
  refine IWp_seqF fun cb hc16 => ?_
  refine IWp_seqF fun cb hc17 => ?_
  refine vG ?_
  refine splitG_f h eA ?_ ?_
  ·intro c25 h
   simp (disch := omega) at c25
   refine sG ?_
   subst hc17
   refine IWp_cond_i h eA rfl ?_ ?_
   ·intro c18 h
    simp (disch := omega) at c18
    refine vG ?_
    subst hc16
    obtain ⟨g19, h⟩ := gS h
    obtain ⟨g20, h⟩ := gS h
    refine v0 ?_
    simp -implicitDefEqProofs (disch := omega) [go_sem] at g19
    refine sF t3_5 ?_
    subst hc13
    refine vF t4_5 ?_
    obtain rfl := Option.some.inj h
    refine loopN_mk hI5 ((v6 ++ ([UInt8.ofNat (IntKind.u8.wrap ((((a0.getD v7.toNat 0).toNat : Int)) + 32)).toNat]), IntKind.i64.wrap (v7 + 1))) ?_
    exact smF t0_5
   intro c18 h
   simp (disch := omega) at c18
   refine vO ?_
   subst hc16
   obtain ⟨g21, h⟩ := gS h
   obtain ⟨g22, h⟩ := gS h
   refine vF t3_5 ?_
   subst hc13
   refine vF t4_5 ?_
   obtain rfl := Option.some.inj h
   refine loopN_mk hI5 ((v6 ++ ([UInt8.ofNat (((a0.getD v7.toNat 0).toNat : Int)).toNat]), IntKind.i64.wrap (v7 + 1))) ?_
   exact smF t0_5
  intro c25 h
  simp (disch := omega) at c25
  refine sG ?_
  subst hc17
  refine IWp_cond_f eA rfl ?_
  refine vO ?_
  subst hc16
  obtain ⟨g23, h⟩ := gS h
  obtain ⟨g24, h⟩ := gS h
  refine vF t3_5 ?_
  subst hc13
  refine vF t4_5 ?_
  obtain rfl := Option.some.inj h
  refine loopN_mk hI5 ((v6 ++ ([UInt8.ofNat (((a0.getD v7.toNat 0).toNat : Int)).toNat]), IntKind.i64.wrap (v7 + 1))) ?_
  exact smF t0_5
 intro c12 h
 simp (disch := omega) at c12
 refine vO ?_
 obtain rfl := Option.some.inj h
 have hy5 := hret5 _ rfl
 refine hc5 _ _ ?_
 refine .same ⟨v6, hy5, rfl, by (simp -implicitDefEqProofs (disch := omega) [go_sem, t3_5] <;> omega)⟩

/-! cardcase/cardcaseref06.Right -/

noncomputable def F73_k8  : Option Bool :=
 some true

noncomputable def F73_b8 (a0 : List S89) (v9 : Int) : Option (Int ⊕ (Unit ⊕ Bool)) :=
 if v9 < (a0.length : Int) then (gd (0 ≤ v9 ∧ v9 < a0.length) ((F114 ((a0.getD v9.toNat S89.zero).fType)).bind fun (x17 : Bool) => if ¬ (x17 = true) then (some (.inr (.inr false))) else (if ((((a0.getD v9.toNat S89.zero).fValue).length : Int)) < 1 then (some (.inr (.inr false))) else (if 200 < ((((a0.getD v9.toNat S89.zero).fValue).length : Int)) then (some (.inr (.inr false))) else ((F115 ((a0.getD v9.toNat S89.zero).fType)).bind fun (x21 : (List UInt8)) => if ¬ x21 = ((a0.getD v9.toNat S89.zero).fType) then (some (.inr (.inr false))) else (some (.inl (IntKind.i64.wrap (v9 + 1))))))))) else (some (.inr (.inl ())))

noncomputable def F73 (a0 : List S89) : Option Bool :=
 if 16 < (a0.length : Int) then (some false) else ((loopO (fun (s : Int) => F73_b8 a0 s) 0).bind fun y => Sum.elim (fun (e : Unit) => F73_k8) (fun (q : Bool) => some q) y)

theorem F73_ok {H : IHeap} {K : IEnd → IHeap → Prop} (a0 : List S89) {r : Bool} (h : F73 a0 = some r) (hK : K (.ret (.v (.bool r))) H) : ICalls prog 73 [.sl 2 (a0.map fun x => [.v (str x.fType), .v (str x.fValue)])] H K := by
 refine ICalls_iwp (N := 52) func73 (by kernel_rfl) rfl (by kernel_rfl) (by kernel_rfl) fun cb hcb hw hbd hnb => ?_
 clear hbd hnb
 subst hcb
 unfold F73 at h
 refine wG ?_
 refine IWp_seqF fun cb hc2 => ?_
 refine wG ?_
 refine IWp_cond_i h eA rfl ?_ ?_
 ·intro c4 h
  refine wG ?_
  refine vO ?_
  obtain rfl := Option.some.inj h
  refine sG ?_
  exact retA (.refl hw) hK
 intro c4 h
 simp (disch := omega) at c4
 refine vO ?_
 subst hc2
 refine IWp_seqF fun cb hc6 => ?_
 refine wG ?_
 obtain ⟨y8, hl8q, hk8⟩ := bind_some' h
 refine IWp_tailC (fun tm' H' => .inl () = y8 ∧ H = H') ?_ fun cb hc8 => ?_
 ·rintro tm8e H8e ⟨rfl, rfl⟩
  have h : F73_k8 = some r := hk8
  unfold F73_k8 at h
  simp -implicitDefEqProofs only [go_sem]
  subst hc6
  refine wG ?_
  refine vO ?_
  obtain rfl := Option.some.inj h
  refine sG ?_
  exact retA (.refl hw) hK
 refine IWp_block ?_
 refine IWp_loopF (fun (s : Int) tm' H' => H = H' ∧ tm' 0 = .sl 2 (a0.map fun x => [.v (str x.fType), .v (str x.fValue)]) ∧ tm' 3 = .v (.int .i64 s)) hl8q ?_ ?_
 ·exact sm
 rintro I8 hI8 v9 x8 tm8 H8 ⟨rfl, t0_8, t3_8⟩ h hret8
 replace h : F73_b8 a0 v9 = some x8 := h
 unfold F73_b8 at h
 refine IWp_seqF fun cb hc11 => ?_
 refine wF (nd t0_8 t3_8) ?_
 refine IWp_cond_i h eA rfl ?_ ?_
 ·intro c13 h
  refine vO ?_
  subst hc11
  refine IWp_seqF fun cb hc14 => ?_
  refine IWp_block ?_
  refine IWp_seqF fun cb hc15 => ?_
  refine IWp_drawP [5, 31] [0, 1, 2, 3, 4, 5, 6, 7, 8, 9, 10, 11, 12, 13, 14, 15, 16, 17, 18, 19, 20, 21, 22, 23, 24, 25, 26, 27, 28, 29, 30, 31, 32, 33, 34, 35, 36, 37, 38] (by kernel_rfl) (by kernel_rfl) (fun _ _ _ _ h => h) ?_
  obtain ⟨g16, h⟩ := gd_some.1 h
  refine sF (nd t0_8 t3_8) ?_
  obtain ⟨x17, hx17, h⟩ := bind_some' h
  refine PureC.mk _ (fun _ _ hK => ICalls.eqA eA (F114_ok ((a0.getD v9.toNat S89.zero).fType) hx17 hK)) ?_
  refine sG ?_
  refine splitG_f h eA ?_ ?_
  ·intro c26 h
   simp (disch := omega) at c26
   refine sG ?_
   subst hc15
   refine IWp_cond_t eA rfl ?_
   refine wG ?_
   refine vO ?_
   obtain rfl := Option.some.inj h
   obtain rfl := hret8 _ rfl
   replace h : some false = some r := hk8
   obtain rfl := Option.some.inj h
   refine sG ?_
   exact retA (.refl hw) hK
  intro c26 h
  simp (disch := omega) at c26
  refine sF (nd t0_8 t3_8) ?_
  refine splitG_f h eA ?_ ?_
  ·intro c25 h
   simp (disch := omega) at c25
   refine sG ?_
   subst hc15
   refine IWp_cond_t eA rfl ?_
   refine wG ?_
   refine vO ?_
   obtain rfl := Option.some.inj h
   obtain rfl := hret8 _ rfl
   replace h : some false = some r := hk8
   obtain rfl := Option.some.inj h
   refine sG ?_
   exact retA (.refl hw) hK
  intro c25 h
  simp (disch := omega) at c25
  refine sF (nd t0_8 t3_8) ?_
  refine splitG_f h eA ?_ ?_
  ·intro c24 h
   simp (disch := omega) at c24
   refine sG ?_
   subst hc15
   refine IWp_cond_t eA rfl ?_
   refine wG ?_
   refine vO ?_
   obtain rfl := Option.some.inj h
   obtain rfl := hret8 _ rfl
   replace h : some false = some r := hk8
   obtain rfl := Option.some.inj h
   refine sG ?_
   exact retA (.refl hw) hK
  intro c24 h
  simp (disch := omega) at c24
  refine sF (nd t0_8 t3_8) ?_
  obtain ⟨x21, hx21, h⟩ := bind_some' h
  refine PureC.mk _ (fun _ _ hK => ICalls.eqA eA (F115_ok ((a0.getD v9.toNat S89.zero).fType) hx21 hK)) ?_
  refine sG ?_
  subst hc15
  refine IWp_cond_i h eA rfl ?_ ?_
  ·intro c22 h
   simp (disch := omega) at c22
   refine wG ?_
   refine vO ?_
   obtain rfl := Option.some.inj h
   obtain rfl := hret8 _ rfl
   replace h : some false = some r := hk8
   obtain rfl := Option.some.inj h
   refine sG ?_
   exact retA (.refl hw) hK
  intro c22 h
  simp (disch := omega) at c22
  refine vO ?_
  subst hc14
  refine vF t3_8 ?_
  obtain rfl := Option.some.inj h
  refine loopN_mk hI8 (IntKind.i64.wrap (v9 + 1)) ?_
  exact smF t0_8
 intro c13 h
 simp (disch := omega) at c13
 refine vO ?_
 obtain rfl := Option.some.inj h
 have hy8 := hret8 _ rfl
 refine hc8 _ _ ?_
 refine .same ⟨hy8, rfl⟩

/-! cardcase/cardcaseref20.RightPromise -/

noncomputable def F41 (a0 : S33) : Option Bool :=
 gd (a0.fShadow.length = 8) ((F72 a0.fUuid).bind fun (x4 : Bool) => if x4 = true then (if (a0.fDn.length : Int) = 0 then ((F71 a0.fHref).bind fun (x6 : Bool) => if x6 = true then ((F17 a0.fShadow).bind fun (x7 : Bool) => some x7) else (some false)) else (if a0.fUuid = [] then (if 0 < (a0.fDn.length : Int) then ((F73 a0.fDn).bind fun (x9 : Bool) => if x9 = true then ((F71 a0.fHref).bind fun (x11 : Bool) => if x11 = true then ((F17 a0.fShadow).bind fun (x12 : Bool) => some x12) else (some false)) else (some false)) else (some false)) else (some false))) else (if a0.fUuid = [] then (if 0 < (a0.fDn.length : Int) then ((F73 a0.fDn).bind fun (x20 : Bool) => if x20 = true then ((F71 a0.fHref).bind fun (x22 : Bool) => if x22 = true then ((F17 a0.fShadow).bind fun (x23 : Bool) => some x23) else (some false)) else (some false)) else (some false)) else (some false)))

theorem F41_ok {H : IHeap} {K : IEnd → IHeap → Prop} (a0 : S33) {r : Bool} (h : F41 a0 = some r) (hK : K (.ret (.v (.bool r))) H) : ICalls prog 41 [.ag (.v (str a0.fHref) :: .v (str a0.fUuid) :: .sl 2 (a0.fDn.map fun x => [.v (str x.fType), .v (str x.fValue)]) :: (a0.fShadow.map fun x => .sl 1 (x.map fun x => [.v (str x)])))] H K := by
 refine ICalls_iwp (N := 40) func41 (by kernel_rfl) rfl (by kernel_rfl) (by kernel_rfl) fun cb hcb hw hbd hnb => ?_
 clear hbd hnb
 subst hcb
 unfold F41 at h
 obtain ⟨g2, h⟩ := gd_some.1 h
 refine wG ?_
 refine IWp_seqF fun cb hc3 => ?_
 refine vF g2 ?_
 obtain ⟨x4, hx4, h⟩ := bind_some' h
 refine F72_ok a0.fUuid hx4 ?_
 refine sG ?_
 refine splitG_f h eA ?_ ?_
 ·intro c30 h
  refine sF g2 ?_
  refine splitG_f h eA ?_ ?_
  ·intro c19 h
   simp (disch := omega) at c19
   refine sG ?_
   subst hc3
   refine IWp_seqF fun cb hc5 => ?_
   refine vF g2 ?_
   obtain ⟨x6, hx6, h⟩ := bind_some' h
   refine F71_ok a0.fHref hx6 ?_
   refine sG ?_
   refine splitG_f h eA ?_ ?_
   ·intro c8 h
    refine sF g2 ?_
    obtain ⟨x7, hx7, h⟩ := bind_some' h
    refine F17_ok a0.fShadow hx7 ?_
    refine sG ?_
    subst hc5
    refine vO ?_
    obtain rfl := Option.some.inj h
    refine sG ?_
    exact retA (.refl hw) hK
   intro c8 h
   simp (disch := omega) at c8
   refine sG ?_
   subst hc5
   refine vO ?_
   obtain rfl := Option.some.inj h
   refine sG ?_
   exact retA (.refl hw) hK
  intro c19 h
  simp (disch := omega) at c19
  refine sF g2 ?_
  refine splitG_f h rfl ?_ ?_
  ·intro c18 h
   refine sF g2 ?_
   refine splitG_f h eA ?_ ?_
   ·intro c16 h
    simp (disch := omega) at c16
    refine sF g2 ?_
    obtain ⟨x9, hx9, h⟩ := bind_some' h
    refine F73_ok a0.fDn hx9 ?_
    refine sG ?_
    subst hc3
    refine IWp_seqF fun cb hc10 => ?_
    refine vG ?_
    refine splitG_f h eA ?_ ?_
    ·intro c14 h
     refine sF g2 ?_
     obtain ⟨x11, hx11, h⟩ := bind_some' h
     refine F71_ok a0.fHref hx11 ?_
     refine sG ?_
     refine splitG_f h eA ?_ ?_
     ·intro c13 h
      refine sF g2 ?_
      obtain ⟨x12, hx12, h⟩ := bind_some' h
      refine F17_ok a0.fShadow hx12 ?_
      refine sG ?_
      subst hc10
      refine vO ?_
      obtain rfl := Option.some.inj h
      refine sG ?_
      exact retA (.refl hw) hK
     intro c13 h
     simp (disch := omega) at c13
     refine sG ?_
     subst hc10
     refine vO ?_
     obtain rfl := Option.some.inj h
     refine sG ?_
     exact retA (.refl hw) hK
    intro c14 h
    simp (disch := omega) at c14
    refine sG ?_
    subst hc10
    refine vO ?_
    obtain rfl := Option.some.inj h
    refine sG ?_
    exact retA (.refl hw) hK
   intro c16 h
   simp (disch := omega) at c16
   refine sG ?_
   subst hc3
   refine wG ?_
   refine vO ?_
   obtain rfl := Option.some.inj h
   refine sG ?_
   exact retA (.refl hw) hK
  intro c18 h
  refine sG ?_
  subst hc3
  refine wG ?_
  refine vO ?_
  obtain rfl := Option.some.inj h
  refine sG ?_
  exact retA (.refl hw) hK
 intro c30 h
 simp (disch := omega) at c30
 refine sF g2 ?_
 refine splitG_f h rfl ?_ ?_
 ·intro c29 h
  refine sF g2 ?_
  refine splitG_f h eA ?_ ?_
  ·intro c27 h
   simp (disch := omega) at c27
   refine sF g2 ?_
   obtain ⟨x20, hx20, h⟩ := bind_some' h
   refine F73_ok a0.fDn hx20 ?_
   refine sG ?_
   subst hc3
   refine IWp_seqF fun cb hc21 => ?_
   refine vG ?_
   refine splitG_f h eA ?_ ?_
   ·intro c25 h
    refine sF g2 ?_
    obtain ⟨x22, hx22, h⟩ := bind_some' h
    refine F71_ok a0.fHref hx22 ?_
    refine sG ?_
    refine splitG_f h eA ?_ ?_
    ·intro c24 h
     refine sF g2 ?_
     obtain ⟨x23, hx23, h⟩ := bind_some' h
     refine F17_ok a0.fShadow hx23 ?_
     refine sG ?_
     subst hc21
     refine vO ?_
     obtain rfl := Option.some.inj h
     refine sG ?_
     exact retA (.refl hw) hK
    intro c24 h
    simp (disch := omega) at c24
    refine sG ?_
    subst hc21
    refine vO ?_
    obtain rfl := Option.some.inj h
    refine sG ?_
    exact retA (.refl hw) hK
   intro c25 h
   simp (disch := omega) at c25
   refine sG ?_
   subst hc21
   refine vO ?_
   obtain rfl := Option.some.inj h
   refine sG ?_
   exact retA (.refl hw) hK
  intro c27 h
  simp (disch := omega) at c27
  refine sG ?_
  subst hc3
  refine wG ?_
  refine vO ?_
  obtain rfl := Option.some.inj h
  refine sG ?_
  exact retA (.refl hw) hK
 intro c29 h
 refine sG ?_
 subst hc3
 refine wG ?_
 refine vO ?_
 obtain rfl := Option.some.inj h
 refine sG ?_
 exact retA (.refl hw) hK

end Go.Idl
