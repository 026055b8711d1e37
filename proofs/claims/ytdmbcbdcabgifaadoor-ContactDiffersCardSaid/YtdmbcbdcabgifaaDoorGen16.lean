/- Plain functions of contacts told as functions of Lean, with their walks (printed by a program of this session's). Conditions: none. -/
import Derived.Test.YtdmbcbdcabgifaaDoorFnB
import Derived.Test.YtdmbcbdcabgifaaDoorFnC
set_option linter.unusedSimpArgs false
set_option linter.unusedVariables false

namespace Go.Idl
open Go Go.Proofs.Tryd

/-! cardcase/cardcaselaw16.texts -/
noncomputable def F7_k8  : Option Bool :=
  some true

noncomputable def F7_b8 (l : List (List UInt8)) (v9 : Int) : Option (Int ⊕ (Unit ⊕ Bool)) :=
  if v9 < (l.length : Int) then (gd (0 ≤ v9 ∧ v9 < l.length) (if 400 < (((l.getD v9.toNat []).length : Int)) then (some (.inr (.inr false))) else (some (.inl (IntKind.i64.wrap (v9 + 1)))))) else (some (.inr (.inl ())))

noncomputable def F7 (l : List (List UInt8)) : Option Bool :=
  if 20 < (l.length : Int) then (some false) else ((loopO (fun (s : Int) => F7_b8 l s) 0).bind fun y => Sum.elim (fun (e : Unit) => F7_k8) (fun (q : Bool) => some q) y)

set_option maxHeartbeats 8000000 in
set_option pp.deepTerms false in
set_option maxRecDepth 8000 in
theorem F7_ok {H : IHeap} {K : IEnd → IHeap → Prop} (l : List (List UInt8)) {r : Bool} (h : F7 l = some r) (hK : K (.ret (.v (.bool r))) H) : ICalls prog 7 [.sl 1 (l.map fun x => [.v (str x)])] H K := by
  refine ICalls_iwp (N := 19) func7 (by kernel_rfl) rfl (by kernel_rfl) (by kernel_rfl) fun cb hcb hw hbd hnb => ?_
  clear hbd hnb
  subst hcb
  unfold F7 at h
  refine IWp_seqF fun cb hc1 => ?_
  refine vc_sound _ (by kernel_rfl) _ _ _ ?_
  simp -implicitDefEqProofs (maxSteps := 1000000) (disch := omega) [go_sem]
  subst hc1
  refine IWp_seqF fun cb hc2 => ?_
  refine IWp_seqF fun cb hc3 => ?_
  refine vc_sound _ (by kernel_rfl) _ _ _ ?_
  simp -implicitDefEqProofs (maxSteps := 1000000) (disch := omega) [go_sem]
  subst hc3
  refine IWp_cond_i h (by first | with_reducible rfl | (simp -implicitDefEqProofs (maxSteps := 1000000) (disch := omega) [go_sem] <;> omega)) rfl ?_ ?_
  · intro c4 h
    try simp -implicitDefEqProofs (disch := omega) at c4
    refine IWp_seqF fun cb hc5 => ?_
    refine vc_sound _ (by kernel_rfl) _ _ _ ?_
    simp -implicitDefEqProofs (maxSteps := 1000000) (disch := omega) [go_sem]
    subst hc5
    refine vc_sound _ (by kernel_rfl) _ _ _ ?_
    simp -implicitDefEqProofs only [go_sem]
    have er := Option.some.inj h
    subst er
    simp -implicitDefEqProofs (maxSteps := 1000000) (disch := omega) [go_sem]
    refine retG_pureE (by repeat (first | exact (Ext.refl hw) | refine Ext.new ?_ _ | refine Ext.set ?_ (by first | omega | (simp [go_sem]; omega)) _ | refine Ext.del ?_ (by first | omega | (simp [go_sem]; omega)))) (by first | with_reducible rfl | (simp -implicitDefEqProofs (maxSteps := 1000000) (disch := omega) [go_sem] <;> omega)) ?_ hK
    simp [NB_v, NB_sl, NB_ag, NB_tu]
  · intro c4 h
    try simp -implicitDefEqProofs (disch := omega) at c4
    refine vc_sound _ (by kernel_rfl) _ _ _ ?_
    simp -implicitDefEqProofs only [go_sem]
    subst hc2
    refine IWp_seqF fun cb hc6 => ?_
    refine IWp_seqF fun cb hc7 => ?_
    refine vc_sound _ (by kernel_rfl) _ _ _ ?_
    simp -implicitDefEqProofs (maxSteps := 1000000) (disch := omega) [go_sem]
    subst hc7
    obtain ⟨y8, hl8q, hk8⟩ := bind_some' h
    refine IWp_tailC (fun tm' H' => .inl () = y8 ∧ H = H') ?_ fun cb hc8 => ?_
    · rintro tm8e H8e ⟨rfl, rfl⟩
      have h : F7_k8 = some r := hk8
      unfold F7_k8 at h
      simp -implicitDefEqProofs only [go_sem]
      subst hc6
      refine IWp_seqF fun cb hc10 => ?_
      refine vc_sound _ (by kernel_rfl) _ _ _ ?_
      simp -implicitDefEqProofs (maxSteps := 1000000) (disch := omega) [go_sem]
      subst hc10
      refine vc_sound _ (by kernel_rfl) _ _ _ ?_
      simp -implicitDefEqProofs only [go_sem]
      have er := Option.some.inj h
      subst er
      simp -implicitDefEqProofs (maxSteps := 1000000) (disch := omega) [go_sem]
      refine retG_pureE (by repeat (first | exact (Ext.refl hw) | refine Ext.new ?_ _ | refine Ext.set ?_ (by first | omega | (simp [go_sem]; omega)) _ | refine Ext.del ?_ (by first | omega | (simp [go_sem]; omega)))) (by first | with_reducible rfl | (simp -implicitDefEqProofs (maxSteps := 1000000) (disch := omega) [go_sem] <;> omega)) ?_ hK
      simp [NB_v, NB_sl, NB_ag, NB_tu]
    · refine IWp_block ?_
      refine IWp_loopF (fun (s : Int) tm' H' => H = H' ∧ tm' 0 = .sl 1 (l.map fun x => [.v (str x)]) ∧ tm' 3 = .v (.int .i64 s)) hl8q ?_ ?_
      · refine .same ⟨rfl, by first | with_reducible rfl | assumption | omega | (simp -implicitDefEqProofs (maxSteps := 1000000) (disch := omega) [go_sem] <;> omega), by first | with_reducible rfl | assumption | omega | (simp -implicitDefEqProofs (maxSteps := 1000000) (disch := omega) [go_sem] <;> omega)⟩
      · rintro I8 hI8 v9 x8 tm8 H8 ⟨rfl, t0_8, t3_8⟩ h hret8
        replace h : F7_b8 l v9 = some x8 := h
        unfold F7_b8 at h
        refine IWp_seqF fun cb hc11 => ?_
        refine IWp_seqF fun cb hc12 => ?_
        refine vc_sound _ (by kernel_rfl) _ _ _ ?_
        simp -implicitDefEqProofs (maxSteps := 1000000) (disch := omega) [go_sem, t0_8, t3_8]
        subst hc12
        refine IWp_cond_i h (by first | with_reducible rfl | (simp -implicitDefEqProofs (maxSteps := 1000000) (disch := omega) [go_sem, t0_8, t3_8] <;> omega)) rfl ?_ ?_
        · intro c13 h
          try simp -implicitDefEqProofs (disch := omega) at c13
          refine vc_sound _ (by kernel_rfl) _ _ _ ?_
          simp -implicitDefEqProofs only [go_sem]
          subst hc11
          refine IWp_seqF fun cb hc14 => ?_
          refine IWp_block ?_
          refine IWp_seqF fun cb hc15 => ?_
          refine vc_sound _ (by kernel_rfl) _ _ _ ?_
          obtain ⟨g16, h⟩ := gd_some.1 h
          try simp -implicitDefEqProofs (disch := omega) at g16
          simp -implicitDefEqProofs (maxSteps := 1000000) (disch := omega) [go_sem, t0_8, t3_8]
          subst hc15
          refine IWp_cond_i h (by first | with_reducible rfl | (simp -implicitDefEqProofs (maxSteps := 1000000) (disch := omega) [go_sem, t0_8, t3_8] <;> omega)) rfl ?_ ?_
          · intro c17 h
            try simp -implicitDefEqProofs (disch := omega) at c17
            refine IWp_seqF fun cb hc18 => ?_
            refine vc_sound _ (by kernel_rfl) _ _ _ ?_
            simp -implicitDefEqProofs (maxSteps := 1000000) (disch := omega) [go_sem, t0_8, t3_8]
            subst hc18
            refine vc_sound _ (by kernel_rfl) _ _ _ ?_
            simp -implicitDefEqProofs only [go_sem]
            have e8 := Option.some.inj h
            subst e8
            have e8 := hret8 _ rfl
            subst e8
            replace h : some false = some r := hk8
            have er := Option.some.inj h
            subst er
            simp -implicitDefEqProofs (maxSteps := 1000000) (disch := omega) [go_sem, t0_8, t3_8]
            refine retG_pureE (by repeat (first | exact (Ext.refl hw) | refine Ext.new ?_ _ | refine Ext.set ?_ (by first | omega | (simp [go_sem]; omega)) _ | refine Ext.del ?_ (by first | omega | (simp [go_sem]; omega)))) (by first | with_reducible rfl | (simp -implicitDefEqProofs (maxSteps := 1000000) (disch := omega) [go_sem, t0_8, t3_8] <;> omega)) ?_ hK
            simp [NB_v, NB_sl, NB_ag, NB_tu]
          · intro c17 h
            try simp -implicitDefEqProofs (disch := omega) at c17
            refine vc_sound _ (by kernel_rfl) _ _ _ ?_
            simp -implicitDefEqProofs only [go_sem]
            subst hc14
            refine vc_sound _ (by kernel_rfl) _ _ _ ?_
            simp -implicitDefEqProofs (maxSteps := 1000000) (disch := omega) [go_sem, t0_8, t3_8]
            have e8 := Option.some.inj h
            subst e8
            refine loopN_mk hI8 (IntKind.i64.wrap (v9 + 1)) ?_
            refine .same ⟨rfl, by first | with_reducible rfl | assumption | omega | (simp -implicitDefEqProofs (maxSteps := 1000000) (disch := omega) [go_sem, t0_8, t3_8] <;> omega), by first | with_reducible rfl | assumption | omega | (simp -implicitDefEqProofs (maxSteps := 1000000) (disch := omega) [go_sem, t0_8, t3_8] <;> omega)⟩
        · intro c13 h
          try simp -implicitDefEqProofs (disch := omega) at c13
          refine vc_sound _ (by kernel_rfl) _ _ _ ?_
          simp -implicitDefEqProofs only [go_sem]
          have e8 := Option.some.inj h
          subst e8
          have hy8 := hret8 _ rfl
          refine hc8 _ _ ?_
          refine .same ⟨hy8, rfl⟩

/-! cardcase/cardcaselaw16.light -/
noncomputable def F6_k4  : Option Bool :=
  some true

noncomputable def F6_b4 (c : List (List (List UInt8))) (v5 : Int) : Option (Int ⊕ (Unit ⊕ Bool)) :=
  if v5 < 8 then (gd (0 ≤ v5 ∧ v5 < 8) (gd (c.length = 8) ((F7 (c.getD v5.toNat [])).bind fun (x14 : Bool) => if ¬ (x14 = true) then (some (.inr (.inr false))) else (some (.inl (IntKind.i64.wrap (v5 + 1))))))) else (some (.inr (.inl ())))

noncomputable def F6 (c : List (List (List UInt8))) : Option Bool :=
  (loopO (fun (s : Int) => F6_b4 c s) 0).bind fun y => Sum.elim (fun (e : Unit) => F6_k4) (fun (q : Bool) => some q) y

set_option maxHeartbeats 8000000 in
set_option pp.deepTerms false in
set_option maxRecDepth 8000 in
theorem F6_ok {H : IHeap} {K : IEnd → IHeap → Prop} (c : List (List (List UInt8))) {r : Bool} (h : F6 c = some r) (hK : K (.ret (.v (.bool r))) H) : ICalls prog 6 [.ag (c.map fun x => .sl 1 (x.map fun x => [.v (str x)]))] H K := by
  refine ICalls_iwp (N := 13) func6 (by kernel_rfl) rfl (by kernel_rfl) (by kernel_rfl) fun cb hcb hw hbd hnb => ?_
  clear hbd hnb
  subst hcb
  unfold F6 at h
  refine IWp_seqF fun cb hc1 => ?_
  refine vc_sound _ (by kernel_rfl) _ _ _ ?_
  simp -implicitDefEqProofs (maxSteps := 1000000) (disch := omega) [go_sem]
  subst hc1
  refine IWp_seqF fun cb hc2 => ?_
  refine IWp_seqF fun cb hc3 => ?_
  refine vc_sound _ (by kernel_rfl) _ _ _ ?_
  simp -implicitDefEqProofs (maxSteps := 1000000) (disch := omega) [go_sem]
  subst hc3
  obtain ⟨y4, hl4q, hk4⟩ := bind_some' h
  refine IWp_tailC (fun tm' H' => .inl () = y4 ∧ Ext H H' ∧ H.next + 1 ≤ H'.next ∧ H'.obj H.next = some (.cells (c.map fun x => .sl 1 (x.map fun x => [.v (str x)])))) ?_ fun cb hc4 => ?_
  · rintro tm4e H4e ⟨rfl, he4e, hl4e, ob0_4e⟩
    have h : F6_k4 = some r := hk4
    unfold F6_k4 at h
    simp -implicitDefEqProofs only [go_sem]
    subst hc2
    refine IWp_seqF fun cb hc6 => ?_
    refine vc_sound _ (by kernel_rfl) _ _ _ ?_
    simp -implicitDefEqProofs (maxSteps := 1000000) (disch := omega) [go_sem, ob0_4e]
    subst hc6
    refine vc_sound _ (by kernel_rfl) _ _ _ ?_
    simp -implicitDefEqProofs only [go_sem]
    have er := Option.some.inj h
    subst er
    simp -implicitDefEqProofs (maxSteps := 1000000) (disch := omega) [go_sem, ob0_4e]
    refine retG_pureE (by repeat (first | exact he4e | refine Ext.new ?_ _ | refine Ext.set ?_ (by first | omega | (simp [go_sem]; omega)) _ | refine Ext.del ?_ (by first | omega | (simp [go_sem]; omega)))) (by first | with_reducible rfl | (simp -implicitDefEqProofs (maxSteps := 1000000) (disch := omega) [go_sem, ob0_4e] <;> omega)) ?_ hK
    simp [NB_v, NB_sl, NB_ag, NB_tu]
  · refine IWp_block ?_
    refine IWp_loopF (fun (s : Int) tm' H' => Ext H H' ∧ H.next + 1 ≤ H'.next ∧ tm' 1 = .p H.next 0 ∧ tm' 3 = .v (.int .i64 s) ∧ H'.obj H.next = some (.cells (c.map fun x => .sl 1 (x.map fun x => [.v (str x)])))) hl4q ?_ ?_
    · refine .same ⟨by repeat (first | exact (Ext.refl hw) | refine Ext.new ?_ _ | refine Ext.set ?_ (by first | omega | (simp [go_sem]; omega)) _ | refine Ext.del ?_ (by first | omega | (simp [go_sem]; omega))), by first | with_reducible rfl | assumption | omega | (simp -implicitDefEqProofs (maxSteps := 1000000) (disch := omega) [go_sem] <;> omega), by first | with_reducible rfl | assumption | omega | (simp -implicitDefEqProofs (maxSteps := 1000000) (disch := omega) [go_sem] <;> omega), by first | with_reducible rfl | assumption | omega | (simp -implicitDefEqProofs (maxSteps := 1000000) (disch := omega) [go_sem] <;> omega), by first | with_reducible rfl | assumption | omega | (simp -implicitDefEqProofs (maxSteps := 1000000) (disch := omega) [go_sem] <;> omega)⟩
    · rintro I4 hI4 v5 x4 tm4 H4 ⟨he4, hl4, t1_4, t3_4, ob0_4⟩ h hret4
      replace h : F6_b4 c v5 = some x4 := h
      unfold F6_b4 at h
      refine IWp_seqF fun cb hc7 => ?_
      refine IWp_seqF fun cb hc8 => ?_
      refine vc_sound _ (by kernel_rfl) _ _ _ ?_
      simp -implicitDefEqProofs (maxSteps := 1000000) (disch := omega) [go_sem, t1_4, t3_4, ob0_4]
      subst hc8
      refine IWp_cond_i h (by first | with_reducible rfl | (simp -implicitDefEqProofs (maxSteps := 1000000) (disch := omega) [go_sem, t1_4, t3_4, ob0_4] <;> omega)) rfl ?_ ?_
      · intro c9 h
        try simp -implicitDefEqProofs (disch := omega) at c9
        refine vc_sound _ (by kernel_rfl) _ _ _ ?_
        simp -implicitDefEqProofs only [go_sem]
        subst hc7
        refine IWp_seqF fun cb hc10 => ?_
        refine IWp_block ?_
        refine IWp_seqF fun cb hc11 => ?_
        refine vc_sound _ (by kernel_rfl) _ _ _ ?_
        obtain ⟨g12, h⟩ := gd_some.1 h
        try simp -implicitDefEqProofs (disch := omega) at g12
        obtain ⟨g13, h⟩ := gd_some.1 h
        try simp -implicitDefEqProofs (disch := omega) at g13
        simp -implicitDefEqProofs (maxSteps := 1000000) (disch := omega) [go_sem, t1_4, t3_4, ob0_4, g13]
        obtain ⟨x14, hx14, h⟩ := bind_some' h
        refine ICalls.eqA (args' := [.sl 1 ((c.getD v5.toNat []).map fun x => [.v (str x)])]) (by first | with_reducible rfl | (simp -implicitDefEqProofs (maxSteps := 1000000) (disch := omega) [go_sem, t1_4, t3_4, ob0_4, g13] <;> omega)) (F7_ok (c.getD v5.toNat []) hx14 ?_)
        simp -implicitDefEqProofs (maxSteps := 1000000) (disch := omega) [go_sem, t1_4, t3_4, ob0_4, g13]
        subst hc11
        refine IWp_cond_i h (by first | with_reducible rfl | (simp -implicitDefEqProofs (maxSteps := 1000000) (disch := omega) [go_sem, t1_4, t3_4, ob0_4, g13] <;> omega)) rfl ?_ ?_
        · intro c15 h
          try simp -implicitDefEqProofs (disch := omega) at c15
          refine IWp_seqF fun cb hc16 => ?_
          refine vc_sound _ (by kernel_rfl) _ _ _ ?_
          simp -implicitDefEqProofs (maxSteps := 1000000) (disch := omega) [go_sem, t1_4, t3_4, ob0_4, g13]
          subst hc16
          refine vc_sound _ (by kernel_rfl) _ _ _ ?_
          simp -implicitDefEqProofs only [go_sem]
          have e4 := Option.some.inj h
          subst e4
          have e4 := hret4 _ rfl
          subst e4
          replace h : some false = some r := hk4
          have er := Option.some.inj h
          subst er
          simp -implicitDefEqProofs (maxSteps := 1000000) (disch := omega) [go_sem, t1_4, t3_4, ob0_4, g13]
          refine retG_pureE (by repeat (first | exact he4 | refine Ext.new ?_ _ | refine Ext.set ?_ (by first | omega | (simp [go_sem]; omega)) _ | refine Ext.del ?_ (by first | omega | (simp [go_sem]; omega)))) (by first | with_reducible rfl | (simp -implicitDefEqProofs (maxSteps := 1000000) (disch := omega) [go_sem, t1_4, t3_4, ob0_4, g13] <;> omega)) ?_ hK
          simp [NB_v, NB_sl, NB_ag, NB_tu]
        · intro c15 h
          try simp -implicitDefEqProofs (disch := omega) at c15
          refine vc_sound _ (by kernel_rfl) _ _ _ ?_
          simp -implicitDefEqProofs only [go_sem]
          subst hc10
          refine vc_sound _ (by kernel_rfl) _ _ _ ?_
          simp -implicitDefEqProofs (maxSteps := 1000000) (disch := omega) [go_sem, t1_4, t3_4, ob0_4, g13]
          have e4 := Option.some.inj h
          subst e4
          refine loopN_mk hI4 (IntKind.i64.wrap (v5 + 1)) ?_
          refine .same ⟨by repeat (first | exact he4 | refine Ext.new ?_ _ | refine Ext.set ?_ (by first | omega | (simp [go_sem]; omega)) _ | refine Ext.del ?_ (by first | omega | (simp [go_sem]; omega))), by first | with_reducible rfl | assumption | omega | (simp -implicitDefEqProofs (maxSteps := 1000000) (disch := omega) [go_sem, t1_4, t3_4, ob0_4, g13] <;> omega), by first | with_reducible rfl | assumption | omega | (simp -implicitDefEqProofs (maxSteps := 1000000) (disch := omega) [go_sem, t1_4, t3_4, ob0_4, g13] <;> omega), by first | with_reducible rfl | assumption | omega | (simp -implicitDefEqProofs (maxSteps := 1000000) (disch := omega) [go_sem, t1_4, t3_4, ob0_4, g13] <;> omega), by first | with_reducible rfl | assumption | omega | (simp -implicitDefEqProofs (maxSteps := 1000000) (disch := omega) [go_sem, t1_4, t3_4, ob0_4, g13] <;> omega)⟩
      · intro c9 h
        try simp -implicitDefEqProofs (disch := omega) at c9
        refine vc_sound _ (by kernel_rfl) _ _ _ ?_
        simp -implicitDefEqProofs only [go_sem]
        have e4 := Option.some.inj h
        subst e4
        have hy4 := hret4 _ rfl
        refine hc4 _ _ ?_
        refine .same ⟨hy4, by repeat (first | exact he4 | refine Ext.new ?_ _ | refine Ext.set ?_ (by first | omega | (simp [go_sem]; omega)) _ | refine Ext.del ?_ (by first | omega | (simp [go_sem]; omega))), by first | with_reducible rfl | assumption | omega | (simp -implicitDefEqProofs (maxSteps := 1000000) (disch := omega) [go_sem, t1_4, t3_4, ob0_4] <;> omega), by first | with_reducible rfl | assumption | omega | (simp -implicitDefEqProofs (maxSteps := 1000000) (disch := omega) [go_sem, t1_4, t3_4, ob0_4] <;> omega)⟩

/-! cardcase/cardcaseref16.most -/
noncomputable def F40 (f : Int) : Option Int :=
  if 6 ≤ f then (some 8) else (some 1)

set_option maxHeartbeats 8000000 in
set_option pp.deepTerms false in
set_option maxRecDepth 8000 in
theorem F40_ok {H : IHeap} {K : IEnd → IHeap → Prop} (f : Int) {r : Int} (h : F40 f = some r) (hK : K (.ret (.v (.int .i64 r))) H) : ICalls prog 40 [.v (.int .i64 f)] H K := by
  refine ICalls_iwp (N := 5) func40 (by kernel_rfl) rfl (by kernel_rfl) (by kernel_rfl) fun cb hcb hw hbd hnb => ?_
  clear hbd hnb
  subst hcb
  unfold F40 at h
  refine IWp_seqF fun cb hc1 => ?_
  refine vc_sound _ (by kernel_rfl) _ _ _ ?_
  simp -implicitDefEqProofs (maxSteps := 1000000) (disch := omega) [go_sem]
  subst hc1
  refine IWp_seqF fun cb hc2 => ?_
  refine IWp_seqF fun cb hc3 => ?_
  refine vc_sound _ (by kernel_rfl) _ _ _ ?_
  simp -implicitDefEqProofs (maxSteps := 1000000) (disch := omega) [go_sem]
  subst hc3
  refine IWp_cond_i h (by first | with_reducible rfl | (simp -implicitDefEqProofs (maxSteps := 1000000) (disch := omega) [go_sem] <;> omega)) rfl ?_ ?_
  · intro c4 h
    try simp -implicitDefEqProofs (disch := omega) at c4
    refine IWp_seqF fun cb hc5 => ?_
    refine vc_sound _ (by kernel_rfl) _ _ _ ?_
    simp -implicitDefEqProofs (maxSteps := 1000000) (disch := omega) [go_sem]
    subst hc5
    refine vc_sound _ (by kernel_rfl) _ _ _ ?_
    simp -implicitDefEqProofs only [go_sem]
    have er := Option.some.inj h
    subst er
    simp -implicitDefEqProofs (maxSteps := 1000000) (disch := omega) [go_sem]
    refine retG_pureE (by repeat (first | exact (Ext.refl hw) | refine Ext.new ?_ _ | refine Ext.set ?_ (by first | omega | (simp [go_sem]; omega)) _ | refine Ext.del ?_ (by first | omega | (simp [go_sem]; omega)))) (by first | with_reducible rfl | (simp -implicitDefEqProofs (maxSteps := 1000000) (disch := omega) [go_sem] <;> omega)) ?_ hK
    simp [NB_v, NB_sl, NB_ag, NB_tu]
  · intro c4 h
    try simp -implicitDefEqProofs (disch := omega) at c4
    refine vc_sound _ (by kernel_rfl) _ _ _ ?_
    simp -implicitDefEqProofs only [go_sem]
    subst hc2
    refine IWp_seqF fun cb hc6 => ?_
    refine vc_sound _ (by kernel_rfl) _ _ _ ?_
    simp -implicitDefEqProofs (maxSteps := 1000000) (disch := omega) [go_sem]
    subst hc6
    refine vc_sound _ (by kernel_rfl) _ _ _ ?_
    simp -implicitDefEqProofs only [go_sem]
    have er := Option.some.inj h
    subst er
    simp -implicitDefEqProofs (maxSteps := 1000000) (disch := omega) [go_sem]
    refine retG_pureE (by repeat (first | exact (Ext.refl hw) | refine Ext.new ?_ _ | refine Ext.set ?_ (by first | omega | (simp [go_sem]; omega)) _ | refine Ext.del ?_ (by first | omega | (simp [go_sem]; omega)))) (by first | with_reducible rfl | (simp -implicitDefEqProofs (maxSteps := 1000000) (disch := omega) [go_sem] <;> omega)) ?_ hK
    simp [NB_v, NB_sl, NB_ag, NB_tu]

/-! cardcase/cardcaseref16.Values -/
noncomputable def F24_k5  : Option Bool :=
  some true

noncomputable def F24_k14 (v6 : Int) : Option (Int ⊕ (Unit ⊕ Bool)) :=
  some (.inl (IntKind.i64.wrap (v6 + 1)))

noncomputable def F24_b14 (f : Int) (l : List (List UInt8)) (v6 : Int) (v15 : Int) : Option (Int ⊕ (Unit ⊕ Bool)) :=
  gd (0 ≤ v6 ∧ v6 < l.length) (if v15 < (((l.getD v6.toNat []).length : Int)) then (gd (0 ≤ v15 ∧ v15 < (l.getD v6.toNat []).length) (if ((((l.getD v6.toNat []).getD v15.toNat 0).toNat : Int)) < 32 then (if ¬ ((((l.getD v6.toNat []).getD v15.toNat 0).toNat : Int)) = 10 then (some (.inr (.inr false))) else (if ¬ f = 5 then (some (.inr (.inr false))) else (some (.inl (IntKind.i64.wrap (v15 + 1)))))) else (some (.inl (IntKind.i64.wrap (v15 + 1)))))) else (some (.inr (.inl ()))))

noncomputable def F24_k12 (f : Int) (l : List (List UInt8)) (v6 : Int) : Option (Int ⊕ (Unit ⊕ Bool)) :=
  (loopO (fun (s : Int) => F24_b14 f l v6 s) 0).bind fun y => Sum.elim (fun (e : Unit) => F24_k14 v6) (fun (q : Bool) => some (.inr (.inr q))) y

noncomputable def F24_b5 (f : Int) (l : List (List UInt8)) (v6 : Int) : Option (Int ⊕ (Unit ⊕ Bool)) :=
  if v6 < (l.length : Int) then (gd (0 ≤ v6 ∧ v6 < l.length) (if (((l.getD v6.toNat []).length : Int)) < 1 then (some (.inr (.inr false))) else (if 200 < (((l.getD v6.toNat []).length : Int)) then (some (.inr (.inr false))) else (if 0 < v6 then (gd (0 ≤ (IntKind.i64.wrap (v6 - 1)) ∧ (IntKind.i64.wrap (v6 - 1)) < l.length) (if ¬ Op.bytesLess (l.getD (IntKind.i64.wrap (v6 - 1)).toNat []) (l.getD v6.toNat []) = true then (some (.inr (.inr false))) else (F24_k12 f l v6))) else (F24_k12 f l v6))))) else (some (.inr (.inl ())))

noncomputable def F24_k2 (f : Int) (l : List (List UInt8)) : Option Bool :=
  (loopO (fun (s : Int) => F24_b5 f l s) 0).bind fun y => Sum.elim (fun (e : Unit) => F24_k5) (fun (q : Bool) => some q) y

noncomputable def F24 (f : Int) (l : List (List UInt8)) : Option Bool :=
  (F40 f).bind fun (x40 : Int) => if x40 < (l.length : Int) then (some false) else (if f = 0 then (if ¬ (l.length : Int) = 1 then (some false) else (F24_k2 f l)) else (F24_k2 f l))

set_option maxHeartbeats 8000000 in
set_option pp.deepTerms false in
set_option maxRecDepth 8000 in
theorem F24_ok {H : IHeap} {K : IEnd → IHeap → Prop} (f : Int) (l : List (List UInt8)) {r : Bool} (h : F24 f l = some r) (hK : K (.ret (.v (.bool r))) H) : ICalls prog 24 [.v (.int .i64 f), .sl 1 (l.map fun x => [.v (str x)])] H K := by
  refine ICalls_iwp (N := 83) func24 (by kernel_rfl) rfl (by kernel_rfl) (by kernel_rfl) fun cb hcb hw hbd hnb => ?_
  clear hbd hnb
  subst hcb
  unfold F24 at h
  refine IWp_seqF fun cb hc1 => ?_
  refine vc_sound _ (by kernel_rfl) _ _ _ ?_
  simp -implicitDefEqProofs (maxSteps := 1000000) (disch := omega) [go_sem]
  subst hc1
  refine IWp_seqC (fun tm' H' => H = H' ∧ tm' 0 = .v (.int .i64 f) ∧ tm' 1 = .sl 1 (l.map fun x => [.v (str x)]) ∧ F24_k2 f l = some r) ?_ fun cb hc2 => ?_
  · rintro tm2 H2 ⟨rfl, t0_2, t1_2, h⟩
    unfold F24_k2 at h
    refine IWp_seqF fun cb hc3 => ?_
    refine IWp_seqF fun cb hc4 => ?_
    refine vc_sound _ (by kernel_rfl) _ _ _ ?_
    simp -implicitDefEqProofs (maxSteps := 1000000) (disch := omega) [go_sem, t0_2, t1_2]
    subst hc4
    obtain ⟨y5, hl5q, hk5⟩ := bind_some' h
    refine IWp_tailC (fun tm' H' => .inl () = y5 ∧ H = H') ?_ fun cb hc5 => ?_
    · rintro tm5e H5e ⟨rfl, rfl⟩
      have h : F24_k5 = some r := hk5
      unfold F24_k5 at h
      simp -implicitDefEqProofs only [go_sem]
      subst hc3
      refine IWp_seqF fun cb hc7 => ?_
      refine vc_sound _ (by kernel_rfl) _ _ _ ?_
      simp -implicitDefEqProofs (maxSteps := 1000000) (disch := omega) [go_sem]
      subst hc7
      refine vc_sound _ (by kernel_rfl) _ _ _ ?_
      simp -implicitDefEqProofs only [go_sem]
      have er := Option.some.inj h
      subst er
      simp -implicitDefEqProofs (maxSteps := 1000000) (disch := omega) [go_sem]
      refine retG_pureE (by repeat (first | exact (Ext.refl hw) | refine Ext.new ?_ _ | refine Ext.set ?_ (by first | omega | (simp [go_sem]; omega)) _ | refine Ext.del ?_ (by first | omega | (simp [go_sem]; omega)))) (by first | with_reducible rfl | (simp -implicitDefEqProofs (maxSteps := 1000000) (disch := omega) [go_sem] <;> omega)) ?_ hK
      simp [NB_v, NB_sl, NB_ag, NB_tu]
    · refine IWp_block ?_
      refine IWp_loopF (fun (s : Int) tm' H' => H = H' ∧ tm' 0 = .v (.int .i64 f) ∧ tm' 1 = .sl 1 (l.map fun x => [.v (str x)]) ∧ tm' 5 = .v (.int .i64 s)) hl5q ?_ ?_
      · refine .same ⟨rfl, by first | with_reducible rfl | assumption | omega | (simp -implicitDefEqProofs (maxSteps := 1000000) (disch := omega) [go_sem, t0_2, t1_2] <;> omega), by first | with_reducible rfl | assumption | omega | (simp -implicitDefEqProofs (maxSteps := 1000000) (disch := omega) [go_sem, t0_2, t1_2] <;> omega), by first | with_reducible rfl | assumption | omega | (simp -implicitDefEqProofs (maxSteps := 1000000) (disch := omega) [go_sem, t0_2, t1_2] <;> omega)⟩
      · rintro I5 hI5 v6 x5 tm5 H5 ⟨rfl, t0_5, t1_5, t5_5⟩ h hret5
        replace h : F24_b5 f l v6 = some x5 := h
        unfold F24_b5 at h
        refine IWp_seqF fun cb hc8 => ?_
        refine IWp_seqF fun cb hc9 => ?_
        refine vc_sound _ (by kernel_rfl) _ _ _ ?_
        simp -implicitDefEqProofs (maxSteps := 1000000) (disch := omega) [go_sem, t0_5, t1_5, t5_5]
        subst hc9
        refine IWp_cond_i h (by first | with_reducible rfl | (simp -implicitDefEqProofs (maxSteps := 1000000) (disch := omega) [go_sem, t0_5, t1_5, t5_5] <;> omega)) rfl ?_ ?_
        · intro c10 h
          try simp -implicitDefEqProofs (disch := omega) at c10
          refine vc_sound _ (by kernel_rfl) _ _ _ ?_
          simp -implicitDefEqProofs only [go_sem]
          subst hc8
          refine IWp_seqF fun cb hc11 => ?_
          refine IWp_block ?_
          refine IWp_seqC (fun tm' H' => H = H' ∧ tm' 0 = .v (.int .i64 f) ∧ tm' 1 = .sl 1 (l.map fun x => [.v (str x)]) ∧ tm' 5 = .v (.int .i64 v6) ∧ F24_k12 f l v6 = some x5) ?_ fun cb hc12 => ?_
          · rintro tm12 H12 ⟨rfl, t0_12, t1_12, t5_12, h⟩
            unfold F24_k12 at h
            refine IWp_seqF fun cb hc13 => ?_
            refine vc_sound _ (by kernel_rfl) _ _ _ ?_
            simp -implicitDefEqProofs (maxSteps := 1000000) (disch := omega) [go_sem, t0_12, t1_12, t5_12]
            subst hc13
            obtain ⟨y14, hl14q, hk14⟩ := bind_some' h
            refine IWp_tailC (fun tm' H' => .inl () = y14 ∧ H = H' ∧ tm' 0 = .v (.int .i64 f) ∧ tm' 1 = .sl 1 (l.map fun x => [.v (str x)]) ∧ tm' 5 = .v (.int .i64 v6)) ?_ fun cb hc14 => ?_
            · rintro tm14e H14e ⟨rfl, rfl, t0_14e, t1_14e, t5_14e⟩
              have h : F24_k14 v6 = some x5 := hk14
              unfold F24_k14 at h
              simp -implicitDefEqProofs only [go_sem]
              subst hc11
              refine vc_sound _ (by kernel_rfl) _ _ _ ?_
              simp -implicitDefEqProofs (maxSteps := 1000000) (disch := omega) [go_sem, t0_14e, t1_14e, t5_14e]
              have e5 := Option.some.inj h
              subst e5
              refine loopN_mk hI5 (IntKind.i64.wrap (v6 + 1)) ?_
              refine .same ⟨rfl, by first | with_reducible rfl | assumption | omega | (simp -implicitDefEqProofs (maxSteps := 1000000) (disch := omega) [go_sem, t0_14e, t1_14e, t5_14e] <;> omega), by first | with_reducible rfl | assumption | omega | (simp -implicitDefEqProofs (maxSteps := 1000000) (disch := omega) [go_sem, t0_14e, t1_14e, t5_14e] <;> omega), by first | with_reducible rfl | assumption | omega | (simp -implicitDefEqProofs (maxSteps := 1000000) (disch := omega) [go_sem, t0_14e, t1_14e, t5_14e] <;> omega)⟩
            · refine IWp_block ?_
              refine IWp_loopF (fun (s : Int) tm' H' => H = H' ∧ tm' 0 = .v (.int .i64 f) ∧ tm' 1 = .sl 1 (l.map fun x => [.v (str x)]) ∧ tm' 5 = .v (.int .i64 v6) ∧ tm' 6 = .v (.int .i64 s)) hl14q ?_ ?_
              · refine .same ⟨rfl, by first | with_reducible rfl | assumption | omega | (simp -implicitDefEqProofs (maxSteps := 1000000) (disch := omega) [go_sem, t0_12, t1_12, t5_12] <;> omega), by first | with_reducible rfl | assumption | omega | (simp -implicitDefEqProofs (maxSteps := 1000000) (disch := omega) [go_sem, t0_12, t1_12, t5_12] <;> omega), by first | with_reducible rfl | assumption | omega | (simp -implicitDefEqProofs (maxSteps := 1000000) (disch := omega) [go_sem, t0_12, t1_12, t5_12] <;> omega), by first | with_reducible rfl | assumption | omega | (simp -implicitDefEqProofs (maxSteps := 1000000) (disch := omega) [go_sem, t0_12, t1_12, t5_12] <;> omega)⟩
              · rintro I14 hI14 v15 x14 tm14 H14 ⟨rfl, t0_14, t1_14, t5_14, t6_14⟩ h hret14
                replace h : F24_b14 f l v6 v15 = some x14 := h
                unfold F24_b14 at h
                refine IWp_seqF fun cb hc16 => ?_
                refine IWp_seqF fun cb hc17 => ?_
                refine vc_sound _ (by kernel_rfl) _ _ _ ?_
                obtain ⟨g18, h⟩ := gd_some.1 h
                try simp -implicitDefEqProofs (disch := omega) at g18
                simp -implicitDefEqProofs (maxSteps := 1000000) (disch := omega) [go_sem, t0_14, t1_14, t5_14, t6_14]
                subst hc17
                refine IWp_cond_i h (by first | with_reducible rfl | (simp -implicitDefEqProofs (maxSteps := 1000000) (disch := omega) [go_sem, t0_14, t1_14, t5_14, t6_14] <;> omega)) rfl ?_ ?_
                · intro c19 h
                  try simp -implicitDefEqProofs (disch := omega) at c19
                  refine vc_sound _ (by kernel_rfl) _ _ _ ?_
                  simp -implicitDefEqProofs only [go_sem]
                  subst hc16
                  refine IWp_seqF fun cb hc20 => ?_
                  refine IWp_block ?_
                  refine IWp_seqF fun cb hc21 => ?_
                  refine vc_sound _ (by kernel_rfl) _ _ _ ?_
                  obtain ⟨g22, h⟩ := gd_some.1 h
                  try simp -implicitDefEqProofs (disch := omega) at g22
                  simp -implicitDefEqProofs (maxSteps := 1000000) (disch := omega) [go_sem, t0_14, t1_14, t5_14, t6_14]
                  subst hc21
                  refine IWp_seqF fun cb hc23 => ?_
                  refine vc_sound _ (by kernel_rfl) _ _ _ ?_
                  simp -implicitDefEqProofs (maxSteps := 1000000) (disch := omega) [go_sem, t0_14, t1_14, t5_14, t6_14]
                  refine splitG_f h (by first | with_reducible rfl | (simp -implicitDefEqProofs (maxSteps := 1000000) (disch := omega) [go_sem, t0_14, t1_14, t5_14, t6_14] <;> omega)) ?_ ?_
                  · intro c28 h
                    try simp -implicitDefEqProofs (disch := omega) at c28
                    simp -implicitDefEqProofs (maxSteps := 1000000) (disch := omega) [go_sem, t0_14, t1_14, t5_14, t6_14]
                    refine splitG_f h (by first | with_reducible rfl | (simp -implicitDefEqProofs (maxSteps := 1000000) (disch := omega) [go_sem, t0_14, t1_14, t5_14, t6_14] <;> omega)) ?_ ?_
                    · intro c27 h
                      try simp -implicitDefEqProofs (disch := omega) at c27
                      simp -implicitDefEqProofs (maxSteps := 1000000) (disch := omega) [go_sem, t0_14, t1_14, t5_14, t6_14]
                      subst hc23
                      refine IWp_cond_t (by first | with_reducible rfl | (simp -implicitDefEqProofs (maxSteps := 1000000) (disch := omega) [go_sem, t0_14, t1_14, t5_14, t6_14] <;> omega)) rfl ?_
                      refine IWp_seqF fun cb hc24 => ?_
                      refine vc_sound _ (by kernel_rfl) _ _ _ ?_
                      simp -implicitDefEqProofs (maxSteps := 1000000) (disch := omega) [go_sem, t0_14, t1_14, t5_14, t6_14]
                      subst hc24
                      refine vc_sound _ (by kernel_rfl) _ _ _ ?_
                      simp -implicitDefEqProofs only [go_sem]
                      have e14 := Option.some.inj h
                      subst e14
                      have e14 := hret14 _ rfl
                      subst e14
                      replace h : some (.inr (.inr false)) = some x5 := hk14
                      have e5 := Option.some.inj h
                      subst e5
                      have e5 := hret5 _ rfl
                      subst e5
                      replace h : some false = some r := hk5
                      have er := Option.some.inj h
                      subst er
                      simp -implicitDefEqProofs (maxSteps := 1000000) (disch := omega) [go_sem, t0_14, t1_14, t5_14, t6_14]
                      refine retG_pureE (by repeat (first | exact (Ext.refl hw) | refine Ext.new ?_ _ | refine Ext.set ?_ (by first | omega | (simp [go_sem]; omega)) _ | refine Ext.del ?_ (by first | omega | (simp [go_sem]; omega)))) (by first | with_reducible rfl | (simp -implicitDefEqProofs (maxSteps := 1000000) (disch := omega) [go_sem, t0_14, t1_14, t5_14, t6_14] <;> omega)) ?_ hK
                      simp [NB_v, NB_sl, NB_ag, NB_tu]
                    · intro c27 h
                      try simp -implicitDefEqProofs (disch := omega) at c27
                      simp -implicitDefEqProofs (maxSteps := 1000000) (disch := omega) [go_sem, t0_14, t1_14, t5_14, t6_14]
                      subst hc23
                      refine IWp_cond_i h (by first | with_reducible rfl | (simp -implicitDefEqProofs (maxSteps := 1000000) (disch := omega) [go_sem, t0_14, t1_14, t5_14, t6_14] <;> omega)) rfl ?_ ?_
                      · intro c25 h
                        try simp -implicitDefEqProofs (disch := omega) at c25
                        refine IWp_seqF fun cb hc26 => ?_
                        refine vc_sound _ (by kernel_rfl) _ _ _ ?_
                        simp -implicitDefEqProofs (maxSteps := 1000000) (disch := omega) [go_sem, t0_14, t1_14, t5_14, t6_14]
                        subst hc26
                        refine vc_sound _ (by kernel_rfl) _ _ _ ?_
                        simp -implicitDefEqProofs only [go_sem]
                        have e14 := Option.some.inj h
                        subst e14
                        have e14 := hret14 _ rfl
                        subst e14
                        replace h : some (.inr (.inr false)) = some x5 := hk14
                        have e5 := Option.some.inj h
                        subst e5
                        have e5 := hret5 _ rfl
                        subst e5
                        replace h : some false = some r := hk5
                        have er := Option.some.inj h
                        subst er
                        simp -implicitDefEqProofs (maxSteps := 1000000) (disch := omega) [go_sem, t0_14, t1_14, t5_14, t6_14]
                        refine retG_pureE (by repeat (first | exact (Ext.refl hw) | refine Ext.new ?_ _ | refine Ext.set ?_ (by first | omega | (simp [go_sem]; omega)) _ | refine Ext.del ?_ (by first | omega | (simp [go_sem]; omega)))) (by first | with_reducible rfl | (simp -implicitDefEqProofs (maxSteps := 1000000) (disch := omega) [go_sem, t0_14, t1_14, t5_14, t6_14] <;> omega)) ?_ hK
                        simp [NB_v, NB_sl, NB_ag, NB_tu]
                      · intro c25 h
                        try simp -implicitDefEqProofs (disch := omega) at c25
                        refine vc_sound _ (by kernel_rfl) _ _ _ ?_
                        simp -implicitDefEqProofs only [go_sem]
                        subst hc20
                        refine vc_sound _ (by kernel_rfl) _ _ _ ?_
                        simp -implicitDefEqProofs (maxSteps := 1000000) (disch := omega) [go_sem, t0_14, t1_14, t5_14, t6_14]
                        have e14 := Option.some.inj h
                        subst e14
                        refine loopN_mk hI14 (IntKind.i64.wrap (v15 + 1)) ?_
                        refine .same ⟨rfl, by first | with_reducible rfl | assumption | omega | (simp -implicitDefEqProofs (maxSteps := 1000000) (disch := omega) [go_sem, t0_14, t1_14, t5_14, t6_14] <;> omega), by first | with_reducible rfl | assumption | omega | (simp -implicitDefEqProofs (maxSteps := 1000000) (disch := omega) [go_sem, t0_14, t1_14, t5_14, t6_14] <;> omega), by first | with_reducible rfl | assumption | omega | (simp -implicitDefEqProofs (maxSteps := 1000000) (disch := omega) [go_sem, t0_14, t1_14, t5_14, t6_14] <;> omega), by first | with_reducible rfl | assumption | omega | (simp -implicitDefEqProofs (maxSteps := 1000000) (disch := omega) [go_sem, t0_14, t1_14, t5_14, t6_14] <;> omega)⟩
                  · intro c28 h
                    try simp -implicitDefEqProofs (disch := omega) at c28
                    simp -implicitDefEqProofs (maxSteps := 1000000) (disch := omega) [go_sem, t0_14, t1_14, t5_14, t6_14]
                    subst hc23
                    refine IWp_cond_f (by first | with_reducible rfl | (simp -implicitDefEqProofs (maxSteps := 1000000) (disch := omega) [go_sem, t0_14, t1_14, t5_14, t6_14] <;> omega)) rfl ?_
                    refine vc_sound _ (by kernel_rfl) _ _ _ ?_
                    simp -implicitDefEqProofs only [go_sem]
                    subst hc20
                    refine vc_sound _ (by kernel_rfl) _ _ _ ?_
                    simp -implicitDefEqProofs (maxSteps := 1000000) (disch := omega) [go_sem, t0_14, t1_14, t5_14, t6_14]
                    have e14 := Option.some.inj h
                    subst e14
                    refine loopN_mk hI14 (IntKind.i64.wrap (v15 + 1)) ?_
                    refine .same ⟨rfl, by first | with_reducible rfl | assumption | omega | (simp -implicitDefEqProofs (maxSteps := 1000000) (disch := omega) [go_sem, t0_14, t1_14, t5_14, t6_14] <;> omega), by first | with_reducible rfl | assumption | omega | (simp -implicitDefEqProofs (maxSteps := 1000000) (disch := omega) [go_sem, t0_14, t1_14, t5_14, t6_14] <;> omega), by first | with_reducible rfl | assumption | omega | (simp -implicitDefEqProofs (maxSteps := 1000000) (disch := omega) [go_sem, t0_14, t1_14, t5_14, t6_14] <;> omega), by first | with_reducible rfl | assumption | omega | (simp -implicitDefEqProofs (maxSteps := 1000000) (disch := omega) [go_sem, t0_14, t1_14, t5_14, t6_14] <;> omega)⟩
                · intro c19 h
                  try simp -implicitDefEqProofs (disch := omega) at c19
                  refine vc_sound _ (by kernel_rfl) _ _ _ ?_
                  simp -implicitDefEqProofs only [go_sem]
                  have e14 := Option.some.inj h
                  subst e14
                  have hy14 := hret14 _ rfl
                  refine hc14 _ _ ?_
                  refine .same ⟨hy14, rfl, by first | with_reducible rfl | assumption | omega | (simp -implicitDefEqProofs (maxSteps := 1000000) (disch := omega) [go_sem, t0_14, t1_14, t5_14, t6_14] <;> omega), by first | with_reducible rfl | assumption | omega | (simp -implicitDefEqProofs (maxSteps := 1000000) (disch := omega) [go_sem, t0_14, t1_14, t5_14, t6_14] <;> omega), by first | with_reducible rfl | assumption | omega | (simp -implicitDefEqProofs (maxSteps := 1000000) (disch := omega) [go_sem, t0_14, t1_14, t5_14, t6_14] <;> omega)⟩
          · refine IWp_seqF fun cb hc29 => ?_
            refine IWp_drawP [] [0, 1, 2, 3, 4, 5, 6, 7, 8, 9, 10, 11, 12, 13, 14, 15, 16, 17, 18, 19, 20, 21, 22, 23, 24, 25, 26, 27, 28, 29] (by kernel_rfl) (by kernel_rfl) (fun _ _ _ _ h => h) ?_
            obtain ⟨g30, h⟩ := gd_some.1 h
            try simp -implicitDefEqProofs (disch := omega) at g30
            simp -implicitDefEqProofs (maxSteps := 1000000) (disch := omega) [go_sem, t0_5, t1_5, t5_5]
            refine splitG_f h (by first | with_reducible rfl | (simp -implicitDefEqProofs (maxSteps := 1000000) (disch := omega) [go_sem, t0_5, t1_5, t5_5] <;> omega)) ?_ ?_
            · intro c38 h
              try simp -implicitDefEqProofs (disch := omega) at c38
              simp -implicitDefEqProofs (maxSteps := 1000000) (disch := omega) [go_sem, t0_5, t1_5, t5_5]
              subst hc29
              refine IWp_cond_t (by first | with_reducible rfl | (simp -implicitDefEqProofs (maxSteps := 1000000) (disch := omega) [go_sem, t0_5, t1_5, t5_5] <;> omega)) rfl ?_
              refine IWp_seqF fun cb hc31 => ?_
              refine vc_sound _ (by kernel_rfl) _ _ _ ?_
              simp -implicitDefEqProofs (maxSteps := 1000000) (disch := omega) [go_sem, t0_5, t1_5, t5_5]
              subst hc31
              refine vc_sound _ (by kernel_rfl) _ _ _ ?_
              simp -implicitDefEqProofs only [go_sem]
              have e5 := Option.some.inj h
              subst e5
              have e5 := hret5 _ rfl
              subst e5
              replace h : some false = some r := hk5
              have er := Option.some.inj h
              subst er
              simp -implicitDefEqProofs (maxSteps := 1000000) (disch := omega) [go_sem, t0_5, t1_5, t5_5]
              refine retG_pureE (by repeat (first | exact (Ext.refl hw) | refine Ext.new ?_ _ | refine Ext.set ?_ (by first | omega | (simp [go_sem]; omega)) _ | refine Ext.del ?_ (by first | omega | (simp [go_sem]; omega)))) (by first | with_reducible rfl | (simp -implicitDefEqProofs (maxSteps := 1000000) (disch := omega) [go_sem, t0_5, t1_5, t5_5] <;> omega)) ?_ hK
              simp [NB_v, NB_sl, NB_ag, NB_tu]
            · intro c38 h
              try simp -implicitDefEqProofs (disch := omega) at c38
              simp -implicitDefEqProofs (maxSteps := 1000000) (disch := omega) [go_sem, t0_5, t1_5, t5_5]
              refine splitG_f h (by first | with_reducible rfl | (simp -implicitDefEqProofs (maxSteps := 1000000) (disch := omega) [go_sem, t0_5, t1_5, t5_5] <;> omega)) ?_ ?_
              · intro c37 h
                try simp -implicitDefEqProofs (disch := omega) at c37
                simp -implicitDefEqProofs (maxSteps := 1000000) (disch := omega) [go_sem, t0_5, t1_5, t5_5]
                subst hc29
                refine IWp_cond_t (by first | with_reducible rfl | (simp -implicitDefEqProofs (maxSteps := 1000000) (disch := omega) [go_sem, t0_5, t1_5, t5_5] <;> omega)) rfl ?_
                refine IWp_seqF fun cb hc32 => ?_
                refine vc_sound _ (by kernel_rfl) _ _ _ ?_
                simp -implicitDefEqProofs (maxSteps := 1000000) (disch := omega) [go_sem, t0_5, t1_5, t5_5]
                subst hc32
                refine vc_sound _ (by kernel_rfl) _ _ _ ?_
                simp -implicitDefEqProofs only [go_sem]
                have e5 := Option.some.inj h
                subst e5
                have e5 := hret5 _ rfl
                subst e5
                replace h : some false = some r := hk5
                have er := Option.some.inj h
                subst er
                simp -implicitDefEqProofs (maxSteps := 1000000) (disch := omega) [go_sem, t0_5, t1_5, t5_5]
                refine retG_pureE (by repeat (first | exact (Ext.refl hw) | refine Ext.new ?_ _ | refine Ext.set ?_ (by first | omega | (simp [go_sem]; omega)) _ | refine Ext.del ?_ (by first | omega | (simp [go_sem]; omega)))) (by first | with_reducible rfl | (simp -implicitDefEqProofs (maxSteps := 1000000) (disch := omega) [go_sem, t0_5, t1_5, t5_5] <;> omega)) ?_ hK
                simp [NB_v, NB_sl, NB_ag, NB_tu]
              · intro c37 h
                try simp -implicitDefEqProofs (disch := omega) at c37
                simp -implicitDefEqProofs (maxSteps := 1000000) (disch := omega) [go_sem, t0_5, t1_5, t5_5]
                refine splitG_f h (by first | with_reducible rfl | (simp -implicitDefEqProofs (maxSteps := 1000000) (disch := omega) [go_sem, t0_5, t1_5, t5_5] <;> omega)) ?_ ?_
                · intro c36 h
                  try simp -implicitDefEqProofs (disch := omega) at c36
                  obtain ⟨g33, h⟩ := gd_some.1 h
                  try simp -implicitDefEqProofs (disch := omega) at g33
                  simp -implicitDefEqProofs (maxSteps := 1000000) (disch := omega) [go_sem, t0_5, t1_5, t5_5]
                  subst hc29
                  refine IWp_cond_i h (by first | with_reducible rfl | (simp -implicitDefEqProofs (maxSteps := 1000000) (disch := omega) [go_sem, t0_5, t1_5, t5_5] <;> omega)) rfl ?_ ?_
                  · intro c34 h
                    try simp -implicitDefEqProofs (disch := omega) at c34
                    refine IWp_seqF fun cb hc35 => ?_
                    refine vc_sound _ (by kernel_rfl) _ _ _ ?_
                    simp -implicitDefEqProofs (maxSteps := 1000000) (disch := omega) [go_sem, t0_5, t1_5, t5_5]
                    subst hc35
                    refine vc_sound _ (by kernel_rfl) _ _ _ ?_
                    simp -implicitDefEqProofs only [go_sem]
                    have e5 := Option.some.inj h
                    subst e5
                    have e5 := hret5 _ rfl
                    subst e5
                    replace h : some false = some r := hk5
                    have er := Option.some.inj h
                    subst er
                    simp -implicitDefEqProofs (maxSteps := 1000000) (disch := omega) [go_sem, t0_5, t1_5, t5_5]
                    refine retG_pureE (by repeat (first | exact (Ext.refl hw) | refine Ext.new ?_ _ | refine Ext.set ?_ (by first | omega | (simp [go_sem]; omega)) _ | refine Ext.del ?_ (by first | omega | (simp [go_sem]; omega)))) (by first | with_reducible rfl | (simp -implicitDefEqProofs (maxSteps := 1000000) (disch := omega) [go_sem, t0_5, t1_5, t5_5] <;> omega)) ?_ hK
                    simp [NB_v, NB_sl, NB_ag, NB_tu]
                  · intro c34 h
                    try simp -implicitDefEqProofs (disch := omega) at c34
                    refine vc_sound _ (by kernel_rfl) _ _ _ ?_
                    simp -implicitDefEqProofs only [go_sem]
                    refine hc12 _ _ ?_
                    refine .same ⟨rfl, by first | with_reducible rfl | assumption | omega | (simp -implicitDefEqProofs (maxSteps := 1000000) (disch := omega) [go_sem, t0_5, t1_5, t5_5] <;> omega), by first | with_reducible rfl | assumption | omega | (simp -implicitDefEqProofs (maxSteps := 1000000) (disch := omega) [go_sem, t0_5, t1_5, t5_5] <;> omega), by first | with_reducible rfl | assumption | omega | (simp -implicitDefEqProofs (maxSteps := 1000000) (disch := omega) [go_sem, t0_5, t1_5, t5_5] <;> omega), h⟩
                · intro c36 h
                  try simp -implicitDefEqProofs (disch := omega) at c36
                  simp -implicitDefEqProofs (maxSteps := 1000000) (disch := omega) [go_sem, t0_5, t1_5, t5_5]
                  subst hc29
                  refine IWp_cond_f (by first | with_reducible rfl | (simp -implicitDefEqProofs (maxSteps := 1000000) (disch := omega) [go_sem, t0_5, t1_5, t5_5] <;> omega)) rfl ?_
                  refine vc_sound _ (by kernel_rfl) _ _ _ ?_
                  simp -implicitDefEqProofs only [go_sem]
                  refine hc12 _ _ ?_
                  refine .same ⟨rfl, by first | with_reducible rfl | assumption | omega | (simp -implicitDefEqProofs (maxSteps := 1000000) (disch := omega) [go_sem, t0_5, t1_5, t5_5] <;> omega), by first | with_reducible rfl | assumption | omega | (simp -implicitDefEqProofs (maxSteps := 1000000) (disch := omega) [go_sem, t0_5, t1_5, t5_5] <;> omega), by first | with_reducible rfl | assumption | omega | (simp -implicitDefEqProofs (maxSteps := 1000000) (disch := omega) [go_sem, t0_5, t1_5, t5_5] <;> omega), h⟩
        · intro c10 h
          try simp -implicitDefEqProofs (disch := omega) at c10
          refine vc_sound _ (by kernel_rfl) _ _ _ ?_
          simp -implicitDefEqProofs only [go_sem]
          have e5 := Option.some.inj h
          subst e5
          have hy5 := hret5 _ rfl
          refine hc5 _ _ ?_
          refine .same ⟨hy5, rfl⟩
  · refine IWp_seqF fun cb hc39 => ?_
    refine vc_sound _ (by kernel_rfl) _ _ _ ?_
    simp -implicitDefEqProofs (maxSteps := 1000000) (disch := omega) [go_sem]
    obtain ⟨x40, hx40, h⟩ := bind_some' h
    refine ICalls.eqA (args' := [.v (.int .i64 f)]) (by first | with_reducible rfl | (simp -implicitDefEqProofs (maxSteps := 1000000) (disch := omega) [go_sem] <;> omega)) (F40_ok f hx40 ?_)
    simp -implicitDefEqProofs (maxSteps := 1000000) (disch := omega) [go_sem]
    refine splitG_f h (by first | with_reducible rfl | (simp -implicitDefEqProofs (maxSteps := 1000000) (disch := omega) [go_sem] <;> omega)) ?_ ?_
    · intro c45 h
      try simp -implicitDefEqProofs (disch := omega) at c45
      simp -implicitDefEqProofs (maxSteps := 1000000) (disch := omega) [go_sem]
      subst hc39
      refine IWp_cond_t (by first | with_reducible rfl | (simp -implicitDefEqProofs (maxSteps := 1000000) (disch := omega) [go_sem] <;> omega)) rfl ?_
      refine IWp_seqF fun cb hc41 => ?_
      refine vc_sound _ (by kernel_rfl) _ _ _ ?_
      simp -implicitDefEqProofs (maxSteps := 1000000) (disch := omega) [go_sem]
      subst hc41
      refine vc_sound _ (by kernel_rfl) _ _ _ ?_
      simp -implicitDefEqProofs only [go_sem]
      have er := Option.some.inj h
      subst er
      simp -implicitDefEqProofs (maxSteps := 1000000) (disch := omega) [go_sem]
      refine retG_pureE (by repeat (first | exact (Ext.refl hw) | refine Ext.new ?_ _ | refine Ext.set ?_ (by first | omega | (simp [go_sem]; omega)) _ | refine Ext.del ?_ (by first | omega | (simp [go_sem]; omega)))) (by first | with_reducible rfl | (simp -implicitDefEqProofs (maxSteps := 1000000) (disch := omega) [go_sem] <;> omega)) ?_ hK
      simp [NB_v, NB_sl, NB_ag, NB_tu]
    · intro c45 h
      try simp -implicitDefEqProofs (disch := omega) at c45
      simp -implicitDefEqProofs (maxSteps := 1000000) (disch := omega) [go_sem]
      refine splitG_f h (by first | with_reducible rfl | (simp -implicitDefEqProofs (maxSteps := 1000000) (disch := omega) [go_sem] <;> omega)) ?_ ?_
      · intro c44 h
        try simp -implicitDefEqProofs (disch := omega) at c44
        simp -implicitDefEqProofs (maxSteps := 1000000) (disch := omega) [go_sem]
        subst hc39
        refine IWp_cond_i h (by first | with_reducible rfl | (simp -implicitDefEqProofs (maxSteps := 1000000) (disch := omega) [go_sem] <;> omega)) rfl ?_ ?_
        · intro c42 h
          try simp -implicitDefEqProofs (disch := omega) at c42
          refine IWp_seqF fun cb hc43 => ?_
          refine vc_sound _ (by kernel_rfl) _ _ _ ?_
          simp -implicitDefEqProofs (maxSteps := 1000000) (disch := omega) [go_sem]
          subst hc43
          refine vc_sound _ (by kernel_rfl) _ _ _ ?_
          simp -implicitDefEqProofs only [go_sem]
          have er := Option.some.inj h
          subst er
          simp -implicitDefEqProofs (maxSteps := 1000000) (disch := omega) [go_sem]
          refine retG_pureE (by repeat (first | exact (Ext.refl hw) | refine Ext.new ?_ _ | refine Ext.set ?_ (by first | omega | (simp [go_sem]; omega)) _ | refine Ext.del ?_ (by first | omega | (simp [go_sem]; omega)))) (by first | with_reducible rfl | (simp -implicitDefEqProofs (maxSteps := 1000000) (disch := omega) [go_sem] <;> omega)) ?_ hK
          simp [NB_v, NB_sl, NB_ag, NB_tu]
        · intro c42 h
          try simp -implicitDefEqProofs (disch := omega) at c42
          refine vc_sound _ (by kernel_rfl) _ _ _ ?_
          simp -implicitDefEqProofs only [go_sem]
          refine hc2 _ _ ?_
          refine .same ⟨rfl, by first | with_reducible rfl | assumption | omega | (simp -implicitDefEqProofs (maxSteps := 1000000) (disch := omega) [go_sem] <;> omega), by first | with_reducible rfl | assumption | omega | (simp -implicitDefEqProofs (maxSteps := 1000000) (disch := omega) [go_sem] <;> omega), h⟩
      · intro c44 h
        try simp -implicitDefEqProofs (disch := omega) at c44
        simp -implicitDefEqProofs (maxSteps := 1000000) (disch := omega) [go_sem]
        subst hc39
        refine IWp_cond_f (by first | with_reducible rfl | (simp -implicitDefEqProofs (maxSteps := 1000000) (disch := omega) [go_sem] <;> omega)) rfl ?_
        refine vc_sound _ (by kernel_rfl) _ _ _ ?_
        simp -implicitDefEqProofs only [go_sem]
        refine hc2 _ _ ?_
        refine .same ⟨rfl, by first | with_reducible rfl | assumption | omega | (simp -implicitDefEqProofs (maxSteps := 1000000) (disch := omega) [go_sem] <;> omega), by first | with_reducible rfl | assumption | omega | (simp -implicitDefEqProofs (maxSteps := 1000000) (disch := omega) [go_sem] <;> omega), h⟩

/-! cardcase/cardcaseref16.Right -/
noncomputable def F10_k4  : Option Bool :=
  some true

noncomputable def F10_b4 (c : List (List (List UInt8))) (v5 : Int) : Option (Int ⊕ (Unit ⊕ Bool)) :=
  if v5 < 8 then (gd (0 ≤ v5 ∧ v5 < 8) (gd (c.length = 8) ((F24 v5 (c.getD v5.toNat [])).bind fun (x14 : Bool) => if ¬ (x14 = true) then (some (.inr (.inr false))) else (some (.inl (IntKind.i64.wrap (v5 + 1))))))) else (some (.inr (.inl ())))

noncomputable def F10 (c : List (List (List UInt8))) : Option Bool :=
  (loopO (fun (s : Int) => F10_b4 c s) 0).bind fun y => Sum.elim (fun (e : Unit) => F10_k4) (fun (q : Bool) => some q) y

set_option maxHeartbeats 8000000 in
set_option pp.deepTerms false in
set_option maxRecDepth 8000 in
theorem F10_ok {H : IHeap} {K : IEnd → IHeap → Prop} (c : List (List (List UInt8))) {r : Bool} (h : F10 c = some r) (hK : K (.ret (.v (.bool r))) H) : ICalls prog 10 [.ag (c.map fun x => .sl 1 (x.map fun x => [.v (str x)]))] H K := by
  refine ICalls_iwp (N := 14) func10 (by kernel_rfl) rfl (by kernel_rfl) (by kernel_rfl) fun cb hcb hw hbd hnb => ?_
  clear hbd hnb
  subst hcb
  unfold F10 at h
  refine IWp_seqF fun cb hc1 => ?_
  refine vc_sound _ (by kernel_rfl) _ _ _ ?_
  simp -implicitDefEqProofs (maxSteps := 1000000) (disch := omega) [go_sem]
  subst hc1
  refine IWp_seqF fun cb hc2 => ?_
  refine IWp_seqF fun cb hc3 => ?_
  refine vc_sound _ (by kernel_rfl) _ _ _ ?_
  simp -implicitDefEqProofs (maxSteps := 1000000) (disch := omega) [go_sem]
  subst hc3
  obtain ⟨y4, hl4q, hk4⟩ := bind_some' h
  refine IWp_tailC (fun tm' H' => .inl () = y4 ∧ Ext H H' ∧ H.next + 1 ≤ H'.next ∧ H'.obj H.next = some (.cells (c.map fun x => .sl 1 (x.map fun x => [.v (str x)])))) ?_ fun cb hc4 => ?_
  · rintro tm4e H4e ⟨rfl, he4e, hl4e, ob0_4e⟩
    have h : F10_k4 = some r := hk4
    unfold F10_k4 at h
    simp -implicitDefEqProofs only [go_sem]
    subst hc2
    refine IWp_seqF fun cb hc6 => ?_
    refine vc_sound _ (by kernel_rfl) _ _ _ ?_
    simp -implicitDefEqProofs (maxSteps := 1000000) (disch := omega) [go_sem, ob0_4e]
    subst hc6
    refine vc_sound _ (by kernel_rfl) _ _ _ ?_
    simp -implicitDefEqProofs only [go_sem]
    have er := Option.some.inj h
    subst er
    simp -implicitDefEqProofs (maxSteps := 1000000) (disch := omega) [go_sem, ob0_4e]
    refine retG_pureE (by repeat (first | exact he4e | refine Ext.new ?_ _ | refine Ext.set ?_ (by first | omega | (simp [go_sem]; omega)) _ | refine Ext.del ?_ (by first | omega | (simp [go_sem]; omega)))) (by first | with_reducible rfl | (simp -implicitDefEqProofs (maxSteps := 1000000) (disch := omega) [go_sem, ob0_4e] <;> omega)) ?_ hK
    simp [NB_v, NB_sl, NB_ag, NB_tu]
  · refine IWp_block ?_
    refine IWp_loopF (fun (s : Int) tm' H' => Ext H H' ∧ H.next + 1 ≤ H'.next ∧ tm' 1 = .p H.next 0 ∧ tm' 3 = .v (.int .i64 s) ∧ H'.obj H.next = some (.cells (c.map fun x => .sl 1 (x.map fun x => [.v (str x)])))) hl4q ?_ ?_
    · refine .same ⟨by repeat (first | exact (Ext.refl hw) | refine Ext.new ?_ _ | refine Ext.set ?_ (by first | omega | (simp [go_sem]; omega)) _ | refine Ext.del ?_ (by first | omega | (simp [go_sem]; omega))), by first | with_reducible rfl | assumption | omega | (simp -implicitDefEqProofs (maxSteps := 1000000) (disch := omega) [go_sem] <;> omega), by first | with_reducible rfl | assumption | omega | (simp -implicitDefEqProofs (maxSteps := 1000000) (disch := omega) [go_sem] <;> omega), by first | with_reducible rfl | assumption | omega | (simp -implicitDefEqProofs (maxSteps := 1000000) (disch := omega) [go_sem] <;> omega), by first | with_reducible rfl | assumption | omega | (simp -implicitDefEqProofs (maxSteps := 1000000) (disch := omega) [go_sem] <;> omega)⟩
    · rintro I4 hI4 v5 x4 tm4 H4 ⟨he4, hl4, t1_4, t3_4, ob0_4⟩ h hret4
      replace h : F10_b4 c v5 = some x4 := h
      unfold F10_b4 at h
      refine IWp_seqF fun cb hc7 => ?_
      refine IWp_seqF fun cb hc8 => ?_
      refine vc_sound _ (by kernel_rfl) _ _ _ ?_
      simp -implicitDefEqProofs (maxSteps := 1000000) (disch := omega) [go_sem, t1_4, t3_4, ob0_4]
      subst hc8
      refine IWp_cond_i h (by first | with_reducible rfl | (simp -implicitDefEqProofs (maxSteps := 1000000) (disch := omega) [go_sem, t1_4, t3_4, ob0_4] <;> omega)) rfl ?_ ?_
      · intro c9 h
        try simp -implicitDefEqProofs (disch := omega) at c9
        refine vc_sound _ (by kernel_rfl) _ _ _ ?_
        simp -implicitDefEqProofs only [go_sem]
        subst hc7
        refine IWp_seqF fun cb hc10 => ?_
        refine IWp_block ?_
        refine IWp_seqF fun cb hc11 => ?_
        refine vc_sound _ (by kernel_rfl) _ _ _ ?_
        obtain ⟨g12, h⟩ := gd_some.1 h
        try simp -implicitDefEqProofs (disch := omega) at g12
        obtain ⟨g13, h⟩ := gd_some.1 h
        try simp -implicitDefEqProofs (disch := omega) at g13
        simp -implicitDefEqProofs (maxSteps := 1000000) (disch := omega) [go_sem, t1_4, t3_4, ob0_4, g13]
        obtain ⟨x14, hx14, h⟩ := bind_some' h
        refine ICalls.eqA (args' := [.v (.int .i64 v5), .sl 1 ((c.getD v5.toNat []).map fun x => [.v (str x)])]) (by first | with_reducible rfl | (simp -implicitDefEqProofs (maxSteps := 1000000) (disch := omega) [go_sem, t1_4, t3_4, ob0_4, g13] <;> omega)) (F24_ok v5 (c.getD v5.toNat []) hx14 ?_)
        simp -implicitDefEqProofs (maxSteps := 1000000) (disch := omega) [go_sem, t1_4, t3_4, ob0_4, g13]
        subst hc11
        refine IWp_cond_i h (by first | with_reducible rfl | (simp -implicitDefEqProofs (maxSteps := 1000000) (disch := omega) [go_sem, t1_4, t3_4, ob0_4, g13] <;> omega)) rfl ?_ ?_
        · intro c15 h
          try simp -implicitDefEqProofs (disch := omega) at c15
          refine IWp_seqF fun cb hc16 => ?_
          refine vc_sound _ (by kernel_rfl) _ _ _ ?_
          simp -implicitDefEqProofs (maxSteps := 1000000) (disch := omega) [go_sem, t1_4, t3_4, ob0_4, g13]
          subst hc16
          refine vc_sound _ (by kernel_rfl) _ _ _ ?_
          simp -implicitDefEqProofs only [go_sem]
          have e4 := Option.some.inj h
          subst e4
          have e4 := hret4 _ rfl
          subst e4
          replace h : some false = some r := hk4
          have er := Option.some.inj h
          subst er
          simp -implicitDefEqProofs (maxSteps := 1000000) (disch := omega) [go_sem, t1_4, t3_4, ob0_4, g13]
          refine retG_pureE (by repeat (first | exact he4 | refine Ext.new ?_ _ | refine Ext.set ?_ (by first | omega | (simp [go_sem]; omega)) _ | refine Ext.del ?_ (by first | omega | (simp [go_sem]; omega)))) (by first | with_reducible rfl | (simp -implicitDefEqProofs (maxSteps := 1000000) (disch := omega) [go_sem, t1_4, t3_4, ob0_4, g13] <;> omega)) ?_ hK
          simp [NB_v, NB_sl, NB_ag, NB_tu]
        · intro c15 h
          try simp -implicitDefEqProofs (disch := omega) at c15
          refine vc_sound _ (by kernel_rfl) _ _ _ ?_
          simp -implicitDefEqProofs only [go_sem]
          subst hc10
          refine vc_sound _ (by kernel_rfl) _ _ _ ?_
          simp -implicitDefEqProofs (maxSteps := 1000000) (disch := omega) [go_sem, t1_4, t3_4, ob0_4, g13]
          have e4 := Option.some.inj h
          subst e4
          refine loopN_mk hI4 (IntKind.i64.wrap (v5 + 1)) ?_
          refine .same ⟨by repeat (first | exact he4 | refine Ext.new ?_ _ | refine Ext.set ?_ (by first | omega | (simp [go_sem]; omega)) _ | refine Ext.del ?_ (by first | omega | (simp [go_sem]; omega))), by first | with_reducible rfl | assumption | omega | (simp -implicitDefEqProofs (maxSteps := 1000000) (disch := omega) [go_sem, t1_4, t3_4, ob0_4, g13] <;> omega), by first | with_reducible rfl | assumption | omega | (simp -implicitDefEqProofs (maxSteps := 1000000) (disch := omega) [go_sem, t1_4, t3_4, ob0_4, g13] <;> omega), by first | with_reducible rfl | assumption | omega | (simp -implicitDefEqProofs (maxSteps := 1000000) (disch := omega) [go_sem, t1_4, t3_4, ob0_4, g13] <;> omega), by first | with_reducible rfl | assumption | omega | (simp -implicitDefEqProofs (maxSteps := 1000000) (disch := omega) [go_sem, t1_4, t3_4, ob0_4, g13] <;> omega)⟩
      · intro c9 h
        try simp -implicitDefEqProofs (disch := omega) at c9
        refine vc_sound _ (by kernel_rfl) _ _ _ ?_
        simp -implicitDefEqProofs only [go_sem]
        have e4 := Option.some.inj h
        subst e4
        have hy4 := hret4 _ rfl
        refine hc4 _ _ ?_
        refine .same ⟨hy4, by repeat (first | exact he4 | refine Ext.new ?_ _ | refine Ext.set ?_ (by first | omega | (simp [go_sem]; omega)) _ | refine Ext.del ?_ (by first | omega | (simp [go_sem]; omega))), by first | with_reducible rfl | assumption | omega | (simp -implicitDefEqProofs (maxSteps := 1000000) (disch := omega) [go_sem, t1_4, t3_4, ob0_4] <;> omega), by first | with_reducible rfl | assumption | omega | (simp -implicitDefEqProofs (maxSteps := 1000000) (disch := omega) [go_sem, t1_4, t3_4, ob0_4] <;> omega)⟩

/-! cardcase/cardcaseref07.Texts -/
noncomputable def F17_k8  : Option Bool :=
  some true

noncomputable def F17_b8 (a : List (List UInt8)) (b : List (List UInt8)) (v9 : Int) : Option (Int ⊕ (Unit ⊕ Bool)) :=
  if v9 < (a.length : Int) then (gd (0 ≤ v9 ∧ v9 < a.length) (gd (0 ≤ v9 ∧ v9 < b.length) (if ¬ (a.getD v9.toNat []) = (b.getD v9.toNat []) then (some (.inr (.inr false))) else (some (.inl (IntKind.i64.wrap (v9 + 1))))))) else (some (.inr (.inl ())))

noncomputable def F17 (a : List (List UInt8)) (b : List (List UInt8)) : Option Bool :=
  if ¬ (a.length : Int) = (b.length : Int) then (some false) else ((loopO (fun (s : Int) => F17_b8 a b s) 0).bind fun y => Sum.elim (fun (e : Unit) => F17_k8) (fun (q : Bool) => some q) y)

set_option maxHeartbeats 8000000 in
set_option pp.deepTerms false in
set_option maxRecDepth 8000 in
theorem F17_ok {H : IHeap} {K : IEnd → IHeap → Prop} (a : List (List UInt8)) (b : List (List UInt8)) {r : Bool} (h : F17 a b = some r) (hK : K (.ret (.v (.bool r))) H) : ICalls prog 17 [.sl 1 (a.map fun x => [.v (str x)]), .sl 1 (b.map fun x => [.v (str x)])] H K := by
  refine ICalls_iwp (N := 26) func17 (by kernel_rfl) rfl (by kernel_rfl) (by kernel_rfl) fun cb hcb hw hbd hnb => ?_
  clear hbd hnb
  subst hcb
  unfold F17 at h
  refine IWp_seqF fun cb hc1 => ?_
  refine vc_sound _ (by kernel_rfl) _ _ _ ?_
  simp -implicitDefEqProofs (maxSteps := 1000000) (disch := omega) [go_sem]
  subst hc1
  refine IWp_seqF fun cb hc2 => ?_
  refine IWp_seqF fun cb hc3 => ?_
  refine vc_sound _ (by kernel_rfl) _ _ _ ?_
  simp -implicitDefEqProofs (maxSteps := 1000000) (disch := omega) [go_sem]
  subst hc3
  refine IWp_cond_i h (by first | with_reducible rfl | (simp -implicitDefEqProofs (maxSteps := 1000000) (disch := omega) [go_sem] <;> omega)) rfl ?_ ?_
  · intro c4 h
    try simp -implicitDefEqProofs (disch := omega) at c4
    refine IWp_seqF fun cb hc5 => ?_
    refine vc_sound _ (by kernel_rfl) _ _ _ ?_
    simp -implicitDefEqProofs (maxSteps := 1000000) (disch := omega) [go_sem]
    subst hc5
    refine vc_sound _ (by kernel_rfl) _ _ _ ?_
    simp -implicitDefEqProofs only [go_sem]
    have er := Option.some.inj h
    subst er
    simp -implicitDefEqProofs (maxSteps := 1000000) (disch := omega) [go_sem]
    refine retG_pureE (by repeat (first | exact (Ext.refl hw) | refine Ext.new ?_ _ | refine Ext.set ?_ (by first | omega | (simp [go_sem]; omega)) _ | refine Ext.del ?_ (by first | omega | (simp [go_sem]; omega)))) (by first | with_reducible rfl | (simp -implicitDefEqProofs (maxSteps := 1000000) (disch := omega) [go_sem] <;> omega)) ?_ hK
    simp [NB_v, NB_sl, NB_ag, NB_tu]
  · intro c4 h
    try simp -implicitDefEqProofs (disch := omega) at c4
    refine vc_sound _ (by kernel_rfl) _ _ _ ?_
    simp -implicitDefEqProofs only [go_sem]
    subst hc2
    refine IWp_seqF fun cb hc6 => ?_
    refine IWp_seqF fun cb hc7 => ?_
    refine vc_sound _ (by kernel_rfl) _ _ _ ?_
    simp -implicitDefEqProofs (maxSteps := 1000000) (disch := omega) [go_sem]
    subst hc7
    obtain ⟨y8, hl8q, hk8⟩ := bind_some' h
    refine IWp_tailC (fun tm' H' => .inl () = y8 ∧ H = H') ?_ fun cb hc8 => ?_
    · rintro tm8e H8e ⟨rfl, rfl⟩
      have h : F17_k8 = some r := hk8
      unfold F17_k8 at h
      simp -implicitDefEqProofs only [go_sem]
      subst hc6
      refine IWp_seqF fun cb hc10 => ?_
      refine vc_sound _ (by kernel_rfl) _ _ _ ?_
      simp -implicitDefEqProofs (maxSteps := 1000000) (disch := omega) [go_sem]
      subst hc10
      refine vc_sound _ (by kernel_rfl) _ _ _ ?_
      simp -implicitDefEqProofs only [go_sem]
      have er := Option.some.inj h
      subst er
      simp -implicitDefEqProofs (maxSteps := 1000000) (disch := omega) [go_sem]
      refine retG_pureE (by repeat (first | exact (Ext.refl hw) | refine Ext.new ?_ _ | refine Ext.set ?_ (by first | omega | (simp [go_sem]; omega)) _ | refine Ext.del ?_ (by first | omega | (simp [go_sem]; omega)))) (by first | with_reducible rfl | (simp -implicitDefEqProofs (maxSteps := 1000000) (disch := omega) [go_sem] <;> omega)) ?_ hK
      simp [NB_v, NB_sl, NB_ag, NB_tu]
    · refine IWp_block ?_
      refine IWp_loopF (fun (s : Int) tm' H' => H = H' ∧ tm' 0 = .sl 1 (a.map fun x => [.v (str x)]) ∧ tm' 1 = .sl 1 (b.map fun x => [.v (str x)]) ∧ tm' 5 = .v (.int .i64 s)) hl8q ?_ ?_
      · refine .same ⟨rfl, by first | with_reducible rfl | assumption | omega | (simp -implicitDefEqProofs (maxSteps := 1000000) (disch := omega) [go_sem] <;> omega), by first | with_reducible rfl | assumption | omega | (simp -implicitDefEqProofs (maxSteps := 1000000) (disch := omega) [go_sem] <;> omega), by first | with_reducible rfl | assumption | omega | (simp -implicitDefEqProofs (maxSteps := 1000000) (disch := omega) [go_sem] <;> omega)⟩
      · rintro I8 hI8 v9 x8 tm8 H8 ⟨rfl, t0_8, t1_8, t5_8⟩ h hret8
        replace h : F17_b8 a b v9 = some x8 := h
        unfold F17_b8 at h
        refine IWp_seqF fun cb hc11 => ?_
        refine IWp_seqF fun cb hc12 => ?_
        refine vc_sound _ (by kernel_rfl) _ _ _ ?_
        simp -implicitDefEqProofs (maxSteps := 1000000) (disch := omega) [go_sem, t0_8, t1_8, t5_8]
        subst hc12
        refine IWp_cond_i h (by first | with_reducible rfl | (simp -implicitDefEqProofs (maxSteps := 1000000) (disch := omega) [go_sem, t0_8, t1_8, t5_8] <;> omega)) rfl ?_ ?_
        · intro c13 h
          try simp -implicitDefEqProofs (disch := omega) at c13
          refine vc_sound _ (by kernel_rfl) _ _ _ ?_
          simp -implicitDefEqProofs only [go_sem]
          subst hc11
          refine IWp_seqF fun cb hc14 => ?_
          refine IWp_block ?_
          refine IWp_seqF fun cb hc15 => ?_
          refine IWp_drawP [] [0, 1, 2, 3, 4, 5, 6, 7, 8] (by kernel_rfl) (by kernel_rfl) (fun _ _ _ _ h => h) ?_
          obtain ⟨g16, h⟩ := gd_some.1 h
          try simp -implicitDefEqProofs (disch := omega) at g16
          obtain ⟨g17, h⟩ := gd_some.1 h
          try simp -implicitDefEqProofs (disch := omega) at g17
          simp -implicitDefEqProofs (maxSteps := 1000000) (disch := omega) [go_sem, t0_8, t1_8, t5_8]
          subst hc15
          refine IWp_cond_i h (by first | with_reducible rfl | (simp -implicitDefEqProofs (maxSteps := 1000000) (disch := omega) [go_sem, t0_8, t1_8, t5_8] <;> omega)) rfl ?_ ?_
          · intro c18 h
            try simp -implicitDefEqProofs (disch := omega) at c18
            refine IWp_seqF fun cb hc19 => ?_
            refine vc_sound _ (by kernel_rfl) _ _ _ ?_
            simp -implicitDefEqProofs (maxSteps := 1000000) (disch := omega) [go_sem, t0_8, t1_8, t5_8]
            subst hc19
            refine vc_sound _ (by kernel_rfl) _ _ _ ?_
            simp -implicitDefEqProofs only [go_sem]
            have e8 := Option.some.inj h
            subst e8
            have e8 := hret8 _ rfl
            subst e8
            replace h : some false = some r := hk8
            have er := Option.some.inj h
            subst er
            simp -implicitDefEqProofs (maxSteps := 1000000) (disch := omega) [go_sem, t0_8, t1_8, t5_8]
            refine retG_pureE (by repeat (first | exact (Ext.refl hw) | refine Ext.new ?_ _ | refine Ext.set ?_ (by first | omega | (simp [go_sem]; omega)) _ | refine Ext.del ?_ (by first | omega | (simp [go_sem]; omega)))) (by first | with_reducible rfl | (simp -implicitDefEqProofs (maxSteps := 1000000) (disch := omega) [go_sem, t0_8, t1_8, t5_8] <;> omega)) ?_ hK
            simp [NB_v, NB_sl, NB_ag, NB_tu]
          · intro c18 h
            try simp -implicitDefEqProofs (disch := omega) at c18
            refine vc_sound _ (by kernel_rfl) _ _ _ ?_
            simp -implicitDefEqProofs only [go_sem]
            subst hc14
            refine vc_sound _ (by kernel_rfl) _ _ _ ?_
            simp -implicitDefEqProofs (maxSteps := 1000000) (disch := omega) [go_sem, t0_8, t1_8, t5_8]
            have e8 := Option.some.inj h
            subst e8
            refine loopN_mk hI8 (IntKind.i64.wrap (v9 + 1)) ?_
            refine .same ⟨rfl, by first | with_reducible rfl | assumption | omega | (simp -implicitDefEqProofs (maxSteps := 1000000) (disch := omega) [go_sem, t0_8, t1_8, t5_8] <;> omega), by first | with_reducible rfl | assumption | omega | (simp -implicitDefEqProofs (maxSteps := 1000000) (disch := omega) [go_sem, t0_8, t1_8, t5_8] <;> omega), by first | with_reducible rfl | assumption | omega | (simp -implicitDefEqProofs (maxSteps := 1000000) (disch := omega) [go_sem, t0_8, t1_8, t5_8] <;> omega)⟩
        · intro c13 h
          try simp -implicitDefEqProofs (disch := omega) at c13
          refine vc_sound _ (by kernel_rfl) _ _ _ ?_
          simp -implicitDefEqProofs only [go_sem]
          have e8 := Option.some.inj h
          subst e8
          have hy8 := hret8 _ rfl
          refine hc8 _ _ ?_
          refine .same ⟨hy8, rfl⟩

/-! cardcase/cardcaseref16.Differ -/
noncomputable def F14_k5 (v9 : List Int) : Option (List Int) :=
  some v9

noncomputable def F14_b5 (a : List (List (List UInt8))) (b : List (List (List UInt8))) (v6 : List Int) (v8 : Int) : Option (((List Int) × Int) ⊕ (List Int)) :=
  if v8 < 8 then (gd (0 ≤ v8 ∧ v8 < 8) (gd (a.length = 8) (gd (b.length = 8) ((F17 (a.getD v8.toNat []) (b.getD v8.toNat [])).bind fun (x20 : Bool) => if ¬ (x20 = true) then (gd ((v6.length + ([v8]).length) * 8 ≤ 140737488355328) (some (.inl ((v6 ++ ([v8]), IntKind.i64.wrap (v8 + 1)))))) else (some (.inl ((v6, IntKind.i64.wrap (v8 + 1))))))))) else (some (.inr v6))

noncomputable def F14 (a : List (List (List UInt8))) (b : List (List (List UInt8))) : Option (List Int) :=
  (loopO (fun (s : (List Int) × Int) => F14_b5 a b s.1 s.2) ([], 0)).bind fun (e : (List Int)) => F14_k5 e

set_option maxHeartbeats 8000000 in
set_option pp.deepTerms false in
set_option maxRecDepth 8000 in
theorem F14_ok {H : IHeap} {K : IEnd → IHeap → Prop} (a : List (List (List UInt8))) (b : List (List (List UInt8))) {r : List Int} (h : F14 a b = some r) (hK : K (.ret (.sl 1 (r.map fun x => [.v (.int .i64 x)]))) H) : ICalls prog 14 [.ag (a.map fun x => .sl 1 (x.map fun x => [.v (str x)])), .ag (b.map fun x => .sl 1 (x.map fun x => [.v (str x)]))] H K := by
  refine ICalls_iwp (N := 24) func14 (by kernel_rfl) rfl (by kernel_rfl) (by kernel_rfl) fun cb hcb hw hbd hnb => ?_
  clear hbd hnb
  subst hcb
  unfold F14 at h
  refine IWp_seqF fun cb hc1 => ?_
  refine vc_sound _ (by kernel_rfl) _ _ _ ?_
  simp -implicitDefEqProofs (maxSteps := 1000000) (disch := omega) [go_sem]
  subst hc1
  refine IWp_seqF fun cb hc2 => ?_
  refine vc_sound _ (by kernel_rfl) _ _ _ ?_
  simp -implicitDefEqProofs (maxSteps := 1000000) (disch := omega) [go_sem]
  subst hc2
  refine IWp_seqF fun cb hc3 => ?_
  refine IWp_seqF fun cb hc4 => ?_
  refine vc_sound _ (by kernel_rfl) _ _ _ ?_
  simp -implicitDefEqProofs (maxSteps := 1000000) (disch := omega) [go_sem]
  subst hc4
  obtain ⟨y5, hl5q, hk5⟩ := bind_some' h
  refine IWp_tailC (fun tm' H' => ∃ n10 : Nat, ∃ v9 : List Int, v9 = y5 ∧ Ext H H' ∧ H.next + 2 ≤ H'.next ∧ H.next ≤ n10 ∧ n10 < H'.next ∧ ¬ H.next = n10 ∧ ¬ H.next + 1 = n10 ∧ tm' 5 = .os n10 v9.length ∧ H'.obj H.next = some (.cells (a.map fun x => .sl 1 (x.map fun x => [.v (str x)]))) ∧ H'.obj (H.next + 1) = some (.cells (b.map fun x => .sl 1 (x.map fun x => [.v (str x)]))) ∧ H'.obj n10 = some (.row 1 (v9.map fun x => [.v (.int .i64 x)]))) ?_ fun cb hc5 => ?_
  · rintro tm5e H5e ⟨n10, v9, rfl, he5e, hl5e, hr0_5e, hs0_5e, hq23, hq24, t5_5e, ob0_5e, ob1_5e, or0_5e⟩
    have h : F14_k5 v9 = some r := hk5
    unfold F14_k5 at h
    simp -implicitDefEqProofs only [go_sem]
    subst hc3
    refine IWp_seqF fun cb hc11 => ?_
    refine vc_sound _ (by kernel_rfl) _ _ _ ?_
    simp -implicitDefEqProofs (maxSteps := 1000000) (disch := omega) [go_sem, t5_5e, ob0_5e, ob1_5e, or0_5e]
    subst hc11
    refine vc_sound _ (by kernel_rfl) _ _ _ ?_
    simp -implicitDefEqProofs only [go_sem]
    have er := Option.some.inj h
    subst er
    simp -implicitDefEqProofs (maxSteps := 1000000) (disch := omega) [go_sem, t5_5e, ob0_5e, ob1_5e, or0_5e]
    refine retG_fzE (J := H) (Ext.endH (by repeat (first | exact he5e | refine Ext.new ?_ _ | refine Ext.set ?_ (by first | omega | (simp [go_sem]; omega)) _ | refine Ext.del ?_ (by first | omega | (simp [go_sem]; omega))))) rfl (.row (hw _ (by first | omega | (simp [go_sem]; omega))) (by simp -implicitDefEqProofs (maxSteps := 1000000) (disch := omega) [go_sem, t5_5e, ob0_5e, ob1_5e, or0_5e]) (by simp) (by simp [NB_v, NB_sl, NB_ag, NB_tu])) hK
  · refine IWp_block ?_
    refine IWp_loopF (fun (s : (List Int) × Int) tm' H' => ∃ n7 : Nat, Ext H H' ∧ H.next + 2 ≤ H'.next ∧ H.next ≤ n7 ∧ n7 < H'.next ∧ ¬ H.next = n7 ∧ ¬ H.next + 1 = n7 ∧ tm' 2 = .p H.next 0 ∧ tm' 3 = .p (H.next + 1) 0 ∧ tm' 5 = .os n7 s.1.length ∧ tm' 6 = .v (.int .i64 s.2) ∧ H'.obj H.next = some (.cells (a.map fun x => .sl 1 (x.map fun x => [.v (str x)]))) ∧ H'.obj (H.next + 1) = some (.cells (b.map fun x => .sl 1 (x.map fun x => [.v (str x)]))) ∧ H'.obj n7 = some (.row 1 (s.1.map fun x => [.v (.int .i64 x)]))) hl5q ?_ ?_
    · refine UpI.gh (Gh.nilrow (d := 5) (sz := 1) (by omega) (by (simp -implicitDefEqProofs (maxSteps := 1000000) (disch := omega) [go_sem] <;> omega))) ?_
      refine .same ⟨H.next + 2, by repeat (first | exact (Ext.refl hw) | refine Ext.new ?_ _ | refine Ext.set ?_ (by first | omega | (simp [go_sem]; omega)) _ | refine Ext.del ?_ (by first | omega | (simp [go_sem]; omega))), by first | with_reducible rfl | assumption | omega | (simp -implicitDefEqProofs (maxSteps := 1000000) (disch := omega) [go_sem] <;> omega), by first | with_reducible rfl | assumption | omega | (simp -implicitDefEqProofs (maxSteps := 1000000) (disch := omega) [go_sem] <;> omega), by first | with_reducible rfl | assumption | omega | (simp -implicitDefEqProofs (maxSteps := 1000000) (disch := omega) [go_sem] <;> omega), by first | with_reducible rfl | assumption | omega | (simp -implicitDefEqProofs (maxSteps := 1000000) (disch := omega) [go_sem] <;> omega), by first | with_reducible rfl | assumption | omega | (simp -implicitDefEqProofs (maxSteps := 1000000) (disch := omega) [go_sem] <;> omega), by first | with_reducible rfl | assumption | omega | (simp -implicitDefEqProofs (maxSteps := 1000000) (disch := omega) [go_sem] <;> omega), by first | with_reducible rfl | assumption | omega | (simp -implicitDefEqProofs (maxSteps := 1000000) (disch := omega) [go_sem] <;> omega), by first | with_reducible rfl | assumption | omega | (simp -implicitDefEqProofs (maxSteps := 1000000) (disch := omega) [go_sem] <;> omega), by first | with_reducible rfl | assumption | omega | (simp -implicitDefEqProofs (maxSteps := 1000000) (disch := omega) [go_sem] <;> omega), by first | with_reducible rfl | assumption | omega | (simp -implicitDefEqProofs (maxSteps := 1000000) (disch := omega) [go_sem] <;> omega), by first | with_reducible rfl | assumption | omega | (simp -implicitDefEqProofs (maxSteps := 1000000) (disch := omega) [go_sem] <;> omega), by first | with_reducible rfl | assumption | omega | (simp -implicitDefEqProofs (maxSteps := 1000000) (disch := omega) [go_sem] <;> omega)⟩
    · rintro I5 hI5 ⟨v6, v8⟩ x5 tm5 H5 ⟨n7, he5, hl5, hr0_5, hs0_5, hq25, hq26, t2_5, t3_5, t5_5, t6_5, ob0_5, ob1_5, or0_5⟩ h hret5
      replace h : F14_b5 a b v6 v8 = some x5 := h
      unfold F14_b5 at h
      refine IWp_seqF fun cb hc12 => ?_
      refine IWp_seqF fun cb hc13 => ?_
      refine vc_sound _ (by kernel_rfl) _ _ _ ?_
      simp -implicitDefEqProofs (maxSteps := 1000000) (disch := omega) [go_sem, t2_5, t3_5, t5_5, t6_5, ob0_5, ob1_5, or0_5]
      subst hc13
      refine IWp_cond_i h (by first | with_reducible rfl | (simp -implicitDefEqProofs (maxSteps := 1000000) (disch := omega) [go_sem, t2_5, t3_5, t5_5, t6_5, ob0_5, ob1_5, or0_5] <;> omega)) rfl ?_ ?_
      · intro c14 h
        try simp -implicitDefEqProofs (disch := omega) at c14
        refine vc_sound _ (by kernel_rfl) _ _ _ ?_
        simp -implicitDefEqProofs only [go_sem]
        subst hc12
        refine IWp_seqF fun cb hc15 => ?_
        refine IWp_block ?_
        refine IWp_seqF fun cb hc16 => ?_
        refine IWp_drawP [6] [0, 1, 2, 3, 4, 5, 6, 7] (by kernel_rfl) (by kernel_rfl) (fun _ _ _ _ h => h) ?_
        obtain ⟨g17, h⟩ := gd_some.1 h
        try simp -implicitDefEqProofs (disch := omega) at g17
        obtain ⟨g18, h⟩ := gd_some.1 h
        try simp -implicitDefEqProofs (disch := omega) at g18
        obtain ⟨g19, h⟩ := gd_some.1 h
        try simp -implicitDefEqProofs (disch := omega) at g19
        simp -implicitDefEqProofs (maxSteps := 1000000) (disch := omega) [go_sem, t2_5, t3_5, t5_5, t6_5, ob0_5, ob1_5, or0_5, g18, g19]
        obtain ⟨x20, hx20, h⟩ := bind_some' h
        refine PureC.mk _ (fun _ _ hK => ICalls.eqA (args' := [.sl 1 ((a.getD v8.toNat []).map fun x => [.v (str x)]), .sl 1 ((b.getD v8.toNat []).map fun x => [.v (str x)])]) (by first | with_reducible rfl | (simp -implicitDefEqProofs (maxSteps := 1000000) (disch := omega) [go_sem, t2_5, t3_5, t5_5, t6_5, ob0_5, ob1_5, or0_5, g18, g19] <;> omega)) (F17_ok (a.getD v8.toNat []) (b.getD v8.toNat []) hx20 hK)) ?_
        simp -implicitDefEqProofs (maxSteps := 1000000) (disch := omega) [go_sem, t2_5, t3_5, t5_5, t6_5, ob0_5, ob1_5, or0_5, g18, g19]
        subst hc16
        refine IWp_cond_i h (by first | with_reducible rfl | (simp -implicitDefEqProofs (maxSteps := 1000000) (disch := omega) [go_sem, t2_5, t3_5, t5_5, t6_5, ob0_5, ob1_5, or0_5, g18, g19] <;> omega)) rfl ?_ ?_
        · intro c21 h
          try simp -implicitDefEqProofs (disch := omega) at c21
          refine vc_sound _ (by kernel_rfl) _ _ _ ?_
          obtain ⟨g22, h⟩ := gd_some.1 h
          try simp -implicitDefEqProofs (disch := omega) at g22
          simp -implicitDefEqProofs (maxSteps := 1000000) (disch := omega) [go_sem, t2_5, t3_5, t5_5, t6_5, ob0_5, ob1_5, or0_5, g18, g19]
          subst hc15
          refine vc_sound _ (by kernel_rfl) _ _ _ ?_
          simp -implicitDefEqProofs (maxSteps := 1000000) (disch := omega) [go_sem, t2_5, t3_5, t5_5, t6_5, ob0_5, ob1_5, or0_5, g18, g19]
          have e5 := Option.some.inj h
          subst e5
          refine loopN_mk hI5 ((v6 ++ ([v8]), IntKind.i64.wrap (v8 + 1))) ?_
          refine .same ⟨n7, by repeat (first | exact he5 | refine Ext.new ?_ _ | refine Ext.set ?_ (by first | omega | (simp [go_sem]; omega)) _ | refine Ext.del ?_ (by first | omega | (simp [go_sem]; omega))), by first | with_reducible rfl | assumption | omega | (simp -implicitDefEqProofs (maxSteps := 1000000) (disch := omega) [go_sem, t2_5, t3_5, t5_5, t6_5, ob0_5, ob1_5, or0_5, g18, g19] <;> omega), by first | with_reducible rfl | assumption | omega | (simp -implicitDefEqProofs (maxSteps := 1000000) (disch := omega) [go_sem, t2_5, t3_5, t5_5, t6_5, ob0_5, ob1_5, or0_5, g18, g19] <;> omega), by first | with_reducible rfl | assumption | omega | (simp -implicitDefEqProofs (maxSteps := 1000000) (disch := omega) [go_sem, t2_5, t3_5, t5_5, t6_5, ob0_5, ob1_5, or0_5, g18, g19] <;> omega), by first | with_reducible rfl | assumption | omega | (simp -implicitDefEqProofs (maxSteps := 1000000) (disch := omega) [go_sem, t2_5, t3_5, t5_5, t6_5, ob0_5, ob1_5, or0_5, g18, g19] <;> omega), by first | with_reducible rfl | assumption | omega | (simp -implicitDefEqProofs (maxSteps := 1000000) (disch := omega) [go_sem, t2_5, t3_5, t5_5, t6_5, ob0_5, ob1_5, or0_5, g18, g19] <;> omega), by first | with_reducible rfl | assumption | omega | (simp -implicitDefEqProofs (maxSteps := 1000000) (disch := omega) [go_sem, t2_5, t3_5, t5_5, t6_5, ob0_5, ob1_5, or0_5, g18, g19] <;> omega), by first | with_reducible rfl | assumption | omega | (simp -implicitDefEqProofs (maxSteps := 1000000) (disch := omega) [go_sem, t2_5, t3_5, t5_5, t6_5, ob0_5, ob1_5, or0_5, g18, g19] <;> omega), by first | with_reducible rfl | assumption | omega | (simp -implicitDefEqProofs (maxSteps := 1000000) (disch := omega) [go_sem, t2_5, t3_5, t5_5, t6_5, ob0_5, ob1_5, or0_5, g18, g19] <;> omega), by first | with_reducible rfl | assumption | omega | (simp -implicitDefEqProofs (maxSteps := 1000000) (disch := omega) [go_sem, t2_5, t3_5, t5_5, t6_5, ob0_5, ob1_5, or0_5, g18, g19] <;> omega), by first | with_reducible rfl | assumption | omega | (simp -implicitDefEqProofs (maxSteps := 1000000) (disch := omega) [go_sem, t2_5, t3_5, t5_5, t6_5, ob0_5, ob1_5, or0_5, g18, g19] <;> omega), by first | with_reducible rfl | assumption | omega | (simp -implicitDefEqProofs (maxSteps := 1000000) (disch := omega) [go_sem, t2_5, t3_5, t5_5, t6_5, ob0_5, ob1_5, or0_5, g18, g19] <;> omega), by first | with_reducible rfl | assumption | omega | (simp -implicitDefEqProofs (maxSteps := 1000000) (disch := omega) [go_sem, t2_5, t3_5, t5_5, t6_5, ob0_5, ob1_5, or0_5, g18, g19] <;> omega)⟩
        · intro c21 h
          try simp -implicitDefEqProofs (disch := omega) at c21
          refine vc_sound _ (by kernel_rfl) _ _ _ ?_
          simp -implicitDefEqProofs only [go_sem]
          subst hc15
          refine vc_sound _ (by kernel_rfl) _ _ _ ?_
          simp -implicitDefEqProofs (maxSteps := 1000000) (disch := omega) [go_sem, t2_5, t3_5, t5_5, t6_5, ob0_5, ob1_5, or0_5, g18, g19]
          have e5 := Option.some.inj h
          subst e5
          refine loopN_mk hI5 ((v6, IntKind.i64.wrap (v8 + 1))) ?_
          refine .same ⟨n7, by repeat (first | exact he5 | refine Ext.new ?_ _ | refine Ext.set ?_ (by first | omega | (simp [go_sem]; omega)) _ | refine Ext.del ?_ (by first | omega | (simp [go_sem]; omega))), by first | with_reducible rfl | assumption | omega | (simp -implicitDefEqProofs (maxSteps := 1000000) (disch := omega) [go_sem, t2_5, t3_5, t5_5, t6_5, ob0_5, ob1_5, or0_5, g18, g19] <;> omega), by first | with_reducible rfl | assumption | omega | (simp -implicitDefEqProofs (maxSteps := 1000000) (disch := omega) [go_sem, t2_5, t3_5, t5_5, t6_5, ob0_5, ob1_5, or0_5, g18, g19] <;> omega), by first | with_reducible rfl | assumption | omega | (simp -implicitDefEqProofs (maxSteps := 1000000) (disch := omega) [go_sem, t2_5, t3_5, t5_5, t6_5, ob0_5, ob1_5, or0_5, g18, g19] <;> omega), by first | with_reducible rfl | assumption | omega | (simp -implicitDefEqProofs (maxSteps := 1000000) (disch := omega) [go_sem, t2_5, t3_5, t5_5, t6_5, ob0_5, ob1_5, or0_5, g18, g19] <;> omega), by first | with_reducible rfl | assumption | omega | (simp -implicitDefEqProofs (maxSteps := 1000000) (disch := omega) [go_sem, t2_5, t3_5, t5_5, t6_5, ob0_5, ob1_5, or0_5, g18, g19] <;> omega), by first | with_reducible rfl | assumption | omega | (simp -implicitDefEqProofs (maxSteps := 1000000) (disch := omega) [go_sem, t2_5, t3_5, t5_5, t6_5, ob0_5, ob1_5, or0_5, g18, g19] <;> omega), by first | with_reducible rfl | assumption | omega | (simp -implicitDefEqProofs (maxSteps := 1000000) (disch := omega) [go_sem, t2_5, t3_5, t5_5, t6_5, ob0_5, ob1_5, or0_5, g18, g19] <;> omega), by first | with_reducible rfl | assumption | omega | (simp -implicitDefEqProofs (maxSteps := 1000000) (disch := omega) [go_sem, t2_5, t3_5, t5_5, t6_5, ob0_5, ob1_5, or0_5, g18, g19] <;> omega), by first | with_reducible rfl | assumption | omega | (simp -implicitDefEqProofs (maxSteps := 1000000) (disch := omega) [go_sem, t2_5, t3_5, t5_5, t6_5, ob0_5, ob1_5, or0_5, g18, g19] <;> omega), by first | with_reducible rfl | assumption | omega | (simp -implicitDefEqProofs (maxSteps := 1000000) (disch := omega) [go_sem, t2_5, t3_5, t5_5, t6_5, ob0_5, ob1_5, or0_5, g18, g19] <;> omega), by first | with_reducible rfl | assumption | omega | (simp -implicitDefEqProofs (maxSteps := 1000000) (disch := omega) [go_sem, t2_5, t3_5, t5_5, t6_5, ob0_5, ob1_5, or0_5, g18, g19] <;> omega), by first | with_reducible rfl | assumption | omega | (simp -implicitDefEqProofs (maxSteps := 1000000) (disch := omega) [go_sem, t2_5, t3_5, t5_5, t6_5, ob0_5, ob1_5, or0_5, g18, g19] <;> omega)⟩
      · intro c14 h
        try simp -implicitDefEqProofs (disch := omega) at c14
        refine vc_sound _ (by kernel_rfl) _ _ _ ?_
        simp -implicitDefEqProofs only [go_sem]
        have e5 := Option.some.inj h
        subst e5
        have hy5 := hret5 _ rfl
        refine hc5 _ _ ?_
        refine .same ⟨n7, v6, hy5, by repeat (first | exact he5 | refine Ext.new ?_ _ | refine Ext.set ?_ (by first | omega | (simp [go_sem]; omega)) _ | refine Ext.del ?_ (by first | omega | (simp [go_sem]; omega))), by first | with_reducible rfl | assumption | omega | (simp -implicitDefEqProofs (maxSteps := 1000000) (disch := omega) [go_sem, t2_5, t3_5, t5_5, t6_5, ob0_5, ob1_5, or0_5] <;> omega), by first | with_reducible rfl | assumption | omega | (simp -implicitDefEqProofs (maxSteps := 1000000) (disch := omega) [go_sem, t2_5, t3_5, t5_5, t6_5, ob0_5, ob1_5, or0_5] <;> omega), by first | with_reducible rfl | assumption | omega | (simp -implicitDefEqProofs (maxSteps := 1000000) (disch := omega) [go_sem, t2_5, t3_5, t5_5, t6_5, ob0_5, ob1_5, or0_5] <;> omega), by first | with_reducible rfl | assumption | omega | (simp -implicitDefEqProofs (maxSteps := 1000000) (disch := omega) [go_sem, t2_5, t3_5, t5_5, t6_5, ob0_5, ob1_5, or0_5] <;> omega), by first | with_reducible rfl | assumption | omega | (simp -implicitDefEqProofs (maxSteps := 1000000) (disch := omega) [go_sem, t2_5, t3_5, t5_5, t6_5, ob0_5, ob1_5, or0_5] <;> omega), by first | with_reducible rfl | assumption | omega | (simp -implicitDefEqProofs (maxSteps := 1000000) (disch := omega) [go_sem, t2_5, t3_5, t5_5, t6_5, ob0_5, ob1_5, or0_5] <;> omega), by first | with_reducible rfl | assumption | omega | (simp -implicitDefEqProofs (maxSteps := 1000000) (disch := omega) [go_sem, t2_5, t3_5, t5_5, t6_5, ob0_5, ob1_5, or0_5] <;> omega), by first | with_reducible rfl | assumption | omega | (simp -implicitDefEqProofs (maxSteps := 1000000) (disch := omega) [go_sem, t2_5, t3_5, t5_5, t6_5, ob0_5, ob1_5, or0_5] <;> omega), by first | with_reducible rfl | assumption | omega | (simp -implicitDefEqProofs (maxSteps := 1000000) (disch := omega) [go_sem, t2_5, t3_5, t5_5, t6_5, ob0_5, ob1_5, or0_5] <;> omega)⟩

/-! cardcase/cardcaseref16.Same -/
noncomputable def F11 (a : List (List (List UInt8))) (b : List (List (List UInt8))) : Option Bool :=
  gd (a.length = 8) (gd (b.length = 8) ((F14 a b).bind fun (x5 : List Int) => some (decide ((x5.length : Int) = 0))))

set_option maxHeartbeats 8000000 in
set_option pp.deepTerms false in
set_option maxRecDepth 8000 in
theorem F11_ok {H : IHeap} {K : IEnd → IHeap → Prop} (a : List (List (List UInt8))) (b : List (List (List UInt8))) {r : Bool} (h : F11 a b = some r) (hK : K (.ret (.v (.bool r))) H) : ICalls prog 11 [.ag (a.map fun x => .sl 1 (x.map fun x => [.v (str x)])), .ag (b.map fun x => .sl 1 (x.map fun x => [.v (str x)]))] H K := by
  refine ICalls_iwp (N := 10) func11 (by kernel_rfl) rfl (by kernel_rfl) (by kernel_rfl) fun cb hcb hw hbd hnb => ?_
  clear hbd hnb
  subst hcb
  unfold F11 at h
  refine IWp_seqF fun cb hc1 => ?_
  refine vc_sound _ (by kernel_rfl) _ _ _ ?_
  simp -implicitDefEqProofs (maxSteps := 1000000) (disch := omega) [go_sem]
  subst hc1
  refine IWp_seqF fun cb hc2 => ?_
  refine vc_sound _ (by kernel_rfl) _ _ _ ?_
  obtain ⟨g3, h⟩ := gd_some.1 h
  try simp -implicitDefEqProofs (disch := omega) at g3
  obtain ⟨g4, h⟩ := gd_some.1 h
  try simp -implicitDefEqProofs (disch := omega) at g4
  simp -implicitDefEqProofs (maxSteps := 1000000) (disch := omega) [go_sem, g3, g4]
  obtain ⟨x5, hx5, h⟩ := bind_some' h
  refine ICalls.eqA (args' := [.ag (a.map fun x => .sl 1 (x.map fun x => [.v (str x)])), .ag (b.map fun x => .sl 1 (x.map fun x => [.v (str x)]))]) (by first | with_reducible rfl | (simp -implicitDefEqProofs (maxSteps := 1000000) (disch := omega) [go_sem, g3, g4] <;> omega)) (F14_ok a b hx5 ?_)
  simp -implicitDefEqProofs (maxSteps := 1000000) (disch := omega) [go_sem, g3, g4]
  subst hc2
  refine vc_sound _ (by kernel_rfl) _ _ _ ?_
  simp -implicitDefEqProofs only [go_sem]
  have er := Option.some.inj h
  subst er
  simp -implicitDefEqProofs (maxSteps := 1000000) (disch := omega) [go_sem, g3, g4]
  refine retG_pureE (by repeat (first | exact (Ext.refl hw) | refine Ext.new ?_ _ | refine Ext.set ?_ (by first | omega | (simp [go_sem]; omega)) _ | refine Ext.del ?_ (by first | omega | (simp [go_sem]; omega)))) (by first | with_reducible rfl | (simp -implicitDefEqProofs (maxSteps := 1000000) (disch := omega) [go_sem, g3, g4] <;> omega)) ?_ hK
  simp [NB_v, NB_sl, NB_ag, NB_tu]

/-! cardcase/cardcaseref16.Ordered -/
noncomputable def F12_k10 (v13 : List (List UInt8)) : Option (List (List UInt8)) :=
  some v13

noncomputable def F12_k20 (l : List (List UInt8)) (v11 : List (List UInt8)) (v12 : Int) (v22 : Int) : Option (((List (List UInt8)) × Int) ⊕ ((List (List UInt8)))) :=
  if v22 < (v11.length : Int) then (gd (0 ≤ v22 ∧ v22 < v11.length) (gd (0 ≤ v12 ∧ v12 < l.length) (if (v11.getD v22.toNat []) = (l.getD v12.toNat []) then (some (.inl ((v11, IntKind.i64.wrap (v12 + 1))))) else (gd (0 ≤ v22) (gd (v22 ≤ v11.length) (gd ((v11.take v22.toNat).length * 16 ≤ 140737488355328) (gd (((v11.take v22.toNat).length + ([l.getD v12.toNat []]).length) * 16 ≤ 140737488355328) (gd ((((v11.take v22.toNat) ++ ([l.getD v12.toNat []])).length + (v11.drop v22.toNat).length) * 16 ≤ 140737488355328) (some (.inl ((((v11.take v22.toNat) ++ ([l.getD v12.toNat []])) ++ (v11.drop v22.toNat), IntKind.i64.wrap (v12 + 1))))))))))))) else (gd (0 ≤ v22) (gd (v22 ≤ v11.length) (gd (0 ≤ v12 ∧ v12 < l.length) (gd ((v11.take v22.toNat).length * 16 ≤ 140737488355328) (gd (((v11.take v22.toNat).length + ([l.getD v12.toNat []]).length) * 16 ≤ 140737488355328) (gd ((((v11.take v22.toNat) ++ ([l.getD v12.toNat []])).length + (v11.drop v22.toNat).length) * 16 ≤ 140737488355328) (some (.inl ((((v11.take v22.toNat) ++ ([l.getD v12.toNat []])) ++ (v11.drop v22.toNat), IntKind.i64.wrap (v12 + 1)))))))))))

noncomputable def F12_b20 (l : List (List UInt8)) (v11 : List (List UInt8)) (v12 : Int) (v21 : Int) : Option (Int ⊕ Int) :=
  if v21 < (v11.length : Int) then (gd (0 ≤ v21 ∧ v21 < v11.length) (gd (0 ≤ v12 ∧ v12 < l.length) (if Op.bytesLess (v11.getD v21.toNat []) (l.getD v12.toNat []) = true then (some (.inl (IntKind.i64.wrap (v21 + 1)))) else (some (.inr v21))))) else (some (.inr v21))

noncomputable def F12_b10 (l : List (List UInt8)) (v11 : List (List UInt8)) (v12 : Int) : Option (((List (List UInt8)) × Int) ⊕ ((List (List UInt8)))) :=
  if v12 < (l.length : Int) then ((loopO (fun (s : Int) => F12_b20 l v11 v12 s) 0).bind fun (e : Int) => F12_k20 l v11 v12 e) else (some (.inr v11))

noncomputable def F12 (f : Int) (l : List (List UInt8)) : Option (List (List UInt8)) :=
  if f < 6 then (gd (l.length * 16 ≤ 140737488355328) (some l)) else ((loopO (fun (s : (List (List UInt8)) × Int) => F12_b10 l s.1 s.2) ([], 0)).bind fun (e : (List (List UInt8))) => F12_k10 e)

set_option maxHeartbeats 8000000 in
set_option pp.deepTerms false in
set_option maxRecDepth 8000 in
theorem F12_ok {H : IHeap} {K : IEnd → IHeap → Prop} (f : Int) (l : List (List UInt8)) {r : List (List UInt8)} (h : F12 f l = some r) (hK : K (.ret (.sl 1 (r.map fun x => [.v (str x)]))) H) : ICalls prog 12 [.v (.int .i64 f), .sl 1 (l.map fun x => [.v (str x)])] H K := by
  refine ICalls_iwp (N := 65) func12 (by kernel_rfl) rfl (by kernel_rfl) (by kernel_rfl) fun cb hcb hw hbd hnb => ?_
  clear hbd hnb
  subst hcb
  unfold F12 at h
  refine IWp_seqF fun cb hc1 => ?_
  refine vc_sound _ (by kernel_rfl) _ _ _ ?_
  simp -implicitDefEqProofs (maxSteps := 1000000) (disch := omega) [go_sem]
  subst hc1
  refine IWp_seqF fun cb hc2 => ?_
  refine IWp_seqF fun cb hc3 => ?_
  refine vc_sound _ (by kernel_rfl) _ _ _ ?_
  simp -implicitDefEqProofs (maxSteps := 1000000) (disch := omega) [go_sem]
  subst hc3
  refine IWp_cond_i h (by first | with_reducible rfl | (simp -implicitDefEqProofs (maxSteps := 1000000) (disch := omega) [go_sem] <;> omega)) rfl ?_ ?_
  · intro c4 h
    try simp -implicitDefEqProofs (disch := omega) at c4
    refine IWp_seqF fun cb hc5 => ?_
    refine vc_sound _ (by kernel_rfl) _ _ _ ?_
    obtain ⟨g6, h⟩ := gd_some.1 h
    try simp -implicitDefEqProofs (disch := omega) at g6
    simp -implicitDefEqProofs (maxSteps := 1000000) (disch := omega) [go_sem]
    subst hc5
    refine vc_sound _ (by kernel_rfl) _ _ _ ?_
    simp -implicitDefEqProofs only [go_sem]
    have er := Option.some.inj h
    subst er
    simp -implicitDefEqProofs (maxSteps := 1000000) (disch := omega) [go_sem]
    refine retG_fzE (J := H) (Ext.endH (by repeat (first | exact (Ext.refl hw) | refine Ext.new ?_ _ | refine Ext.set ?_ (by first | omega | (simp [go_sem]; omega)) _ | refine Ext.del ?_ (by first | omega | (simp [go_sem]; omega))))) rfl (.row (hw _ (by first | omega | (simp [go_sem]; omega))) (by simp -implicitDefEqProofs (maxSteps := 1000000) (disch := omega) [go_sem]) (by simp) (by simp [NB_v, NB_sl, NB_ag, NB_tu])) hK
  · intro c4 h
    try simp -implicitDefEqProofs (disch := omega) at c4
    refine vc_sound _ (by kernel_rfl) _ _ _ ?_
    simp -implicitDefEqProofs only [go_sem]
    subst hc2
    refine IWp_seqF fun cb hc7 => ?_
    refine vc_sound _ (by kernel_rfl) _ _ _ ?_
    simp -implicitDefEqProofs (maxSteps := 1000000) (disch := omega) [go_sem]
    subst hc7
    refine IWp_seqF fun cb hc8 => ?_
    refine IWp_seqF fun cb hc9 => ?_
    refine vc_sound _ (by kernel_rfl) _ _ _ ?_
    simp -implicitDefEqProofs (maxSteps := 1000000) (disch := omega) [go_sem]
    subst hc9
    obtain ⟨y10, hl10q, hk10⟩ := bind_some' h
    refine IWp_tailC (fun tm' H' => ∃ v13 : List (List UInt8), v13 = y10 ∧ Ext H H' ∧ H.next ≤ H'.next ∧ tm' 5 = .sl 1 (v13.map fun x => [.v (str x)])) ?_ fun cb hc10 => ?_
    · rintro tm10e H10e ⟨v13, rfl, he10e, hl10e, t5_10e⟩
      have h : F12_k10 v13 = some r := hk10
      unfold F12_k10 at h
      simp -implicitDefEqProofs only [go_sem]
      subst hc8
      refine IWp_seqF fun cb hc14 => ?_
      refine vc_sound _ (by kernel_rfl) _ _ _ ?_
      simp -implicitDefEqProofs (maxSteps := 1000000) (disch := omega) [go_sem, t5_10e]
      subst hc14
      refine vc_sound _ (by kernel_rfl) _ _ _ ?_
      simp -implicitDefEqProofs only [go_sem]
      have er := Option.some.inj h
      subst er
      simp -implicitDefEqProofs (maxSteps := 1000000) (disch := omega) [go_sem, t5_10e]
      refine retG_pureE (by repeat (first | exact he10e | refine Ext.new ?_ _ | refine Ext.set ?_ (by first | omega | (simp [go_sem]; omega)) _ | refine Ext.del ?_ (by first | omega | (simp [go_sem]; omega)))) (by first | with_reducible rfl | (simp -implicitDefEqProofs (maxSteps := 1000000) (disch := omega) [go_sem, t5_10e] <;> omega)) ?_ hK
      simp [NB_v, NB_sl, NB_ag, NB_tu]
    · refine IWp_block ?_
      refine IWp_loopF (fun (s : (List (List UInt8)) × Int) tm' H' => Ext H H' ∧ H.next ≤ H'.next ∧ tm' 1 = .sl 1 (l.map fun x => [.v (str x)]) ∧ tm' 5 = .sl 1 (s.1.map fun x => [.v (str x)]) ∧ tm' 6 = .v (.int .i64 s.2)) hl10q ?_ ?_
      · refine UpI.gh (Gh.slotN 5 1 (by (simp -implicitDefEqProofs (maxSteps := 1000000) (disch := omega) [go_sem] <;> omega))) ?_
        refine .same ⟨by repeat (first | exact (Ext.refl hw) | refine Ext.new ?_ _ | refine Ext.set ?_ (by first | omega | (simp [go_sem]; omega)) _ | refine Ext.del ?_ (by first | omega | (simp [go_sem]; omega))), by first | with_reducible rfl | assumption | omega | (simp -implicitDefEqProofs (maxSteps := 1000000) (disch := omega) [go_sem] <;> omega), by first | with_reducible rfl | assumption | omega | (simp -implicitDefEqProofs (maxSteps := 1000000) (disch := omega) [go_sem] <;> omega), by first | with_reducible rfl | assumption | omega | (simp -implicitDefEqProofs (maxSteps := 1000000) (disch := omega) [go_sem] <;> omega), by first | with_reducible rfl | assumption | omega | (simp -implicitDefEqProofs (maxSteps := 1000000) (disch := omega) [go_sem] <;> omega)⟩
      · rintro I10 hI10 ⟨v11, v12⟩ x10 tm10 H10 ⟨he10, hl10, t1_10, t5_10, t6_10⟩ h hret10
        replace h : F12_b10 l v11 v12 = some x10 := h
        unfold F12_b10 at h
        refine IWp_seqF fun cb hc15 => ?_
        refine IWp_seqF fun cb hc16 => ?_
        refine vc_sound _ (by kernel_rfl) _ _ _ ?_
        simp -implicitDefEqProofs (maxSteps := 1000000) (disch := omega) [go_sem, t1_10, t5_10, t6_10]
        subst hc16
        refine IWp_cond_i h (by first | with_reducible rfl | (simp -implicitDefEqProofs (maxSteps := 1000000) (disch := omega) [go_sem, t1_10, t5_10, t6_10] <;> omega)) rfl ?_ ?_
        · intro c17 h
          try simp -implicitDefEqProofs (disch := omega) at c17
          refine vc_sound _ (by kernel_rfl) _ _ _ ?_
          simp -implicitDefEqProofs only [go_sem]
          subst hc15
          refine IWp_seqF fun cb hc18 => ?_
          refine IWp_block ?_
          refine IWp_seqF fun cb hc19 => ?_
          refine vc_sound _ (by kernel_rfl) _ _ _ ?_
          simp -implicitDefEqProofs (maxSteps := 1000000) (disch := omega) [go_sem, t1_10, t5_10, t6_10]
          subst hc19
          obtain ⟨y20, hl20q, hk20⟩ := bind_some' h
          refine IWp_seqC (fun tm' H' => ∃ v22 : Int, v22 = y20 ∧ H10 = H' ∧ tm' 1 = .sl 1 (l.map fun x => [.v (str x)]) ∧ tm' 5 = .sl 1 (v11.map fun x => [.v (str x)]) ∧ tm' 6 = .v (.int .i64 v12) ∧ tm' 7 = .v (.int .i64 v22)) ?_ fun cb hc20 => ?_
          · rintro tm20e H20e ⟨v22, rfl, rfl, t1_20e, t5_20e, t6_20e, t7_20e⟩
            have h : F12_k20 l v11 v12 v22 = some x10 := hk20
            unfold F12_k20 at h
            refine IWp_seqF fun cb hc23 => ?_
            refine IWp_seqF fun cb hc24 => ?_
            refine IWp_drawP [] [0, 1, 2, 3, 4, 5, 6, 7, 8, 9, 10, 11, 12, 13, 14] (by kernel_rfl) (by kernel_rfl) (fun _ _ _ _ h => h) ?_
            simp -implicitDefEqProofs (maxSteps := 1000000) (disch := omega) [go_sem, t1_20e, t5_20e, t6_20e, t7_20e]
            refine splitG_f h (by first | with_reducible rfl | (simp -implicitDefEqProofs (maxSteps := 1000000) (disch := omega) [go_sem, t1_20e, t5_20e, t6_20e, t7_20e] <;> omega)) ?_ ?_
            · intro c39 h
              try simp -implicitDefEqProofs (disch := omega) at c39
              obtain ⟨g25, h⟩ := gd_some.1 h
              try simp -implicitDefEqProofs (disch := omega) at g25
              obtain ⟨g26, h⟩ := gd_some.1 h
              try simp -implicitDefEqProofs (disch := omega) at g26
              simp -implicitDefEqProofs (maxSteps := 1000000) (disch := omega) [go_sem, t1_20e, t5_20e, t6_20e, t7_20e]
              subst hc24
              refine IWp_cond_i h (by first | with_reducible rfl | (simp -implicitDefEqProofs (maxSteps := 1000000) (disch := omega) [go_sem, t1_20e, t5_20e, t6_20e, t7_20e] <;> omega)) rfl ?_ ?_
              · intro c27 h
                try simp -implicitDefEqProofs (disch := omega) at c27
                refine vc_sound _ (by kernel_rfl) _ _ _ ?_
                simp -implicitDefEqProofs only [go_sem]
                subst hc18
                refine vc_sound _ (by kernel_rfl) _ _ _ ?_
                simp -implicitDefEqProofs (maxSteps := 1000000) (disch := omega) [go_sem, t1_20e, t5_20e, t6_20e, t7_20e]
                have e10 := Option.some.inj h
                subst e10
                refine loopN_mk hI10 ((v11, IntKind.i64.wrap (v12 + 1))) ?_
                refine .same ⟨by repeat (first | exact he10 | refine Ext.new ?_ _ | refine Ext.set ?_ (by first | omega | (simp [go_sem]; omega)) _ | refine Ext.del ?_ (by first | omega | (simp [go_sem]; omega))), by first | with_reducible rfl | assumption | omega | (simp -implicitDefEqProofs (maxSteps := 1000000) (disch := omega) [go_sem, t1_20e, t5_20e, t6_20e, t7_20e] <;> omega), by first | with_reducible rfl | assumption | omega | (simp -implicitDefEqProofs (maxSteps := 1000000) (disch := omega) [go_sem, t1_20e, t5_20e, t6_20e, t7_20e] <;> omega), by first | with_reducible rfl | assumption | omega | (simp -implicitDefEqProofs (maxSteps := 1000000) (disch := omega) [go_sem, t1_20e, t5_20e, t6_20e, t7_20e] <;> omega), by first | with_reducible rfl | assumption | omega | (simp -implicitDefEqProofs (maxSteps := 1000000) (disch := omega) [go_sem, t1_20e, t5_20e, t6_20e, t7_20e] <;> omega)⟩
              · intro c27 h
                try simp -implicitDefEqProofs (disch := omega) at c27
                refine vc_sound _ (by kernel_rfl) _ _ _ ?_
                simp -implicitDefEqProofs only [go_sem]
                subst hc23
                refine IWp_drawP [] [0, 1, 2, 4, 5, 6, 7, 8, 10, 11, 12, 3, 9, 13, 14] (by kernel_rfl) (by kernel_rfl) (fun _ _ _ _ h => h) ?_
                obtain ⟨g28, h⟩ := gd_some.1 h
                try simp -implicitDefEqProofs (disch := omega) at g28
                obtain ⟨g29, h⟩ := gd_some.1 h
                try simp -implicitDefEqProofs (disch := omega) at g29
                obtain ⟨g30, h⟩ := gd_some.1 h
                try simp -implicitDefEqProofs (disch := omega) at g30
                obtain ⟨g31, h⟩ := gd_some.1 h
                try simp -implicitDefEqProofs (disch := omega) at g31
                obtain ⟨g32, h⟩ := gd_some.1 h
                try simp -implicitDefEqProofs (disch := omega) at g32
                simp -implicitDefEqProofs (maxSteps := 1000000) (disch := omega) [go_sem, t1_20e, t5_20e, t6_20e, t7_20e]
                subst hc18
                refine vc_sound _ (by kernel_rfl) _ _ _ ?_
                simp -implicitDefEqProofs (maxSteps := 1000000) (disch := omega) [go_sem, t1_20e, t5_20e, t6_20e, t7_20e]
                have e10 := Option.some.inj h
                subst e10
                refine loopN_mk hI10 ((((v11.take v22.toNat) ++ ([l.getD v12.toNat []])) ++ (v11.drop v22.toNat), IntKind.i64.wrap (v12 + 1))) ?_
                refine UpI.gh (Gh.freeze (d := 5) (k := H10.next) (sz := 1) (es := (((v11.take v22.toNat) ++ ([l.getD v12.toNat []])) ++ (v11.drop v22.toNat)).map fun x => [.v (str x)]) (by (simp -implicitDefEqProofs (maxSteps := 1000000) (disch := omega) [go_sem, t1_20e, t5_20e, t6_20e, t7_20e] <;> omega)) (by (simp -implicitDefEqProofs (maxSteps := 1000000) (disch := omega) [go_sem, t1_20e, t5_20e, t6_20e, t7_20e] <;> omega))) ?_
                refine .same ⟨by repeat (first | exact he10 | refine Ext.new ?_ _ | refine Ext.set ?_ (by first | omega | (simp [go_sem]; omega)) _ | refine Ext.del ?_ (by first | omega | (simp [go_sem]; omega))), by first | with_reducible rfl | assumption | omega | (simp -implicitDefEqProofs (maxSteps := 1000000) (disch := omega) [go_sem, t1_20e, t5_20e, t6_20e, t7_20e] <;> omega), by first | with_reducible rfl | assumption | omega | (simp -implicitDefEqProofs (maxSteps := 1000000) (disch := omega) [go_sem, t1_20e, t5_20e, t6_20e, t7_20e] <;> omega), by first | with_reducible rfl | assumption | omega | (simp -implicitDefEqProofs (maxSteps := 1000000) (disch := omega) [go_sem, t1_20e, t5_20e, t6_20e, t7_20e] <;> omega), by first | with_reducible rfl | assumption | omega | (simp -implicitDefEqProofs (maxSteps := 1000000) (disch := omega) [go_sem, t1_20e, t5_20e, t6_20e, t7_20e] <;> omega)⟩
            · intro c39 h
              try simp -implicitDefEqProofs (disch := omega) at c39
              simp -implicitDefEqProofs (maxSteps := 1000000) (disch := omega) [go_sem, t1_20e, t5_20e, t6_20e, t7_20e]
              subst hc24
              refine IWp_cond_f (by first | with_reducible rfl | (simp -implicitDefEqProofs (maxSteps := 1000000) (disch := omega) [go_sem, t1_20e, t5_20e, t6_20e, t7_20e] <;> omega)) rfl ?_
              refine vc_sound _ (by kernel_rfl) _ _ _ ?_
              simp -implicitDefEqProofs only [go_sem]
              subst hc23
              refine IWp_drawP [] [0, 1, 2, 4, 5, 6, 7, 8, 10, 11, 12, 3, 9, 13, 14] (by kernel_rfl) (by kernel_rfl) (fun _ _ _ _ h => h) ?_
              obtain ⟨g33, h⟩ := gd_some.1 h
              try simp -implicitDefEqProofs (disch := omega) at g33
              obtain ⟨g34, h⟩ := gd_some.1 h
              try simp -implicitDefEqProofs (disch := omega) at g34
              obtain ⟨g35, h⟩ := gd_some.1 h
              try simp -implicitDefEqProofs (disch := omega) at g35
              obtain ⟨g36, h⟩ := gd_some.1 h
              try simp -implicitDefEqProofs (disch := omega) at g36
              obtain ⟨g37, h⟩ := gd_some.1 h
              try simp -implicitDefEqProofs (disch := omega) at g37
              obtain ⟨g38, h⟩ := gd_some.1 h
              try simp -implicitDefEqProofs (disch := omega) at g38
              simp -implicitDefEqProofs (maxSteps := 1000000) (disch := omega) [go_sem, t1_20e, t5_20e, t6_20e, t7_20e]
              subst hc18
              refine vc_sound _ (by kernel_rfl) _ _ _ ?_
              simp -implicitDefEqProofs (maxSteps := 1000000) (disch := omega) [go_sem, t1_20e, t5_20e, t6_20e, t7_20e]
              have e10 := Option.some.inj h
              subst e10
              refine loopN_mk hI10 ((((v11.take v22.toNat) ++ ([l.getD v12.toNat []])) ++ (v11.drop v22.toNat), IntKind.i64.wrap (v12 + 1))) ?_
              refine UpI.gh (Gh.freeze (d := 5) (k := H10.next) (sz := 1) (es := (((v11.take v22.toNat) ++ ([l.getD v12.toNat []])) ++ (v11.drop v22.toNat)).map fun x => [.v (str x)]) (by (simp -implicitDefEqProofs (maxSteps := 1000000) (disch := omega) [go_sem, t1_20e, t5_20e, t6_20e, t7_20e] <;> omega)) (by (simp -implicitDefEqProofs (maxSteps := 1000000) (disch := omega) [go_sem, t1_20e, t5_20e, t6_20e, t7_20e] <;> omega))) ?_
              refine .same ⟨by repeat (first | exact he10 | refine Ext.new ?_ _ | refine Ext.set ?_ (by first | omega | (simp [go_sem]; omega)) _ | refine Ext.del ?_ (by first | omega | (simp [go_sem]; omega))), by first | with_reducible rfl | assumption | omega | (simp -implicitDefEqProofs (maxSteps := 1000000) (disch := omega) [go_sem, t1_20e, t5_20e, t6_20e, t7_20e] <;> omega), by first | with_reducible rfl | assumption | omega | (simp -implicitDefEqProofs (maxSteps := 1000000) (disch := omega) [go_sem, t1_20e, t5_20e, t6_20e, t7_20e] <;> omega), by first | with_reducible rfl | assumption | omega | (simp -implicitDefEqProofs (maxSteps := 1000000) (disch := omega) [go_sem, t1_20e, t5_20e, t6_20e, t7_20e] <;> omega), by first | with_reducible rfl | assumption | omega | (simp -implicitDefEqProofs (maxSteps := 1000000) (disch := omega) [go_sem, t1_20e, t5_20e, t6_20e, t7_20e] <;> omega)⟩
          · refine IWp_block ?_
            refine IWp_loopF (fun (s : Int) tm' H' => H10 = H' ∧ tm' 1 = .sl 1 (l.map fun x => [.v (str x)]) ∧ tm' 5 = .sl 1 (v11.map fun x => [.v (str x)]) ∧ tm' 6 = .v (.int .i64 v12) ∧ tm' 7 = .v (.int .i64 s)) hl20q ?_ ?_
            · refine .same ⟨rfl, by first | with_reducible rfl | assumption | omega | (simp -implicitDefEqProofs (maxSteps := 1000000) (disch := omega) [go_sem, t1_10, t5_10, t6_10] <;> omega), by first | with_reducible rfl | assumption | omega | (simp -implicitDefEqProofs (maxSteps := 1000000) (disch := omega) [go_sem, t1_10, t5_10, t6_10] <;> omega), by first | with_reducible rfl | assumption | omega | (simp -implicitDefEqProofs (maxSteps := 1000000) (disch := omega) [go_sem, t1_10, t5_10, t6_10] <;> omega), by first | with_reducible rfl | assumption | omega | (simp -implicitDefEqProofs (maxSteps := 1000000) (disch := omega) [go_sem, t1_10, t5_10, t6_10] <;> omega)⟩
            · rintro I20 hI20 v21 x20 tm20 H20 ⟨rfl, t1_20, t5_20, t6_20, t7_20⟩ h hret20
              replace h : F12_b20 l v11 v12 v21 = some x20 := h
              unfold F12_b20 at h
              refine IWp_seqF fun cb hc40 => ?_
              refine IWp_seqF fun cb hc41 => ?_
              refine IWp_drawP [] [0, 1, 2, 3, 4, 5, 6, 7, 8, 9, 10, 11, 12, 13, 14] (by kernel_rfl) (by kernel_rfl) (fun _ _ _ _ h => h) ?_
              simp -implicitDefEqProofs (maxSteps := 1000000) (disch := omega) [go_sem, t1_20, t5_20, t6_20, t7_20]
              refine splitG_f h (by first | with_reducible rfl | (simp -implicitDefEqProofs (maxSteps := 1000000) (disch := omega) [go_sem, t1_20, t5_20, t6_20, t7_20] <;> omega)) ?_ ?_
              · intro c45 h
                try simp -implicitDefEqProofs (disch := omega) at c45
                obtain ⟨g42, h⟩ := gd_some.1 h
                try simp -implicitDefEqProofs (disch := omega) at g42
                obtain ⟨g43, h⟩ := gd_some.1 h
                try simp -implicitDefEqProofs (disch := omega) at g43
                simp -implicitDefEqProofs (maxSteps := 1000000) (disch := omega) [go_sem, t1_20, t5_20, t6_20, t7_20]
                subst hc41
                refine IWp_cond_i h (by first | with_reducible rfl | (simp -implicitDefEqProofs (maxSteps := 1000000) (disch := omega) [go_sem, t1_20, t5_20, t6_20, t7_20] <;> omega)) rfl ?_ ?_
                · intro c44 h
                  try simp -implicitDefEqProofs (disch := omega) at c44
                  refine vc_sound _ (by kernel_rfl) _ _ _ ?_
                  simp -implicitDefEqProofs only [go_sem]
                  subst hc40
                  refine IWp_block ?_
                  refine vc_sound _ (by kernel_rfl) _ _ _ ?_
                  simp -implicitDefEqProofs (maxSteps := 1000000) (disch := omega) [go_sem, t1_20, t5_20, t6_20, t7_20]
                  have e20 := Option.some.inj h
                  subst e20
                  refine loopN_mk hI20 (IntKind.i64.wrap (v21 + 1)) ?_
                  refine .same ⟨rfl, by first | with_reducible rfl | assumption | omega | (simp -implicitDefEqProofs (maxSteps := 1000000) (disch := omega) [go_sem, t1_20, t5_20, t6_20, t7_20] <;> omega), by first | with_reducible rfl | assumption | omega | (simp -implicitDefEqProofs (maxSteps := 1000000) (disch := omega) [go_sem, t1_20, t5_20, t6_20, t7_20] <;> omega), by first | with_reducible rfl | assumption | omega | (simp -implicitDefEqProofs (maxSteps := 1000000) (disch := omega) [go_sem, t1_20, t5_20, t6_20, t7_20] <;> omega), by first | with_reducible rfl | assumption | omega | (simp -implicitDefEqProofs (maxSteps := 1000000) (disch := omega) [go_sem, t1_20, t5_20, t6_20, t7_20] <;> omega)⟩
                · intro c44 h
                  try simp -implicitDefEqProofs (disch := omega) at c44
                  refine vc_sound _ (by kernel_rfl) _ _ _ ?_
                  simp -implicitDefEqProofs only [go_sem]
                  have e20 := Option.some.inj h
                  subst e20
                  have hy20 := hret20 _ rfl
                  refine hc20 _ _ ?_
                  refine .same ⟨v21, hy20, rfl, by first | with_reducible rfl | assumption | omega | (simp -implicitDefEqProofs (maxSteps := 1000000) (disch := omega) [go_sem, t1_20, t5_20, t6_20, t7_20] <;> omega), by first | with_reducible rfl | assumption | omega | (simp -implicitDefEqProofs (maxSteps := 1000000) (disch := omega) [go_sem, t1_20, t5_20, t6_20, t7_20] <;> omega), by first | with_reducible rfl | assumption | omega | (simp -implicitDefEqProofs (maxSteps := 1000000) (disch := omega) [go_sem, t1_20, t5_20, t6_20, t7_20] <;> omega), by first | with_reducible rfl | assumption | omega | (simp -implicitDefEqProofs (maxSteps := 1000000) (disch := omega) [go_sem, t1_20, t5_20, t6_20, t7_20] <;> omega)⟩
              · intro c45 h
                try simp -implicitDefEqProofs (disch := omega) at c45
                simp -implicitDefEqProofs (maxSteps := 1000000) (disch := omega) [go_sem, t1_20, t5_20, t6_20, t7_20]
                subst hc41
                refine IWp_cond_f (by first | with_reducible rfl | (simp -implicitDefEqProofs (maxSteps := 1000000) (disch := omega) [go_sem, t1_20, t5_20, t6_20, t7_20] <;> omega)) rfl ?_
                refine vc_sound _ (by kernel_rfl) _ _ _ ?_
                simp -implicitDefEqProofs only [go_sem]
                have e20 := Option.some.inj h
                subst e20
                have hy20 := hret20 _ rfl
                refine hc20 _ _ ?_
                refine .same ⟨v21, hy20, rfl, by first | with_reducible rfl | assumption | omega | (simp -implicitDefEqProofs (maxSteps := 1000000) (disch := omega) [go_sem, t1_20, t5_20, t6_20, t7_20] <;> omega), by first | with_reducible rfl | assumption | omega | (simp -implicitDefEqProofs (maxSteps := 1000000) (disch := omega) [go_sem, t1_20, t5_20, t6_20, t7_20] <;> omega), by first | with_reducible rfl | assumption | omega | (simp -implicitDefEqProofs (maxSteps := 1000000) (disch := omega) [go_sem, t1_20, t5_20, t6_20, t7_20] <;> omega), by first | with_reducible rfl | assumption | omega | (simp -implicitDefEqProofs (maxSteps := 1000000) (disch := omega) [go_sem, t1_20, t5_20, t6_20, t7_20] <;> omega)⟩
        · intro c17 h
          try simp -implicitDefEqProofs (disch := omega) at c17
          refine vc_sound _ (by kernel_rfl) _ _ _ ?_
          simp -implicitDefEqProofs only [go_sem]
          have e10 := Option.some.inj h
          subst e10
          have hy10 := hret10 _ rfl
          refine hc10 _ _ ?_
          refine .same ⟨v11, hy10, by repeat (first | exact he10 | refine Ext.new ?_ _ | refine Ext.set ?_ (by first | omega | (simp [go_sem]; omega)) _ | refine Ext.del ?_ (by first | omega | (simp [go_sem]; omega))), by first | with_reducible rfl | assumption | omega | (simp -implicitDefEqProofs (maxSteps := 1000000) (disch := omega) [go_sem, t1_10, t5_10, t6_10] <;> omega), by first | with_reducible rfl | assumption | omega | (simp -implicitDefEqProofs (maxSteps := 1000000) (disch := omega) [go_sem, t1_10, t5_10, t6_10] <;> omega)⟩

/-! slices.Equal[[]string,string] -/
noncomputable def F26_k8  : Option Bool :=
  some true

noncomputable def F26_b8 (a : List (List UInt8)) (b : List (List UInt8)) (v9 : Int) : Option (Int ⊕ (Unit ⊕ Bool)) :=
  if v9 < (a.length : Int) then (gd (0 ≤ v9 ∧ v9 < a.length) (gd (0 ≤ v9 ∧ v9 < b.length) (if ¬ (a.getD v9.toNat []) = (b.getD v9.toNat []) then (some (.inr (.inr false))) else (some (.inl (IntKind.i64.wrap (v9 + 1))))))) else (some (.inr (.inl ())))

noncomputable def F26 (a : List (List UInt8)) (b : List (List UInt8)) : Option Bool :=
  if ¬ (a.length : Int) = (b.length : Int) then (some false) else ((loopO (fun (s : Int) => F26_b8 a b s) 0).bind fun y => Sum.elim (fun (e : Unit) => F26_k8) (fun (q : Bool) => some q) y)

set_option maxHeartbeats 8000000 in
set_option pp.deepTerms false in
set_option maxRecDepth 8000 in
theorem F26_ok {H : IHeap} {K : IEnd → IHeap → Prop} (a : List (List UInt8)) (b : List (List UInt8)) {r : Bool} (h : F26 a b = some r) (hK : K (.ret (.v (.bool r))) H) : ICalls prog 26 [.sl 1 (a.map fun x => [.v (str x)]), .sl 1 (b.map fun x => [.v (str x)])] H K := by
  refine ICalls_iwp (N := 26) func26 (by kernel_rfl) rfl (by kernel_rfl) (by kernel_rfl) fun cb hcb hw hbd hnb => ?_
  clear hbd hnb
  subst hcb
  unfold F26 at h
  refine IWp_seqF fun cb hc1 => ?_
  refine vc_sound _ (by kernel_rfl) _ _ _ ?_
  simp -implicitDefEqProofs (maxSteps := 1000000) (disch := omega) [go_sem]
  subst hc1
  refine IWp_seqF fun cb hc2 => ?_
  refine IWp_seqF fun cb hc3 => ?_
  refine vc_sound _ (by kernel_rfl) _ _ _ ?_
  simp -implicitDefEqProofs (maxSteps := 1000000) (disch := omega) [go_sem]
  subst hc3
  refine IWp_cond_i h (by first | with_reducible rfl | (simp -implicitDefEqProofs (maxSteps := 1000000) (disch := omega) [go_sem] <;> omega)) rfl ?_ ?_
  · intro c4 h
    try simp -implicitDefEqProofs (disch := omega) at c4
    refine IWp_seqF fun cb hc5 => ?_
    refine vc_sound _ (by kernel_rfl) _ _ _ ?_
    simp -implicitDefEqProofs (maxSteps := 1000000) (disch := omega) [go_sem]
    subst hc5
    refine vc_sound _ (by kernel_rfl) _ _ _ ?_
    simp -implicitDefEqProofs only [go_sem]
    have er := Option.some.inj h
    subst er
    simp -implicitDefEqProofs (maxSteps := 1000000) (disch := omega) [go_sem]
    refine retG_pureE (by repeat (first | exact (Ext.refl hw) | refine Ext.new ?_ _ | refine Ext.set ?_ (by first | omega | (simp [go_sem]; omega)) _ | refine Ext.del ?_ (by first | omega | (simp [go_sem]; omega)))) (by first | with_reducible rfl | (simp -implicitDefEqProofs (maxSteps := 1000000) (disch := omega) [go_sem] <;> omega)) ?_ hK
    simp [NB_v, NB_sl, NB_ag, NB_tu]
  · intro c4 h
    try simp -implicitDefEqProofs (disch := omega) at c4
    refine vc_sound _ (by kernel_rfl) _ _ _ ?_
    simp -implicitDefEqProofs only [go_sem]
    subst hc2
    refine IWp_seqF fun cb hc6 => ?_
    refine IWp_seqF fun cb hc7 => ?_
    refine vc_sound _ (by kernel_rfl) _ _ _ ?_
    simp -implicitDefEqProofs (maxSteps := 1000000) (disch := omega) [go_sem]
    subst hc7
    obtain ⟨y8, hl8q, hk8⟩ := bind_some' h
    refine IWp_tailC (fun tm' H' => .inl () = y8 ∧ H = H') ?_ fun cb hc8 => ?_
    · rintro tm8e H8e ⟨rfl, rfl⟩
      have h : F26_k8 = some r := hk8
      unfold F26_k8 at h
      simp -implicitDefEqProofs only [go_sem]
      subst hc6
      refine IWp_seqF fun cb hc10 => ?_
      refine vc_sound _ (by kernel_rfl) _ _ _ ?_
      simp -implicitDefEqProofs (maxSteps := 1000000) (disch := omega) [go_sem]
      subst hc10
      refine vc_sound _ (by kernel_rfl) _ _ _ ?_
      simp -implicitDefEqProofs only [go_sem]
      have er := Option.some.inj h
      subst er
      simp -implicitDefEqProofs (maxSteps := 1000000) (disch := omega) [go_sem]
      refine retG_pureE (by repeat (first | exact (Ext.refl hw) | refine Ext.new ?_ _ | refine Ext.set ?_ (by first | omega | (simp [go_sem]; omega)) _ | refine Ext.del ?_ (by first | omega | (simp [go_sem]; omega)))) (by first | with_reducible rfl | (simp -implicitDefEqProofs (maxSteps := 1000000) (disch := omega) [go_sem] <;> omega)) ?_ hK
      simp [NB_v, NB_sl, NB_ag, NB_tu]
    · refine IWp_block ?_
      refine IWp_loopF (fun (s : Int) tm' H' => H = H' ∧ tm' 0 = .sl 1 (a.map fun x => [.v (str x)]) ∧ tm' 1 = .sl 1 (b.map fun x => [.v (str x)]) ∧ tm' 12 = .v (.int .i64 (a.length : Int)) ∧ tm' 13 = .v (.int .i64 s)) hl8q ?_ ?_
      · refine .same ⟨rfl, by first | with_reducible rfl | assumption | omega | (simp -implicitDefEqProofs (maxSteps := 1000000) (disch := omega) [go_sem] <;> omega), by first | with_reducible rfl | assumption | omega | (simp -implicitDefEqProofs (maxSteps := 1000000) (disch := omega) [go_sem] <;> omega), by first | with_reducible rfl | assumption | omega | (simp -implicitDefEqProofs (maxSteps := 1000000) (disch := omega) [go_sem] <;> omega), by first | with_reducible rfl | assumption | omega | (simp -implicitDefEqProofs (maxSteps := 1000000) (disch := omega) [go_sem] <;> omega)⟩
      · rintro I8 hI8 v9 x8 tm8 H8 ⟨rfl, t0_8, t1_8, t12_8, t13_8⟩ h hret8
        replace h : F26_b8 a b v9 = some x8 := h
        unfold F26_b8 at h
        refine IWp_seqF fun cb hc11 => ?_
        refine vc_sound _ (by kernel_rfl) _ _ _ ?_
        simp -implicitDefEqProofs (maxSteps := 1000000) (disch := omega) [go_sem, t0_8, t1_8, t12_8, t13_8]
        subst hc11
        refine IWp_seqF fun cb hc12 => ?_
        refine IWp_cond_i h (by first | with_reducible rfl | (simp -implicitDefEqProofs (maxSteps := 1000000) (disch := omega) [go_sem, t0_8, t1_8, t12_8, t13_8] <;> omega)) rfl ?_ ?_
        · intro c13 h
          try simp -implicitDefEqProofs (disch := omega) at c13
          refine vc_sound _ (by kernel_rfl) _ _ _ ?_
          simp -implicitDefEqProofs only [go_sem]
          subst hc12
          refine IWp_seqF fun cb hc14 => ?_
          refine IWp_block ?_
          refine IWp_seqF fun cb hc15 => ?_
          refine vc_sound _ (by kernel_rfl) _ _ _ ?_
          simp -implicitDefEqProofs (maxSteps := 1000000) (disch := omega) [go_sem, t0_8, t1_8, t12_8, t13_8]
          subst hc15
          refine IWp_seqF fun cb hc16 => ?_
          refine IWp_drawP [] [0, 1, 2, 3, 4, 5, 6, 7, 8] (by kernel_rfl) (by kernel_rfl) (fun _ _ _ _ h => h) ?_
          obtain ⟨g17, h⟩ := gd_some.1 h
          try simp -implicitDefEqProofs (disch := omega) at g17
          obtain ⟨g18, h⟩ := gd_some.1 h
          try simp -implicitDefEqProofs (disch := omega) at g18
          simp -implicitDefEqProofs (maxSteps := 1000000) (disch := omega) [go_sem, t0_8, t1_8, t12_8, t13_8]
          subst hc16
          refine IWp_cond_i h (by first | with_reducible rfl | (simp -implicitDefEqProofs (maxSteps := 1000000) (disch := omega) [go_sem, t0_8, t1_8, t12_8, t13_8] <;> omega)) rfl ?_ ?_
          · intro c19 h
            try simp -implicitDefEqProofs (disch := omega) at c19
            refine IWp_seqF fun cb hc20 => ?_
            refine vc_sound _ (by kernel_rfl) _ _ _ ?_
            simp -implicitDefEqProofs (maxSteps := 1000000) (disch := omega) [go_sem, t0_8, t1_8, t12_8, t13_8]
            subst hc20
            refine vc_sound _ (by kernel_rfl) _ _ _ ?_
            simp -implicitDefEqProofs only [go_sem]
            have e8 := Option.some.inj h
            subst e8
            have e8 := hret8 _ rfl
            subst e8
            replace h : some false = some r := hk8
            have er := Option.some.inj h
            subst er
            simp -implicitDefEqProofs (maxSteps := 1000000) (disch := omega) [go_sem, t0_8, t1_8, t12_8, t13_8]
            refine retG_pureE (by repeat (first | exact (Ext.refl hw) | refine Ext.new ?_ _ | refine Ext.set ?_ (by first | omega | (simp [go_sem]; omega)) _ | refine Ext.del ?_ (by first | omega | (simp [go_sem]; omega)))) (by first | with_reducible rfl | (simp -implicitDefEqProofs (maxSteps := 1000000) (disch := omega) [go_sem, t0_8, t1_8, t12_8, t13_8] <;> omega)) ?_ hK
            simp [NB_v, NB_sl, NB_ag, NB_tu]
          · intro c19 h
            try simp -implicitDefEqProofs (disch := omega) at c19
            refine vc_sound _ (by kernel_rfl) _ _ _ ?_
            simp -implicitDefEqProofs only [go_sem]
            subst hc14
            refine vc_sound _ (by kernel_rfl) _ _ _ ?_
            simp -implicitDefEqProofs (maxSteps := 1000000) (disch := omega) [go_sem, t0_8, t1_8, t12_8, t13_8]
            have e8 := Option.some.inj h
            subst e8
            refine loopN_mk hI8 (IntKind.i64.wrap (v9 + 1)) ?_
            refine .same ⟨rfl, by first | with_reducible rfl | assumption | omega | (simp -implicitDefEqProofs (maxSteps := 1000000) (disch := omega) [go_sem, t0_8, t1_8, t12_8, t13_8] <;> omega), by first | with_reducible rfl | assumption | omega | (simp -implicitDefEqProofs (maxSteps := 1000000) (disch := omega) [go_sem, t0_8, t1_8, t12_8, t13_8] <;> omega), by first | with_reducible rfl | assumption | omega | (simp -implicitDefEqProofs (maxSteps := 1000000) (disch := omega) [go_sem, t0_8, t1_8, t12_8, t13_8] <;> omega), by first | with_reducible rfl | assumption | omega | (simp -implicitDefEqProofs (maxSteps := 1000000) (disch := omega) [go_sem, t0_8, t1_8, t12_8, t13_8] <;> omega)⟩
        · intro c13 h
          try simp -implicitDefEqProofs (disch := omega) at c13
          refine vc_sound _ (by kernel_rfl) _ _ _ ?_
          simp -implicitDefEqProofs only [go_sem]
          have e8 := Option.some.inj h
          subst e8
          have hy8 := hret8 _ rfl
          refine hc8 _ _ ?_
          refine .same ⟨hy8, rfl⟩
end Go.Idl
