/- The laws told as functions of Lean, with their walks (printed by a program of this session's). Conditions: none. -/
import Derived.Test.YtdmbcbdcabgifaaDoorFnD
set_option linter.unusedSimpArgs false
set_option linter.unusedVariables false

namespace Go.Idl
open Go Go.Proofs.Tryd

/-! cardcase/contact.Same -/
noncomputable def F15 (a : List (List (List UInt8))) (b : List (List (List UInt8))) : Option Bool :=
  gd (a.length = 8) (gd (b.length = 8) ((F13 a b).bind fun (x5 : List Int) => some (decide ((x5.length : Int) = 0))))

set_option maxHeartbeats 8000000 in
set_option pp.deepTerms false in
set_option maxRecDepth 8000 in
theorem F15_ok {H : IHeap} {K : IEnd → IHeap → Prop} (a : List (List (List UInt8))) (b : List (List (List UInt8))) {r : Bool} (h : F15 a b = some r) (hK : K (.ret (.v (.bool r))) H) : ICalls prog 15 [.ag (a.map fun x => .sl 1 (x.map fun x => [.v (str x)])), .ag (b.map fun x => .sl 1 (x.map fun x => [.v (str x)]))] H K := by
  refine ICalls_iwp (N := 10) func15 (by kernel_rfl) rfl (by kernel_rfl) (by kernel_rfl) fun cb hcb hw hbd hnb => ?_
  clear hbd hnb
  subst hcb
  unfold F15 at h
  refine IWp_seqF fun cb hc1 => ?_
  refine vc_sound _ (by kernel_rfl) _ _ _ ?_
  simp -implicitDefEqProofs (maxSteps := 1000000) (disch := omega) [go_sem]
  subst hc1
  refine IWp_seqF fun cb hc2 => ?_
  refine vc_sound _ (by kernel_rfl) _ _ _ ?_
  obtain ⟨g3, h⟩ := gd_some.1 h
  try simp -implicitDefEqProofs (disch := omega) at g3
  obtain ⟨g4, h⟩ := gd_some.1 h
  try simp -implicitDefEqProofs (disch := omega) at g4
  simp -implicitDefEqProofs (maxSteps := 1000000) (disch := omega) [go_sem, g3, g4]
  obtain ⟨x5, hx5, h⟩ := bind_some' h
  refine ICalls.eqA (args' := [.ag (a.map fun x => .sl 1 (x.map fun x => [.v (str x)])), .ag (b.map fun x => .sl 1 (x.map fun x => [.v (str x)]))]) (by first | with_reducible rfl | (simp -implicitDefEqProofs (maxSteps := 1000000) (disch := omega) [go_sem, g3, g4] <;> omega)) (F13_ok a b hx5 ?_)
  simp -implicitDefEqProofs (maxSteps := 1000000) (disch := omega) [go_sem, g3, g4]
  subst hc2
  refine vc_sound _ (by kernel_rfl) _ _ _ ?_
  simp -implicitDefEqProofs only [go_sem]
  have er := Option.some.inj h
  subst er
  simp -implicitDefEqProofs (maxSteps := 1000000) (disch := omega) [go_sem, g3, g4]
  refine retG_pureE (by repeat (first | exact (Ext.refl hw) | refine Ext.new ?_ _ | refine Ext.set ?_ (by first | omega | (simp [go_sem]; omega)) _ | refine Ext.del ?_ (by first | omega | (simp [go_sem]; omega)))) (by first | with_reducible rfl | (simp -implicitDefEqProofs (maxSteps := 1000000) (disch := omega) [go_sem, g3, g4] <;> omega)) ?_ hK
  simp [NB_v, NB_sl, NB_ag, NB_tu]

/-! cardcase/cardcaselaw16.ContactWith -/
noncomputable def F3 (c : List (List (List UInt8))) (f : Int) (l : List (List UInt8)) : Option Bool :=
  gd (c.length = 8) ((F6 c).bind fun (x5 : Bool) => if ¬ (x5 = true) then ((F8 ).bind fun (x7 : Bool) => some x7) else ((F7 l).bind fun (x8 : Bool) => if ¬ (x8 = true) then ((F8 ).bind fun (x11 : Bool) => some x11) else ((F9 c f l).bind fun (x13 : (List (List (List UInt8))) × Int) => gd (x13.1.length = 8) ((F10 c).bind fun (x17 : Bool) => if ¬ (x17 = true) then ((F11 x13.1 ([[], [], [], [], [], [], [], []])).bind fun (x19 : Bool) => if x19 = true then (if x13.2 = 2 then ((F8 ).bind fun (x20 : Bool) => some x20) else (some false)) else (some false)) else (if f < 0 then ((F11 x13.1 ([[], [], [], [], [], [], [], []])).bind fun (x24 : Bool) => if x24 = true then (if x13.2 = 2 then ((F8 ).bind fun (x25 : Bool) => some x25) else (some false)) else (some false)) else (if 7 < f then ((F11 x13.1 ([[], [], [], [], [], [], [], []])).bind fun (x30 : Bool) => if x30 = true then (if x13.2 = 2 then ((F8 ).bind fun (x31 : Bool) => some x31) else (some false)) else (some false)) else ((F12 f l).bind fun (x36 : List (List UInt8)) => gd (0 ≤ f ∧ f < 8) (gd ((c.set f.toNat x36).length = 8) ((F10 (c.set f.toNat x36)).bind fun (x41 : Bool) => if ¬ (x41 = true) then ((F11 x13.1 ([[], [], [], [], [], [], [], []])).bind fun (x44 : Bool) => if x44 = true then (if x13.2 = 2 then ((F8 ).bind fun (x45 : Bool) => some x45) else (some false)) else (some false)) else (if x13.2 = 0 then ((F11 x13.1 (c.set f.toNat x36)).bind fun (x49 : Bool) => if x49 = true then ((F8 ).bind fun (x50 : Bool) => some x50) else (some false)) else (some false)))))))))))

set_option maxHeartbeats 8000000 in
set_option pp.deepTerms false in
set_option maxRecDepth 8000 in
theorem F3_ok {H : IHeap} {K : IEnd → IHeap → Prop} (c : List (List (List UInt8))) (f : Int) (l : List (List UInt8)) {r : Bool} (h : F3 c f l = some r) (hK : K (.ret (.v (.bool r))) H) : ICalls prog 3 [.ag (c.map fun x => .sl 1 (x.map fun x => [.v (str x)])), .v (.int .i64 f), .sl 1 (l.map fun x => [.v (str x)])] H K := by
  refine ICalls_iwp (N := 76) func3 (by kernel_rfl) rfl (by kernel_rfl) (by kernel_rfl) fun cb hcb hw hbd hnb => ?_
  clear hbd hnb
  subst hcb
  unfold F3 at h
  refine IWp_seqF fun cb hc1 => ?_
  refine vc_sound _ (by kernel_rfl) _ _ _ ?_
  simp -implicitDefEqProofs (maxSteps := 1000000) (disch := omega) [go_sem, bdP]
  subst hc1
  refine IWp_seqF fun cb hc2 => ?_
  refine IWp_seqF fun cb hc3 => ?_
  refine vc_sound _ (by kernel_rfl) _ _ _ ?_
  obtain ⟨g4, h⟩ := gd_some.1 h
  try simp -implicitDefEqProofs (disch := omega) at g4
  simp -implicitDefEqProofs (maxSteps := 1000000) (disch := omega) [go_sem, bdP, g4]
  obtain ⟨x5, hx5, h⟩ := bind_some' h
  refine ICalls.eqA (args' := [.ag (c.map fun x => .sl 1 (x.map fun x => [.v (str x)]))]) (by first | with_reducible rfl | (simp -implicitDefEqProofs (maxSteps := 1000000) (disch := omega) [go_sem, bdP, g4] <;> omega)) (F6_ok c hx5 ?_)
  simp -implicitDefEqProofs (maxSteps := 1000000) (disch := omega) [go_sem, bdP, g4]
  refine splitG_f h (by first | with_reducible rfl | (simp -implicitDefEqProofs (maxSteps := 1000000) (disch := omega) [go_sem, bdP, g4] <;> omega)) ?_ ?_
  · intro c55 h
    try simp -implicitDefEqProofs (disch := omega) at c55
    simp -implicitDefEqProofs (maxSteps := 1000000) (disch := omega) [go_sem, bdP, g4]
    subst hc3
    refine IWp_cond_t (by first | with_reducible rfl | (simp -implicitDefEqProofs (maxSteps := 1000000) (disch := omega) [go_sem, bdP, g4] <;> omega)) rfl ?_
    refine IWp_seqF fun cb hc6 => ?_
    refine vc_sound _ (by kernel_rfl) _ _ _ ?_
    simp -implicitDefEqProofs (maxSteps := 1000000) (disch := omega) [go_sem, bdP, g4]
    obtain ⟨x7, hx7, h⟩ := bind_some' h
    refine ICalls.eqA (args' := []) (by first | with_reducible rfl | (simp -implicitDefEqProofs (maxSteps := 1000000) (disch := omega) [go_sem, bdP, g4] <;> omega)) (F8_ok  hx7 ?_)
    simp -implicitDefEqProofs (maxSteps := 1000000) (disch := omega) [go_sem, bdP, g4]
    subst hc6
    refine vc_sound _ (by kernel_rfl) _ _ _ ?_
    simp -implicitDefEqProofs only [go_sem]
    have er := Option.some.inj h
    subst er
    simp -implicitDefEqProofs (maxSteps := 1000000) (disch := omega) [go_sem, bdP, g4]
    refine retG_pureE (by repeat (first | exact (Ext.refl hw) | refine Ext.new ?_ _ | refine Ext.set ?_ (by first | omega | (simp [go_sem]; omega)) _ | refine Ext.del ?_ (by first | omega | (simp [go_sem]; omega)))) (by first | with_reducible rfl | (simp -implicitDefEqProofs (maxSteps := 1000000) (disch := omega) [go_sem, bdP, g4] <;> omega)) ?_ hK
    simp [NB_v, NB_sl, NB_ag, NB_tu]
  · intro c55 h
    try simp -implicitDefEqProofs (disch := omega) at c55
    simp -implicitDefEqProofs (maxSteps := 1000000) (disch := omega) [go_sem, bdP, g4]
    obtain ⟨x8, hx8, h⟩ := bind_some' h
    refine ICalls.eqA (args' := [.sl 1 (l.map fun x => [.v (str x)])]) (by first | with_reducible rfl | (simp -implicitDefEqProofs (maxSteps := 1000000) (disch := omega) [go_sem, bdP, g4] <;> omega)) (F7_ok l hx8 ?_)
    simp -implicitDefEqProofs (maxSteps := 1000000) (disch := omega) [go_sem, bdP, g4]
    subst hc3
    refine IWp_cond_i h (by first | with_reducible rfl | (simp -implicitDefEqProofs (maxSteps := 1000000) (disch := omega) [go_sem, bdP, g4] <;> omega)) rfl ?_ ?_
    · intro c9 h
      try simp -implicitDefEqProofs (disch := omega) at c9
      refine IWp_seqF fun cb hc10 => ?_
      refine vc_sound _ (by kernel_rfl) _ _ _ ?_
      simp -implicitDefEqProofs (maxSteps := 1000000) (disch := omega) [go_sem, bdP, g4]
      obtain ⟨x11, hx11, h⟩ := bind_some' h
      refine ICalls.eqA (args' := []) (by first | with_reducible rfl | (simp -implicitDefEqProofs (maxSteps := 1000000) (disch := omega) [go_sem, bdP, g4] <;> omega)) (F8_ok  hx11 ?_)
      simp -implicitDefEqProofs (maxSteps := 1000000) (disch := omega) [go_sem, bdP, g4]
      subst hc10
      refine vc_sound _ (by kernel_rfl) _ _ _ ?_
      simp -implicitDefEqProofs only [go_sem]
      have er := Option.some.inj h
      subst er
      simp -implicitDefEqProofs (maxSteps := 1000000) (disch := omega) [go_sem, bdP, g4]
      refine retG_pureE (by repeat (first | exact (Ext.refl hw) | refine Ext.new ?_ _ | refine Ext.set ?_ (by first | omega | (simp [go_sem]; omega)) _ | refine Ext.del ?_ (by first | omega | (simp [go_sem]; omega)))) (by first | with_reducible rfl | (simp -implicitDefEqProofs (maxSteps := 1000000) (disch := omega) [go_sem, bdP, g4] <;> omega)) ?_ hK
      simp [NB_v, NB_sl, NB_ag, NB_tu]
    · intro c9 h
      try simp -implicitDefEqProofs (disch := omega) at c9
      refine vc_sound _ (by kernel_rfl) _ _ _ ?_
      simp -implicitDefEqProofs only [go_sem]
      subst hc2
      refine IWp_seqF fun cb hc12 => ?_
      refine vc_sound _ (by kernel_rfl) _ _ _ ?_
      simp -implicitDefEqProofs (maxSteps := 1000000) (disch := omega) [go_sem, bdP, g4]
      obtain ⟨x13, hx13, h⟩ := bind_some' h
      refine ICalls.eqA (args' := [.ag (c.map fun x => .sl 1 (x.map fun x => [.v (str x)])), .v (.int .i64 f), .sl 1 (l.map fun x => [.v (str x)])]) (by first | with_reducible rfl | (simp -implicitDefEqProofs (maxSteps := 1000000) (disch := omega) [go_sem, bdP, g4] <;> omega)) (F9_ok c f l hx13 ?_)
      obtain ⟨g14, h⟩ := gd_some.1 h
      try simp -implicitDefEqProofs (disch := omega) at g14
      simp -implicitDefEqProofs (maxSteps := 1000000) (disch := omega) [go_sem, bdP, g4, g14]
      subst hc12
      refine IWp_seqF fun cb hc15 => ?_
      refine IWp_seqF fun cb hc16 => ?_
      refine vc_sound _ (by kernel_rfl) _ _ _ ?_
      simp -implicitDefEqProofs (maxSteps := 1000000) (disch := omega) [go_sem, bdP, g4, g14]
      obtain ⟨x17, hx17, h⟩ := bind_some' h
      refine ICalls.eqA (args' := [.ag (c.map fun x => .sl 1 (x.map fun x => [.v (str x)]))]) (by first | with_reducible rfl | (simp -implicitDefEqProofs (maxSteps := 1000000) (disch := omega) [go_sem, bdP, g4, g14] <;> omega)) (F10_ok c hx17 ?_)
      simp -implicitDefEqProofs (maxSteps := 1000000) (disch := omega) [go_sem, bdP, g4, g14]
      refine splitG_f h (by first | with_reducible rfl | (simp -implicitDefEqProofs (maxSteps := 1000000) (disch := omega) [go_sem, bdP, g4, g14] <;> omega)) ?_ ?_
      · intro c54 h
        try simp -implicitDefEqProofs (disch := omega) at c54
        simp -implicitDefEqProofs (maxSteps := 1000000) (disch := omega) [go_sem, bdP, g4, g14]
        subst hc16
        refine IWp_cond_t (by first | with_reducible rfl | (simp -implicitDefEqProofs (maxSteps := 1000000) (disch := omega) [go_sem, bdP, g4, g14] <;> omega)) rfl ?_
        refine IWp_seqF fun cb hc18 => ?_
        refine vc_sound _ (by kernel_rfl) _ _ _ ?_
        simp -implicitDefEqProofs (maxSteps := 1000000) (disch := omega) [go_sem, bdP, g4, g14]
        obtain ⟨x19, hx19, h⟩ := bind_some' h
        refine ICalls.wkL (args' := [.ag (x13.1.map fun x => .sl 1 (x.map fun x => [.v (str x)])), .ag (([[], [], [], [], [], [], [], []]).map fun x => .sl 1 (x.map fun x => [.v (str x)]))]) ?_ (F11_ok x13.1 ([[], [], [], [], [], [], [], []]) hx19 ?_)
        · repeat (first | exact WkL.nil | refine WkL.cons ?_ ?_ | exact Wk.refl _ | exact Wk.nil _ | refine Wk.agL ?_)
        simp -implicitDefEqProofs (maxSteps := 1000000) (disch := omega) [go_sem, bdP, g4, g14]
        refine splitG_f h (by first | with_reducible rfl | (simp -implicitDefEqProofs (maxSteps := 1000000) (disch := omega) [go_sem, bdP, g4, g14] <;> omega)) ?_ ?_
        · intro c22 h
          try simp -implicitDefEqProofs (disch := omega) at c22
          simp -implicitDefEqProofs (maxSteps := 1000000) (disch := omega) [go_sem, bdP, g4, g14]
          refine splitG_f h (by first | with_reducible rfl | (simp -implicitDefEqProofs (maxSteps := 1000000) (disch := omega) [go_sem, bdP, g4, g14] <;> omega)) ?_ ?_
          · intro c21 h
            try simp -implicitDefEqProofs (disch := omega) at c21
            simp -implicitDefEqProofs (maxSteps := 1000000) (disch := omega) [go_sem, bdP, g4, g14]
            obtain ⟨x20, hx20, h⟩ := bind_some' h
            refine ICalls.eqA (args' := []) (by first | with_reducible rfl | (simp -implicitDefEqProofs (maxSteps := 1000000) (disch := omega) [go_sem, bdP, g4, g14] <;> omega)) (F8_ok  hx20 ?_)
            simp -implicitDefEqProofs (maxSteps := 1000000) (disch := omega) [go_sem, bdP, g4, g14]
            subst hc18
            refine vc_sound _ (by kernel_rfl) _ _ _ ?_
            simp -implicitDefEqProofs only [go_sem]
            have er := Option.some.inj h
            subst er
            simp -implicitDefEqProofs (maxSteps := 1000000) (disch := omega) [go_sem, bdP, g4, g14]
            refine retG_pureE (by repeat (first | exact (Ext.refl hw) | refine Ext.new ?_ _ | refine Ext.set ?_ (by first | omega | (simp [go_sem]; omega)) _ | refine Ext.del ?_ (by first | omega | (simp [go_sem]; omega)))) (by first | with_reducible rfl | (simp -implicitDefEqProofs (maxSteps := 1000000) (disch := omega) [go_sem, bdP, g4, g14] <;> omega)) ?_ hK
            simp [NB_v, NB_sl, NB_ag, NB_tu]
          · intro c21 h
            try simp -implicitDefEqProofs (disch := omega) at c21
            simp -implicitDefEqProofs (maxSteps := 1000000) (disch := omega) [go_sem, bdP, g4, g14]
            subst hc18
            refine vc_sound _ (by kernel_rfl) _ _ _ ?_
            simp -implicitDefEqProofs only [go_sem]
            have er := Option.some.inj h
            subst er
            simp -implicitDefEqProofs (maxSteps := 1000000) (disch := omega) [go_sem, bdP, g4, g14]
            refine retG_pureE (by repeat (first | exact (Ext.refl hw) | refine Ext.new ?_ _ | refine Ext.set ?_ (by first | omega | (simp [go_sem]; omega)) _ | refine Ext.del ?_ (by first | omega | (simp [go_sem]; omega)))) (by first | with_reducible rfl | (simp -implicitDefEqProofs (maxSteps := 1000000) (disch := omega) [go_sem, bdP, g4, g14] <;> omega)) ?_ hK
            simp [NB_v, NB_sl, NB_ag, NB_tu]
        · intro c22 h
          try simp -implicitDefEqProofs (disch := omega) at c22
          simp -implicitDefEqProofs (maxSteps := 1000000) (disch := omega) [go_sem, bdP, g4, g14]
          subst hc18
          refine vc_sound _ (by kernel_rfl) _ _ _ ?_
          simp -implicitDefEqProofs only [go_sem]
          have er := Option.some.inj h
          subst er
          simp -implicitDefEqProofs (maxSteps := 1000000) (disch := omega) [go_sem, bdP, g4, g14]
          refine retG_pureE (by repeat (first | exact (Ext.refl hw) | refine Ext.new ?_ _ | refine Ext.set ?_ (by first | omega | (simp [go_sem]; omega)) _ | refine Ext.del ?_ (by first | omega | (simp [go_sem]; omega)))) (by first | with_reducible rfl | (simp -implicitDefEqProofs (maxSteps := 1000000) (disch := omega) [go_sem, bdP, g4, g14] <;> omega)) ?_ hK
          simp [NB_v, NB_sl, NB_ag, NB_tu]
      · intro c54 h
        try simp -implicitDefEqProofs (disch := omega) at c54
        simp -implicitDefEqProofs (maxSteps := 1000000) (disch := omega) [go_sem, bdP, g4, g14]
        refine splitG_f h (by first | with_reducible rfl | (simp -implicitDefEqProofs (maxSteps := 1000000) (disch := omega) [go_sem, bdP, g4, g14] <;> omega)) ?_ ?_
        · intro c53 h
          try simp -implicitDefEqProofs (disch := omega) at c53
          simp -implicitDefEqProofs (maxSteps := 1000000) (disch := omega) [go_sem, bdP, g4, g14]
          subst hc16
          refine IWp_cond_t (by first | with_reducible rfl | (simp -implicitDefEqProofs (maxSteps := 1000000) (disch := omega) [go_sem, bdP, g4, g14] <;> omega)) rfl ?_
          refine IWp_seqF fun cb hc23 => ?_
          refine vc_sound _ (by kernel_rfl) _ _ _ ?_
          simp -implicitDefEqProofs (maxSteps := 1000000) (disch := omega) [go_sem, bdP, g4, g14]
          obtain ⟨x24, hx24, h⟩ := bind_some' h
          refine ICalls.wkL (args' := [.ag (x13.1.map fun x => .sl 1 (x.map fun x => [.v (str x)])), .ag (([[], [], [], [], [], [], [], []]).map fun x => .sl 1 (x.map fun x => [.v (str x)]))]) ?_ (F11_ok x13.1 ([[], [], [], [], [], [], [], []]) hx24 ?_)
          · repeat (first | exact WkL.nil | refine WkL.cons ?_ ?_ | exact Wk.refl _ | exact Wk.nil _ | refine Wk.agL ?_)
          simp -implicitDefEqProofs (maxSteps := 1000000) (disch := omega) [go_sem, bdP, g4, g14]
          refine splitG_f h (by first | with_reducible rfl | (simp -implicitDefEqProofs (maxSteps := 1000000) (disch := omega) [go_sem, bdP, g4, g14] <;> omega)) ?_ ?_
          · intro c27 h
            try simp -implicitDefEqProofs (disch := omega) at c27
            simp -implicitDefEqProofs (maxSteps := 1000000) (disch := omega) [go_sem, bdP, g4, g14]
            refine splitG_f h (by first | with_reducible rfl | (simp -implicitDefEqProofs (maxSteps := 1000000) (disch := omega) [go_sem, bdP, g4, g14] <;> omega)) ?_ ?_
            · intro c26 h
              try simp -implicitDefEqProofs (disch := omega) at c26
              simp -implicitDefEqProofs (maxSteps := 1000000) (disch := omega) [go_sem, bdP, g4, g14]
              obtain ⟨x25, hx25, h⟩ := bind_some' h
              refine ICalls.eqA (args' := []) (by first | with_reducible rfl | (simp -implicitDefEqProofs (maxSteps := 1000000) (disch := omega) [go_sem, bdP, g4, g14] <;> omega)) (F8_ok  hx25 ?_)
              simp -implicitDefEqProofs (maxSteps := 1000000) (disch := omega) [go_sem, bdP, g4, g14]
              subst hc23
              refine vc_sound _ (by kernel_rfl) _ _ _ ?_
              simp -implicitDefEqProofs only [go_sem]
              have er := Option.some.inj h
              subst er
              simp -implicitDefEqProofs (maxSteps := 1000000) (disch := omega) [go_sem, bdP, g4, g14]
              refine retG_pureE (by repeat (first | exact (Ext.refl hw) | refine Ext.new ?_ _ | refine Ext.set ?_ (by first | omega | (simp [go_sem]; omega)) _ | refine Ext.del ?_ (by first | omega | (simp [go_sem]; omega)))) (by first | with_reducible rfl | (simp -implicitDefEqProofs (maxSteps := 1000000) (disch := omega) [go_sem, bdP, g4, g14] <;> omega)) ?_ hK
              simp [NB_v, NB_sl, NB_ag, NB_tu]
            · intro c26 h
              try simp -implicitDefEqProofs (disch := omega) at c26
              simp -implicitDefEqProofs (maxSteps := 1000000) (disch := omega) [go_sem, bdP, g4, g14]
              subst hc23
              refine vc_sound _ (by kernel_rfl) _ _ _ ?_
              simp -implicitDefEqProofs only [go_sem]
              have er := Option.some.inj h
              subst er
              simp -implicitDefEqProofs (maxSteps := 1000000) (disch := omega) [go_sem, bdP, g4, g14]
              refine retG_pureE (by repeat (first | exact (Ext.refl hw) | refine Ext.new ?_ _ | refine Ext.set ?_ (by first | omega | (simp [go_sem]; omega)) _ | refine Ext.del ?_ (by first | omega | (simp [go_sem]; omega)))) (by first | with_reducible rfl | (simp -implicitDefEqProofs (maxSteps := 1000000) (disch := omega) [go_sem, bdP, g4, g14] <;> omega)) ?_ hK
              simp [NB_v, NB_sl, NB_ag, NB_tu]
          · intro c27 h
            try simp -implicitDefEqProofs (disch := omega) at c27
            simp -implicitDefEqProofs (maxSteps := 1000000) (disch := omega) [go_sem, bdP, g4, g14]
            subst hc23
            refine vc_sound _ (by kernel_rfl) _ _ _ ?_
            simp -implicitDefEqProofs only [go_sem]
            have er := Option.some.inj h
            subst er
            simp -implicitDefEqProofs (maxSteps := 1000000) (disch := omega) [go_sem, bdP, g4, g14]
            refine retG_pureE (by repeat (first | exact (Ext.refl hw) | refine Ext.new ?_ _ | refine Ext.set ?_ (by first | omega | (simp [go_sem]; omega)) _ | refine Ext.del ?_ (by first | omega | (simp [go_sem]; omega)))) (by first | with_reducible rfl | (simp -implicitDefEqProofs (maxSteps := 1000000) (disch := omega) [go_sem, bdP, g4, g14] <;> omega)) ?_ hK
            simp [NB_v, NB_sl, NB_ag, NB_tu]
        · intro c53 h
          try simp -implicitDefEqProofs (disch := omega) at c53
          simp -implicitDefEqProofs (maxSteps := 1000000) (disch := omega) [go_sem, bdP, g4, g14]
          subst hc16
          refine IWp_cond_i h (by first | with_reducible rfl | (simp -implicitDefEqProofs (maxSteps := 1000000) (disch := omega) [go_sem, bdP, g4, g14] <;> omega)) rfl ?_ ?_
          · intro c28 h
            try simp -implicitDefEqProofs (disch := omega) at c28
            refine IWp_seqF fun cb hc29 => ?_
            refine vc_sound _ (by kernel_rfl) _ _ _ ?_
            simp -implicitDefEqProofs (maxSteps := 1000000) (disch := omega) [go_sem, bdP, g4, g14]
            obtain ⟨x30, hx30, h⟩ := bind_some' h
            refine ICalls.wkL (args' := [.ag (x13.1.map fun x => .sl 1 (x.map fun x => [.v (str x)])), .ag (([[], [], [], [], [], [], [], []]).map fun x => .sl 1 (x.map fun x => [.v (str x)]))]) ?_ (F11_ok x13.1 ([[], [], [], [], [], [], [], []]) hx30 ?_)
            · repeat (first | exact WkL.nil | refine WkL.cons ?_ ?_ | exact Wk.refl _ | exact Wk.nil _ | refine Wk.agL ?_)
            simp -implicitDefEqProofs (maxSteps := 1000000) (disch := omega) [go_sem, bdP, g4, g14]
            refine splitG_f h (by first | with_reducible rfl | (simp -implicitDefEqProofs (maxSteps := 1000000) (disch := omega) [go_sem, bdP, g4, g14] <;> omega)) ?_ ?_
            · intro c33 h
              try simp -implicitDefEqProofs (disch := omega) at c33
              simp -implicitDefEqProofs (maxSteps := 1000000) (disch := omega) [go_sem, bdP, g4, g14]
              refine splitG_f h (by first | with_reducible rfl | (simp -implicitDefEqProofs (maxSteps := 1000000) (disch := omega) [go_sem, bdP, g4, g14] <;> omega)) ?_ ?_
              · intro c32 h
                try simp -implicitDefEqProofs (disch := omega) at c32
                simp -implicitDefEqProofs (maxSteps := 1000000) (disch := omega) [go_sem, bdP, g4, g14]
                obtain ⟨x31, hx31, h⟩ := bind_some' h
                refine ICalls.eqA (args' := []) (by first | with_reducible rfl | (simp -implicitDefEqProofs (maxSteps := 1000000) (disch := omega) [go_sem, bdP, g4, g14] <;> omega)) (F8_ok  hx31 ?_)
                simp -implicitDefEqProofs (maxSteps := 1000000) (disch := omega) [go_sem, bdP, g4, g14]
                subst hc29
                refine vc_sound _ (by kernel_rfl) _ _ _ ?_
                simp -implicitDefEqProofs only [go_sem]
                have er := Option.some.inj h
                subst er
                simp -implicitDefEqProofs (maxSteps := 1000000) (disch := omega) [go_sem, bdP, g4, g14]
                refine retG_pureE (by repeat (first | exact (Ext.refl hw) | refine Ext.new ?_ _ | refine Ext.set ?_ (by first | omega | (simp [go_sem]; omega)) _ | refine Ext.del ?_ (by first | omega | (simp [go_sem]; omega)))) (by first | with_reducible rfl | (simp -implicitDefEqProofs (maxSteps := 1000000) (disch := omega) [go_sem, bdP, g4, g14] <;> omega)) ?_ hK
                simp [NB_v, NB_sl, NB_ag, NB_tu]
              · intro c32 h
                try simp -implicitDefEqProofs (disch := omega) at c32
                simp -implicitDefEqProofs (maxSteps := 1000000) (disch := omega) [go_sem, bdP, g4, g14]
                subst hc29
                refine vc_sound _ (by kernel_rfl) _ _ _ ?_
                simp -implicitDefEqProofs only [go_sem]
                have er := Option.some.inj h
                subst er
                simp -implicitDefEqProofs (maxSteps := 1000000) (disch := omega) [go_sem, bdP, g4, g14]
                refine retG_pureE (by repeat (first | exact (Ext.refl hw) | refine Ext.new ?_ _ | refine Ext.set ?_ (by first | omega | (simp [go_sem]; omega)) _ | refine Ext.del ?_ (by first | omega | (simp [go_sem]; omega)))) (by first | with_reducible rfl | (simp -implicitDefEqProofs (maxSteps := 1000000) (disch := omega) [go_sem, bdP, g4, g14] <;> omega)) ?_ hK
                simp [NB_v, NB_sl, NB_ag, NB_tu]
            · intro c33 h
              try simp -implicitDefEqProofs (disch := omega) at c33
              simp -implicitDefEqProofs (maxSteps := 1000000) (disch := omega) [go_sem, bdP, g4, g14]
              subst hc29
              refine vc_sound _ (by kernel_rfl) _ _ _ ?_
              simp -implicitDefEqProofs only [go_sem]
              have er := Option.some.inj h
              subst er
              simp -implicitDefEqProofs (maxSteps := 1000000) (disch := omega) [go_sem, bdP, g4, g14]
              refine retG_pureE (by repeat (first | exact (Ext.refl hw) | refine Ext.new ?_ _ | refine Ext.set ?_ (by first | omega | (simp [go_sem]; omega)) _ | refine Ext.del ?_ (by first | omega | (simp [go_sem]; omega)))) (by first | with_reducible rfl | (simp -implicitDefEqProofs (maxSteps := 1000000) (disch := omega) [go_sem, bdP, g4, g14] <;> omega)) ?_ hK
              simp [NB_v, NB_sl, NB_ag, NB_tu]
          · intro c28 h
            try simp -implicitDefEqProofs (disch := omega) at c28
            refine vc_sound _ (by kernel_rfl) _ _ _ ?_
            simp -implicitDefEqProofs only [go_sem]
            subst hc15
            refine IWp_seqF fun cb hc34 => ?_
            refine vc_sound _ (by kernel_rfl) _ _ _ ?_
            simp -implicitDefEqProofs (maxSteps := 1000000) (disch := omega) [go_sem, bdP, g4, g14]
            subst hc34
            refine IWp_seqF fun cb hc35 => ?_
            refine vc_sound _ (by kernel_rfl) _ _ _ ?_
            simp -implicitDefEqProofs (maxSteps := 1000000) (disch := omega) [go_sem, bdP, g4, g14]
            obtain ⟨x36, hx36, h⟩ := bind_some' h
            refine ICalls.eqA (args' := [.v (.int .i64 f), .sl 1 (l.map fun x => [.v (str x)])]) (by first | with_reducible rfl | (simp -implicitDefEqProofs (maxSteps := 1000000) (disch := omega) [go_sem, bdP, g4, g14] <;> omega)) (F12_ok f l hx36 ?_)
            obtain ⟨g37, h⟩ := gd_some.1 h
            try simp -implicitDefEqProofs (disch := omega) at g37
            simp -implicitDefEqProofs (maxSteps := 1000000) (disch := omega) [go_sem, bdP, g4, g14]
            subst hc35
            refine IWp_seqF fun cb hc38 => ?_
            refine IWp_seqF fun cb hc39 => ?_
            refine vc_sound _ (by kernel_rfl) _ _ _ ?_
            obtain ⟨g40, h⟩ := gd_some.1 h
            try simp -implicitDefEqProofs (disch := omega) at g40
            simp -implicitDefEqProofs (maxSteps := 1000000) (disch := omega) [go_sem, bdP, g4, g14, g40]
            obtain ⟨x41, hx41, h⟩ := bind_some' h
            refine ICalls.eqA (args' := [.ag ((c.set f.toNat x36).map fun x => .sl 1 (x.map fun x => [.v (str x)]))]) (by first | with_reducible rfl | (simp -implicitDefEqProofs (maxSteps := 1000000) (disch := omega) [go_sem, bdP, g4, g14, g40] <;> omega)) (F10_ok (c.set f.toNat x36) hx41 ?_)
            simp -implicitDefEqProofs (maxSteps := 1000000) (disch := omega) [go_sem, bdP, g4, g14, g40]
            subst hc39
            refine IWp_cond_i h (by first | with_reducible rfl | (simp -implicitDefEqProofs (maxSteps := 1000000) (disch := omega) [go_sem, bdP, g4, g14, g40] <;> omega)) rfl ?_ ?_
            · intro c42 h
              try simp -implicitDefEqProofs (disch := omega) at c42
              refine IWp_seqF fun cb hc43 => ?_
              refine vc_sound _ (by kernel_rfl) _ _ _ ?_
              simp -implicitDefEqProofs (maxSteps := 1000000) (disch := omega) [go_sem, bdP, g4, g14, g40]
              obtain ⟨x44, hx44, h⟩ := bind_some' h
              refine ICalls.wkL (args' := [.ag (x13.1.map fun x => .sl 1 (x.map fun x => [.v (str x)])), .ag (([[], [], [], [], [], [], [], []]).map fun x => .sl 1 (x.map fun x => [.v (str x)]))]) ?_ (F11_ok x13.1 ([[], [], [], [], [], [], [], []]) hx44 ?_)
              · repeat (first | exact WkL.nil | refine WkL.cons ?_ ?_ | exact Wk.refl _ | exact Wk.nil _ | refine Wk.agL ?_)
              simp -implicitDefEqProofs (maxSteps := 1000000) (disch := omega) [go_sem, bdP, g4, g14, g40]
              refine splitG_f h (by first | with_reducible rfl | (simp -implicitDefEqProofs (maxSteps := 1000000) (disch := omega) [go_sem, bdP, g4, g14, g40] <;> omega)) ?_ ?_
              · intro c47 h
                try simp -implicitDefEqProofs (disch := omega) at c47
                simp -implicitDefEqProofs (maxSteps := 1000000) (disch := omega) [go_sem, bdP, g4, g14, g40]
                refine splitG_f h (by first | with_reducible rfl | (simp -implicitDefEqProofs (maxSteps := 1000000) (disch := omega) [go_sem, bdP, g4, g14, g40] <;> omega)) ?_ ?_
                · intro c46 h
                  try simp -implicitDefEqProofs (disch := omega) at c46
                  simp -implicitDefEqProofs (maxSteps := 1000000) (disch := omega) [go_sem, bdP, g4, g14, g40]
                  obtain ⟨x45, hx45, h⟩ := bind_some' h
                  refine ICalls.eqA (args' := []) (by first | with_reducible rfl | (simp -implicitDefEqProofs (maxSteps := 1000000) (disch := omega) [go_sem, bdP, g4, g14, g40] <;> omega)) (F8_ok  hx45 ?_)
                  simp -implicitDefEqProofs (maxSteps := 1000000) (disch := omega) [go_sem, bdP, g4, g14, g40]
                  subst hc43
                  refine vc_sound _ (by kernel_rfl) _ _ _ ?_
                  simp -implicitDefEqProofs only [go_sem]
                  have er := Option.some.inj h
                  subst er
                  simp -implicitDefEqProofs (maxSteps := 1000000) (disch := omega) [go_sem, bdP, g4, g14, g40]
                  refine retG_pureE (by repeat (first | exact (Ext.refl hw) | refine Ext.new ?_ _ | refine Ext.set ?_ (by first | omega | (simp [go_sem]; omega)) _ | refine Ext.del ?_ (by first | omega | (simp [go_sem]; omega)))) (by first | with_reducible rfl | (simp -implicitDefEqProofs (maxSteps := 1000000) (disch := omega) [go_sem, bdP, g4, g14, g40] <;> omega)) ?_ hK
                  simp [NB_v, NB_sl, NB_ag, NB_tu]
                · intro c46 h
                  try simp -implicitDefEqProofs (disch := omega) at c46
                  simp -implicitDefEqProofs (maxSteps := 1000000) (disch := omega) [go_sem, bdP, g4, g14, g40]
                  subst hc43
                  refine vc_sound _ (by kernel_rfl) _ _ _ ?_
                  simp -implicitDefEqProofs only [go_sem]
                  have er := Option.some.inj h
                  subst er
                  simp -implicitDefEqProofs (maxSteps := 1000000) (disch := omega) [go_sem, bdP, g4, g14, g40]
                  refine retG_pureE (by repeat (first | exact (Ext.refl hw) | refine Ext.new ?_ _ | refine Ext.set ?_ (by first | omega | (simp [go_sem]; omega)) _ | refine Ext.del ?_ (by first | omega | (simp [go_sem]; omega)))) (by first | with_reducible rfl | (simp -implicitDefEqProofs (maxSteps := 1000000) (disch := omega) [go_sem, bdP, g4, g14, g40] <;> omega)) ?_ hK
                  simp [NB_v, NB_sl, NB_ag, NB_tu]
              · intro c47 h
                try simp -implicitDefEqProofs (disch := omega) at c47
                simp -implicitDefEqProofs (maxSteps := 1000000) (disch := omega) [go_sem, bdP, g4, g14, g40]
                subst hc43
                refine vc_sound _ (by kernel_rfl) _ _ _ ?_
                simp -implicitDefEqProofs only [go_sem]
                have er := Option.some.inj h
                subst er
                simp -implicitDefEqProofs (maxSteps := 1000000) (disch := omega) [go_sem, bdP, g4, g14, g40]
                refine retG_pureE (by repeat (first | exact (Ext.refl hw) | refine Ext.new ?_ _ | refine Ext.set ?_ (by first | omega | (simp [go_sem]; omega)) _ | refine Ext.del ?_ (by first | omega | (simp [go_sem]; omega)))) (by first | with_reducible rfl | (simp -implicitDefEqProofs (maxSteps := 1000000) (disch := omega) [go_sem, bdP, g4, g14, g40] <;> omega)) ?_ hK
                simp [NB_v, NB_sl, NB_ag, NB_tu]
            · intro c42 h
              try simp -implicitDefEqProofs (disch := omega) at c42
              refine vc_sound _ (by kernel_rfl) _ _ _ ?_
              simp -implicitDefEqProofs only [go_sem]
              subst hc38
              refine IWp_seqF fun cb hc48 => ?_
              refine vc_sound _ (by kernel_rfl) _ _ _ ?_
              simp -implicitDefEqProofs (maxSteps := 1000000) (disch := omega) [go_sem, bdP, g4, g14, g40]
              refine splitG_f h (by first | with_reducible rfl | (simp -implicitDefEqProofs (maxSteps := 1000000) (disch := omega) [go_sem, bdP, g4, g14, g40] <;> omega)) ?_ ?_
              · intro c52 h
                try simp -implicitDefEqProofs (disch := omega) at c52
                simp -implicitDefEqProofs (maxSteps := 1000000) (disch := omega) [go_sem, bdP, g4, g14, g40]
                obtain ⟨x49, hx49, h⟩ := bind_some' h
                refine ICalls.eqA (args' := [.ag (x13.1.map fun x => .sl 1 (x.map fun x => [.v (str x)])), .ag ((c.set f.toNat x36).map fun x => .sl 1 (x.map fun x => [.v (str x)]))]) (by first | with_reducible rfl | (simp -implicitDefEqProofs (maxSteps := 1000000) (disch := omega) [go_sem, bdP, g4, g14, g40] <;> omega)) (F11_ok x13.1 (c.set f.toNat x36) hx49 ?_)
                simp -implicitDefEqProofs (maxSteps := 1000000) (disch := omega) [go_sem, bdP, g4, g14, g40]
                refine splitG_f h (by first | with_reducible rfl | (simp -implicitDefEqProofs (maxSteps := 1000000) (disch := omega) [go_sem, bdP, g4, g14, g40] <;> omega)) ?_ ?_
                · intro c51 h
                  try simp -implicitDefEqProofs (disch := omega) at c51
                  simp -implicitDefEqProofs (maxSteps := 1000000) (disch := omega) [go_sem, bdP, g4, g14, g40]
                  obtain ⟨x50, hx50, h⟩ := bind_some' h
                  refine ICalls.eqA (args' := []) (by first | with_reducible rfl | (simp -implicitDefEqProofs (maxSteps := 1000000) (disch := omega) [go_sem, bdP, g4, g14, g40] <;> omega)) (F8_ok  hx50 ?_)
                  simp -implicitDefEqProofs (maxSteps := 1000000) (disch := omega) [go_sem, bdP, g4, g14, g40]
                  subst hc48
                  refine vc_sound _ (by kernel_rfl) _ _ _ ?_
                  simp -implicitDefEqProofs only [go_sem]
                  have er := Option.some.inj h
                  subst er
                  simp -implicitDefEqProofs (maxSteps := 1000000) (disch := omega) [go_sem, bdP, g4, g14, g40]
                  refine retG_pureE (by repeat (first | exact (Ext.refl hw) | refine Ext.new ?_ _ | refine Ext.set ?_ (by first | omega | (simp [go_sem]; omega)) _ | refine Ext.del ?_ (by first | omega | (simp [go_sem]; omega)))) (by first | with_reducible rfl | (simp -implicitDefEqProofs (maxSteps := 1000000) (disch := omega) [go_sem, bdP, g4, g14, g40] <;> omega)) ?_ hK
                  simp [NB_v, NB_sl, NB_ag, NB_tu]
                · intro c51 h
                  try simp -implicitDefEqProofs (disch := omega) at c51
                  simp -implicitDefEqProofs (maxSteps := 1000000) (disch := omega) [go_sem, bdP, g4, g14, g40]
                  subst hc48
                  refine vc_sound _ (by kernel_rfl) _ _ _ ?_
                  simp -implicitDefEqProofs only [go_sem]
                  have er := Option.some.inj h
                  subst er
                  simp -implicitDefEqProofs (maxSteps := 1000000) (disch := omega) [go_sem, bdP, g4, g14, g40]
                  refine retG_pureE (by repeat (first | exact (Ext.refl hw) | refine Ext.new ?_ _ | refine Ext.set ?_ (by first | omega | (simp [go_sem]; omega)) _ | refine Ext.del ?_ (by first | omega | (simp [go_sem]; omega)))) (by first | with_reducible rfl | (simp -implicitDefEqProofs (maxSteps := 1000000) (disch := omega) [go_sem, bdP, g4, g14, g40] <;> omega)) ?_ hK
                  simp [NB_v, NB_sl, NB_ag, NB_tu]
              · intro c52 h
                try simp -implicitDefEqProofs (disch := omega) at c52
                simp -implicitDefEqProofs (maxSteps := 1000000) (disch := omega) [go_sem, bdP, g4, g14, g40]
                subst hc48
                refine vc_sound _ (by kernel_rfl) _ _ _ ?_
                simp -implicitDefEqProofs only [go_sem]
                have er := Option.some.inj h
                subst er
                simp -implicitDefEqProofs (maxSteps := 1000000) (disch := omega) [go_sem, bdP, g4, g14, g40]
                refine retG_pureE (by repeat (first | exact (Ext.refl hw) | refine Ext.new ?_ _ | refine Ext.set ?_ (by first | omega | (simp [go_sem]; omega)) _ | refine Ext.del ?_ (by first | omega | (simp [go_sem]; omega)))) (by first | with_reducible rfl | (simp -implicitDefEqProofs (maxSteps := 1000000) (disch := omega) [go_sem, bdP, g4, g14, g40] <;> omega)) ?_ hK
                simp [NB_v, NB_sl, NB_ag, NB_tu]
end Go.Idl

namespace Go.Idl
open Go Go.Proofs.Tryd

/-! cardcase/cardcaselaw16.ContactOther -/
noncomputable def F5_k26 (c : List (List (List UInt8))) (f : Int) (x17 : (List (List (List UInt8))) × Int) : Option Bool :=
  gd (0 ≤ f ∧ f < 8) ((F9 c f (c.getD f.toNat [])).bind fun (x30 : (List (List (List UInt8))) × Int) => gd (x30.1.length = 8) ((F13 x17.1 c).bind fun (x33 : List Int) => if x30.2 = 0 then ((F15 x30.1 c).bind fun (x35 : Bool) => if x35 = true then (if (x33.length : Int) ≤ 1 then (if (x33.length : Int) = 0 then ((F8 ).bind fun (x36 : Bool) => some x36) else (gd (0 < x33.length) (if (x33.getD 0 0) = f then ((F8 ).bind fun (x38 : Bool) => some x38) else (some false)))) else (some false)) else (some false)) else (some false)))

noncomputable def F5_b26 (c : List (List (List UInt8))) (f : Int) (x17 : (List (List (List UInt8))) × Int) (v27 : Int) : Option (Int ⊕ (Unit ⊕ Bool)) :=
  if v27 < 8 then (if ¬ v27 = f then (gd (0 ≤ v27 ∧ v27 < 8) ((F17 (x17.1.getD v27.toNat []) (c.getD v27.toNat [])).bind fun (x50 : Bool) => if ¬ (x50 = true) then (some (.inr (.inr false))) else (some (.inl (IntKind.i64.wrap (v27 + 1)))))) else (some (.inl (IntKind.i64.wrap (v27 + 1))))) else (some (.inr (.inl ())))

noncomputable def F5 (c : List (List (List UInt8))) (f : Int) (l : List (List UInt8)) : Option Bool :=
  gd (c.length = 8) ((F6 c).bind fun (x5 : Bool) => if ¬ (x5 = true) then ((F8 ).bind fun (x7 : Bool) => some x7) else ((F7 l).bind fun (x8 : Bool) => if ¬ (x8 = true) then ((F8 ).bind fun (x10 : Bool) => some x10) else (if f < 0 then ((F8 ).bind fun (x12 : Bool) => some x12) else (if 7 < f then ((F8 ).bind fun (x15 : Bool) => some x15) else ((F9 c f l).bind fun (x17 : (List (List (List UInt8))) × Int) => gd (x17.1.length = 8) (if ¬ x17.2 = 0 then ((F8 ).bind fun (x23 : Bool) => some x23) else ((loopO (fun (s : Int) => F5_b26 c f x17 s) 0).bind fun y => Sum.elim (fun (e : Unit) => F5_k26 c f x17) (fun (q : Bool) => some q) y)))))))

set_option maxHeartbeats 8000000 in
set_option pp.deepTerms false in
set_option maxRecDepth 8000 in
theorem F5_ok {H : IHeap} {K : IEnd → IHeap → Prop} (c : List (List (List UInt8))) (f : Int) (l : List (List UInt8)) {r : Bool} (h : F5 c f l = some r) (hK : K (.ret (.v (.bool r))) H) : ICalls prog 5 [.ag (c.map fun x => .sl 1 (x.map fun x => [.v (str x)])), .v (.int .i64 f), .sl 1 (l.map fun x => [.v (str x)])] H K := by
  refine ICalls_iwp (N := 96) func5 (by kernel_rfl) rfl (by kernel_rfl) (by kernel_rfl) fun cb hcb hw hbd hnb => ?_
  clear hbd hnb
  subst hcb
  unfold F5 at h
  refine IWp_seqF fun cb hc1 => ?_
  refine vc_sound _ (by kernel_rfl) _ _ _ ?_
  simp -implicitDefEqProofs (maxSteps := 1000000) (disch := omega) [go_sem]
  subst hc1
  refine IWp_seqF fun cb hc2 => ?_
  refine IWp_seqF fun cb hc3 => ?_
  refine vc_sound _ (by kernel_rfl) _ _ _ ?_
  obtain ⟨g4, h⟩ := gd_some.1 h
  try simp -implicitDefEqProofs (disch := omega) at g4
  simp -implicitDefEqProofs (maxSteps := 1000000) (disch := omega) [go_sem, g4]
  obtain ⟨x5, hx5, h⟩ := bind_some' h
  refine ICalls.eqA (args' := [.ag (c.map fun x => .sl 1 (x.map fun x => [.v (str x)]))]) (by first | with_reducible rfl | (simp -implicitDefEqProofs (maxSteps := 1000000) (disch := omega) [go_sem, g4] <;> omega)) (F6_ok c hx5 ?_)
  simp -implicitDefEqProofs (maxSteps := 1000000) (disch := omega) [go_sem, g4]
  refine splitG_f h (by first | with_reducible rfl | (simp -implicitDefEqProofs (maxSteps := 1000000) (disch := omega) [go_sem, g4] <;> omega)) ?_ ?_
  · intro c56 h
    try simp -implicitDefEqProofs (disch := omega) at c56
    simp -implicitDefEqProofs (maxSteps := 1000000) (disch := omega) [go_sem, g4]
    subst hc3
    refine IWp_cond_t (by first | with_reducible rfl | (simp -implicitDefEqProofs (maxSteps := 1000000) (disch := omega) [go_sem, g4] <;> omega)) rfl ?_
    refine IWp_seqF fun cb hc6 => ?_
    refine vc_sound _ (by kernel_rfl) _ _ _ ?_
    simp -implicitDefEqProofs (maxSteps := 1000000) (disch := omega) [go_sem, g4]
    obtain ⟨x7, hx7, h⟩ := bind_some' h
    refine ICalls.eqA (args' := []) (by first | with_reducible rfl | (simp -implicitDefEqProofs (maxSteps := 1000000) (disch := omega) [go_sem, g4] <;> omega)) (F8_ok  hx7 ?_)
    simp -implicitDefEqProofs (maxSteps := 1000000) (disch := omega) [go_sem, g4]
    subst hc6
    refine vc_sound _ (by kernel_rfl) _ _ _ ?_
    simp -implicitDefEqProofs only [go_sem]
    have er := Option.some.inj h
    subst er
    simp -implicitDefEqProofs (maxSteps := 1000000) (disch := omega) [go_sem, g4]
    refine retG_pureE (by repeat (first | exact (Ext.refl hw) | refine Ext.new ?_ _ | refine Ext.set ?_ (by first | omega | (simp [go_sem]; omega)) _ | refine Ext.del ?_ (by first | omega | (simp [go_sem]; omega)))) (by first | with_reducible rfl | (simp -implicitDefEqProofs (maxSteps := 1000000) (disch := omega) [go_sem, g4] <;> omega)) ?_ hK
    simp [NB_v, NB_sl, NB_ag, NB_tu]
  · intro c56 h
    try simp -implicitDefEqProofs (disch := omega) at c56
    simp -implicitDefEqProofs (maxSteps := 1000000) (disch := omega) [go_sem, g4]
    obtain ⟨x8, hx8, h⟩ := bind_some' h
    refine ICalls.eqA (args' := [.sl 1 (l.map fun x => [.v (str x)])]) (by first | with_reducible rfl | (simp -implicitDefEqProofs (maxSteps := 1000000) (disch := omega) [go_sem, g4] <;> omega)) (F7_ok l hx8 ?_)
    simp -implicitDefEqProofs (maxSteps := 1000000) (disch := omega) [go_sem, g4]
    refine splitG_f h (by first | with_reducible rfl | (simp -implicitDefEqProofs (maxSteps := 1000000) (disch := omega) [go_sem, g4] <;> omega)) ?_ ?_
    · intro c55 h
      try simp -implicitDefEqProofs (disch := omega) at c55
      simp -implicitDefEqProofs (maxSteps := 1000000) (disch := omega) [go_sem, g4]
      subst hc3
      refine IWp_cond_t (by first | with_reducible rfl | (simp -implicitDefEqProofs (maxSteps := 1000000) (disch := omega) [go_sem, g4] <;> omega)) rfl ?_
      refine IWp_seqF fun cb hc9 => ?_
      refine vc_sound _ (by kernel_rfl) _ _ _ ?_
      simp -implicitDefEqProofs (maxSteps := 1000000) (disch := omega) [go_sem, g4]
      obtain ⟨x10, hx10, h⟩ := bind_some' h
      refine ICalls.eqA (args' := []) (by first | with_reducible rfl | (simp -implicitDefEqProofs (maxSteps := 1000000) (disch := omega) [go_sem, g4] <;> omega)) (F8_ok  hx10 ?_)
      simp -implicitDefEqProofs (maxSteps := 1000000) (disch := omega) [go_sem, g4]
      subst hc9
      refine vc_sound _ (by kernel_rfl) _ _ _ ?_
      simp -implicitDefEqProofs only [go_sem]
      have er := Option.some.inj h
      subst er
      simp -implicitDefEqProofs (maxSteps := 1000000) (disch := omega) [go_sem, g4]
      refine retG_pureE (by repeat (first | exact (Ext.refl hw) | refine Ext.new ?_ _ | refine Ext.set ?_ (by first | omega | (simp [go_sem]; omega)) _ | refine Ext.del ?_ (by first | omega | (simp [go_sem]; omega)))) (by first | with_reducible rfl | (simp -implicitDefEqProofs (maxSteps := 1000000) (disch := omega) [go_sem, g4] <;> omega)) ?_ hK
      simp [NB_v, NB_sl, NB_ag, NB_tu]
    · intro c55 h
      try simp -implicitDefEqProofs (disch := omega) at c55
      simp -implicitDefEqProofs (maxSteps := 1000000) (disch := omega) [go_sem, g4]
      refine splitG_f h (by first | with_reducible rfl | (simp -implicitDefEqProofs (maxSteps := 1000000) (disch := omega) [go_sem, g4] <;> omega)) ?_ ?_
      · intro c54 h
        try simp -implicitDefEqProofs (disch := omega) at c54
        simp -implicitDefEqProofs (maxSteps := 1000000) (disch := omega) [go_sem, g4]
        subst hc3
        refine IWp_cond_t (by first | with_reducible rfl | (simp -implicitDefEqProofs (maxSteps := 1000000) (disch := omega) [go_sem, g4] <;> omega)) rfl ?_
        refine IWp_seqF fun cb hc11 => ?_
        refine vc_sound _ (by kernel_rfl) _ _ _ ?_
        simp -implicitDefEqProofs (maxSteps := 1000000) (disch := omega) [go_sem, g4]
        obtain ⟨x12, hx12, h⟩ := bind_some' h
        refine ICalls.eqA (args' := []) (by first | with_reducible rfl | (simp -implicitDefEqProofs (maxSteps := 1000000) (disch := omega) [go_sem, g4] <;> omega)) (F8_ok  hx12 ?_)
        simp -implicitDefEqProofs (maxSteps := 1000000) (disch := omega) [go_sem, g4]
        subst hc11
        refine vc_sound _ (by kernel_rfl) _ _ _ ?_
        simp -implicitDefEqProofs only [go_sem]
        have er := Option.some.inj h
        subst er
        simp -implicitDefEqProofs (maxSteps := 1000000) (disch := omega) [go_sem, g4]
        refine retG_pureE (by repeat (first | exact (Ext.refl hw) | refine Ext.new ?_ _ | refine Ext.set ?_ (by first | omega | (simp [go_sem]; omega)) _ | refine Ext.del ?_ (by first | omega | (simp [go_sem]; omega)))) (by first | with_reducible rfl | (simp -implicitDefEqProofs (maxSteps := 1000000) (disch := omega) [go_sem, g4] <;> omega)) ?_ hK
        simp [NB_v, NB_sl, NB_ag, NB_tu]
      · intro c54 h
        try simp -implicitDefEqProofs (disch := omega) at c54
        simp -implicitDefEqProofs (maxSteps := 1000000) (disch := omega) [go_sem, g4]
        subst hc3
        refine IWp_cond_i h (by first | with_reducible rfl | (simp -implicitDefEqProofs (maxSteps := 1000000) (disch := omega) [go_sem, g4] <;> omega)) rfl ?_ ?_
        · intro c13 h
          try simp -implicitDefEqProofs (disch := omega) at c13
          refine IWp_seqF fun cb hc14 => ?_
          refine vc_sound _ (by kernel_rfl) _ _ _ ?_
          simp -implicitDefEqProofs (maxSteps := 1000000) (disch := omega) [go_sem, g4]
          obtain ⟨x15, hx15, h⟩ := bind_some' h
          refine ICalls.eqA (args' := []) (by first | with_reducible rfl | (simp -implicitDefEqProofs (maxSteps := 1000000) (disch := omega) [go_sem, g4] <;> omega)) (F8_ok  hx15 ?_)
          simp -implicitDefEqProofs (maxSteps := 1000000) (disch := omega) [go_sem, g4]
          subst hc14
          refine vc_sound _ (by kernel_rfl) _ _ _ ?_
          simp -implicitDefEqProofs only [go_sem]
          have er := Option.some.inj h
          subst er
          simp -implicitDefEqProofs (maxSteps := 1000000) (disch := omega) [go_sem, g4]
          refine retG_pureE (by repeat (first | exact (Ext.refl hw) | refine Ext.new ?_ _ | refine Ext.set ?_ (by first | omega | (simp [go_sem]; omega)) _ | refine Ext.del ?_ (by first | omega | (simp [go_sem]; omega)))) (by first | with_reducible rfl | (simp -implicitDefEqProofs (maxSteps := 1000000) (disch := omega) [go_sem, g4] <;> omega)) ?_ hK
          simp [NB_v, NB_sl, NB_ag, NB_tu]
        · intro c13 h
          try simp -implicitDefEqProofs (disch := omega) at c13
          refine vc_sound _ (by kernel_rfl) _ _ _ ?_
          simp -implicitDefEqProofs only [go_sem]
          subst hc2
          refine IWp_seqF fun cb hc16 => ?_
          refine vc_sound _ (by kernel_rfl) _ _ _ ?_
          simp -implicitDefEqProofs (maxSteps := 1000000) (disch := omega) [go_sem, g4]
          obtain ⟨x17, hx17, h⟩ := bind_some' h
          refine ICalls.eqA (args' := [.ag (c.map fun x => .sl 1 (x.map fun x => [.v (str x)])), .v (.int .i64 f), .sl 1 (l.map fun x => [.v (str x)])]) (by first | with_reducible rfl | (simp -implicitDefEqProofs (maxSteps := 1000000) (disch := omega) [go_sem, g4] <;> omega)) (F9_ok c f l hx17 ?_)
          obtain ⟨g18, h⟩ := gd_some.1 h
          try simp -implicitDefEqProofs (disch := omega) at g18
          simp -implicitDefEqProofs (maxSteps := 1000000) (disch := omega) [go_sem, g4, g18]
          subst hc16
          refine IWp_seqF fun cb hc19 => ?_
          refine IWp_seqF fun cb hc20 => ?_
          refine vc_sound _ (by kernel_rfl) _ _ _ ?_
          simp -implicitDefEqProofs (maxSteps := 1000000) (disch := omega) [go_sem, g4, g18]
          subst hc20
          refine IWp_cond_i h (by first | with_reducible rfl | (simp -implicitDefEqProofs (maxSteps := 1000000) (disch := omega) [go_sem, g4, g18] <;> omega)) rfl ?_ ?_
          · intro c21 h
            try simp -implicitDefEqProofs (disch := omega) at c21
            refine IWp_seqF fun cb hc22 => ?_
            refine vc_sound _ (by kernel_rfl) _ _ _ ?_
            simp -implicitDefEqProofs (maxSteps := 1000000) (disch := omega) [go_sem, g4, g18]
            obtain ⟨x23, hx23, h⟩ := bind_some' h
            refine ICalls.eqA (args' := []) (by first | with_reducible rfl | (simp -implicitDefEqProofs (maxSteps := 1000000) (disch := omega) [go_sem, g4, g18] <;> omega)) (F8_ok  hx23 ?_)
            simp -implicitDefEqProofs (maxSteps := 1000000) (disch := omega) [go_sem, g4, g18]
            subst hc22
            refine vc_sound _ (by kernel_rfl) _ _ _ ?_
            simp -implicitDefEqProofs only [go_sem]
            have er := Option.some.inj h
            subst er
            simp -implicitDefEqProofs (maxSteps := 1000000) (disch := omega) [go_sem, g4, g18]
            refine retG_pureE (by repeat (first | exact (Ext.refl hw) | refine Ext.new ?_ _ | refine Ext.set ?_ (by first | omega | (simp [go_sem]; omega)) _ | refine Ext.del ?_ (by first | omega | (simp [go_sem]; omega)))) (by first | with_reducible rfl | (simp -implicitDefEqProofs (maxSteps := 1000000) (disch := omega) [go_sem, g4, g18] <;> omega)) ?_ hK
            simp [NB_v, NB_sl, NB_ag, NB_tu]
          · intro c21 h
            try simp -implicitDefEqProofs (disch := omega) at c21
            refine vc_sound _ (by kernel_rfl) _ _ _ ?_
            simp -implicitDefEqProofs only [go_sem]
            subst hc19
            refine IWp_seqF fun cb hc24 => ?_
            refine IWp_seqF fun cb hc25 => ?_
            refine vc_sound _ (by kernel_rfl) _ _ _ ?_
            simp -implicitDefEqProofs (maxSteps := 1000000) (disch := omega) [go_sem, g4, g18]
            subst hc25
            obtain ⟨y26, hl26q, hk26⟩ := bind_some' h
            refine IWp_tailC (fun tm' H' => .inl () = y26 ∧ Ext H H' ∧ H.next + 2 ≤ H'.next ∧ tm' 1 = .v (.int .i64 f) ∧ tm' 3 = .p H.next 0 ∧ tm' 7 = .p (H.next + 1) 0 ∧ H'.obj H.next = some (.cells (c.map fun x => .sl 1 (x.map fun x => [.v (str x)]))) ∧ H'.obj (H.next + 1) = some (.cells (x17.1.map fun x => .sl 1 (x.map fun x => [.v (str x)])))) ?_ fun cb hc26 => ?_
            · rintro tm26e H26e ⟨rfl, he26e, hl26e, t1_26e, t3_26e, t7_26e, ob0_26e, ob1_26e⟩
              have h : F5_k26 c f x17 = some r := hk26
              unfold F5_k26 at h
              simp -implicitDefEqProofs only [go_sem]
              subst hc24
              refine IWp_seqF fun cb hc28 => ?_
              refine IWp_drawP [5] [0, 1, 2, 3, 4, 5, 6, 7, 8, 9, 10, 11] (by kernel_rfl) (by kernel_rfl) (fun _ _ _ _ h => h) ?_
              obtain ⟨g29, h⟩ := gd_some.1 h
              try simp -implicitDefEqProofs (disch := omega) at g29
              simp -implicitDefEqProofs (maxSteps := 1000000) (disch := omega) [go_sem, t1_26e, t3_26e, t7_26e, g4, g18, ob0_26e, ob1_26e]
              obtain ⟨x30, hx30, h⟩ := bind_some' h
              refine PureC.mk _ (fun _ _ hK => ICalls.eqA (args' := [.ag (c.map fun x => .sl 1 (x.map fun x => [.v (str x)])), .v (.int .i64 f), .sl 1 ((c.getD f.toNat []).map fun x => [.v (str x)])]) (by first | with_reducible rfl | (simp -implicitDefEqProofs (maxSteps := 1000000) (disch := omega) [go_sem, t1_26e, t3_26e, t7_26e, g4, g18, ob0_26e, ob1_26e] <;> omega)) (F9_ok c f (c.getD f.toNat []) hx30 hK)) ?_
              obtain ⟨g31, h⟩ := gd_some.1 h
              try simp -implicitDefEqProofs (disch := omega) at g31
              simp -implicitDefEqProofs (maxSteps := 1000000) (disch := omega) [go_sem, t1_26e, t3_26e, t7_26e, g4, g18, ob0_26e, ob1_26e, g31]
              subst hc28
              refine IWp_seqF fun cb hc32 => ?_
              refine vc_sound _ (by kernel_rfl) _ _ _ ?_
              simp -implicitDefEqProofs (maxSteps := 1000000) (disch := omega) [go_sem, t1_26e, t3_26e, t7_26e, g4, g18, ob0_26e, ob1_26e, g31]
              obtain ⟨x33, hx33, h⟩ := bind_some' h
              refine ICalls.eqA (args' := [.ag (x17.1.map fun x => .sl 1 (x.map fun x => [.v (str x)])), .ag (c.map fun x => .sl 1 (x.map fun x => [.v (str x)]))]) (by first | with_reducible rfl | (simp -implicitDefEqProofs (maxSteps := 1000000) (disch := omega) [go_sem, t1_26e, t3_26e, t7_26e, g4, g18, ob0_26e, ob1_26e, g31] <;> omega)) (F13_ok x17.1 c hx33 ?_)
              simp -implicitDefEqProofs (maxSteps := 1000000) (disch := omega) [go_sem, t1_26e, t3_26e, t7_26e, g4, g18, ob0_26e, ob1_26e, g31]
              subst hc32
              refine IWp_seqF fun cb hc34 => ?_
              refine vc_sound _ (by kernel_rfl) _ _ _ ?_
              simp -implicitDefEqProofs (maxSteps := 1000000) (disch := omega) [go_sem, t1_26e, t3_26e, t7_26e, g4, g18, ob0_26e, ob1_26e, g31]
              refine splitG_f h (by first | with_reducible rfl | (simp -implicitDefEqProofs (maxSteps := 1000000) (disch := omega) [go_sem, t1_26e, t3_26e, t7_26e, g4, g18, ob0_26e, ob1_26e, g31] <;> omega)) ?_ ?_
              · intro c43 h
                try simp -implicitDefEqProofs (disch := omega) at c43
                simp -implicitDefEqProofs (maxSteps := 1000000) (disch := omega) [go_sem, t1_26e, t3_26e, t7_26e, g4, g18, ob0_26e, ob1_26e, g31]
                obtain ⟨x35, hx35, h⟩ := bind_some' h
                refine ICalls.eqA (args' := [.ag (x30.1.map fun x => .sl 1 (x.map fun x => [.v (str x)])), .ag (c.map fun x => .sl 1 (x.map fun x => [.v (str x)]))]) (by first | with_reducible rfl | (simp -implicitDefEqProofs (maxSteps := 1000000) (disch := omega) [go_sem, t1_26e, t3_26e, t7_26e, g4, g18, ob0_26e, ob1_26e, g31] <;> omega)) (F15_ok x30.1 c hx35 ?_)
                simp -implicitDefEqProofs (maxSteps := 1000000) (disch := omega) [go_sem, t1_26e, t3_26e, t7_26e, g4, g18, ob0_26e, ob1_26e, g31]
                refine splitG_f h (by first | with_reducible rfl | (simp -implicitDefEqProofs (maxSteps := 1000000) (disch := omega) [go_sem, t1_26e, t3_26e, t7_26e, g4, g18, ob0_26e, ob1_26e, g31] <;> omega)) ?_ ?_
                · intro c42 h
                  try simp -implicitDefEqProofs (disch := omega) at c42
                  simp -implicitDefEqProofs (maxSteps := 1000000) (disch := omega) [go_sem, t1_26e, t3_26e, t7_26e, g4, g18, ob0_26e, ob1_26e, g31]
                  refine splitG_f h (by first | with_reducible rfl | (simp -implicitDefEqProofs (maxSteps := 1000000) (disch := omega) [go_sem, t1_26e, t3_26e, t7_26e, g4, g18, ob0_26e, ob1_26e, g31] <;> omega)) ?_ ?_
                  · intro c41 h
                    try simp -implicitDefEqProofs (disch := omega) at c41
                    simp -implicitDefEqProofs (maxSteps := 1000000) (disch := omega) [go_sem, t1_26e, t3_26e, t7_26e, g4, g18, ob0_26e, ob1_26e, g31]
                    refine splitG_f h (by first | with_reducible rfl | (simp -implicitDefEqProofs (maxSteps := 1000000) (disch := omega) [go_sem, t1_26e, t3_26e, t7_26e, g4, g18, ob0_26e, ob1_26e, g31] <;> omega)) ?_ ?_
                    · intro c40 h
                      try simp -implicitDefEqProofs (disch := omega) at c40
                      simp -implicitDefEqProofs (maxSteps := 1000000) (disch := omega) [go_sem, t1_26e, t3_26e, t7_26e, g4, g18, ob0_26e, ob1_26e, g31]
                      obtain ⟨x36, hx36, h⟩ := bind_some' h
                      refine ICalls.eqA (args' := []) (by first | with_reducible rfl | (simp -implicitDefEqProofs (maxSteps := 1000000) (disch := omega) [go_sem, t1_26e, t3_26e, t7_26e, g4, g18, ob0_26e, ob1_26e, g31] <;> omega)) (F8_ok  hx36 ?_)
                      simp -implicitDefEqProofs (maxSteps := 1000000) (disch := omega) [go_sem, t1_26e, t3_26e, t7_26e, g4, g18, ob0_26e, ob1_26e, g31]
                      subst hc34
                      refine vc_sound _ (by kernel_rfl) _ _ _ ?_
                      simp -implicitDefEqProofs only [go_sem]
                      have er := Option.some.inj h
                      subst er
                      simp -implicitDefEqProofs (maxSteps := 1000000) (disch := omega) [go_sem, t1_26e, t3_26e, t7_26e, g4, g18, ob0_26e, ob1_26e, g31]
                      refine retG_pureE (by repeat (first | exact he26e | refine Ext.new ?_ _ | refine Ext.set ?_ (by first | omega | (simp [go_sem]; omega)) _ | refine Ext.del ?_ (by first | omega | (simp [go_sem]; omega)))) (by first | with_reducible rfl | (simp -implicitDefEqProofs (maxSteps := 1000000) (disch := omega) [go_sem, t1_26e, t3_26e, t7_26e, g4, g18, ob0_26e, ob1_26e, g31] <;> omega)) ?_ hK
                      simp [NB_v, NB_sl, NB_ag, NB_tu]
                    · intro c40 h
                      try simp -implicitDefEqProofs (disch := omega) at c40
                      obtain ⟨g37, h⟩ := gd_some.1 h
                      try simp -implicitDefEqProofs (disch := omega) at g37
                      simp -implicitDefEqProofs (maxSteps := 1000000) (disch := omega) [go_sem, t1_26e, t3_26e, t7_26e, g4, g18, ob0_26e, ob1_26e, g31]
                      refine splitG_f h (by first | with_reducible rfl | (simp -implicitDefEqProofs (maxSteps := 1000000) (disch := omega) [go_sem, t1_26e, t3_26e, t7_26e, g4, g18, ob0_26e, ob1_26e, g31] <;> omega)) ?_ ?_
                      · intro c39 h
                        try simp -implicitDefEqProofs (disch := omega) at c39
                        simp -implicitDefEqProofs (maxSteps := 1000000) (disch := omega) [go_sem, t1_26e, t3_26e, t7_26e, g4, g18, ob0_26e, ob1_26e, g31]
                        obtain ⟨x38, hx38, h⟩ := bind_some' h
                        refine ICalls.eqA (args' := []) (by first | with_reducible rfl | (simp -implicitDefEqProofs (maxSteps := 1000000) (disch := omega) [go_sem, t1_26e, t3_26e, t7_26e, g4, g18, ob0_26e, ob1_26e, g31] <;> omega)) (F8_ok  hx38 ?_)
                        simp -implicitDefEqProofs (maxSteps := 1000000) (disch := omega) [go_sem, t1_26e, t3_26e, t7_26e, g4, g18, ob0_26e, ob1_26e, g31]
                        subst hc34
                        refine vc_sound _ (by kernel_rfl) _ _ _ ?_
                        simp -implicitDefEqProofs only [go_sem]
                        have er := Option.some.inj h
                        subst er
                        simp -implicitDefEqProofs (maxSteps := 1000000) (disch := omega) [go_sem, t1_26e, t3_26e, t7_26e, g4, g18, ob0_26e, ob1_26e, g31]
                        refine retG_pureE (by repeat (first | exact he26e | refine Ext.new ?_ _ | refine Ext.set ?_ (by first | omega | (simp [go_sem]; omega)) _ | refine Ext.del ?_ (by first | omega | (simp [go_sem]; omega)))) (by first | with_reducible rfl | (simp -implicitDefEqProofs (maxSteps := 1000000) (disch := omega) [go_sem, t1_26e, t3_26e, t7_26e, g4, g18, ob0_26e, ob1_26e, g31] <;> omega)) ?_ hK
                        simp [NB_v, NB_sl, NB_ag, NB_tu]
                      · intro c39 h
                        try simp -implicitDefEqProofs (disch := omega) at c39
                        simp -implicitDefEqProofs (maxSteps := 1000000) (disch := omega) [go_sem, t1_26e, t3_26e, t7_26e, g4, g18, ob0_26e, ob1_26e, g31]
                        subst hc34
                        refine vc_sound _ (by kernel_rfl) _ _ _ ?_
                        simp -implicitDefEqProofs only [go_sem]
                        have er := Option.some.inj h
                        subst er
                        simp -implicitDefEqProofs (maxSteps := 1000000) (disch := omega) [go_sem, t1_26e, t3_26e, t7_26e, g4, g18, ob0_26e, ob1_26e, g31]
                        refine retG_pureE (by repeat (first | exact he26e | refine Ext.new ?_ _ | refine Ext.set ?_ (by first | omega | (simp [go_sem]; omega)) _ | refine Ext.del ?_ (by first | omega | (simp [go_sem]; omega)))) (by first | with_reducible rfl | (simp -implicitDefEqProofs (maxSteps := 1000000) (disch := omega) [go_sem, t1_26e, t3_26e, t7_26e, g4, g18, ob0_26e, ob1_26e, g31] <;> omega)) ?_ hK
                        simp [NB_v, NB_sl, NB_ag, NB_tu]
                  · intro c41 h
                    try simp -implicitDefEqProofs (disch := omega) at c41
                    simp -implicitDefEqProofs (maxSteps := 1000000) (disch := omega) [go_sem, t1_26e, t3_26e, t7_26e, g4, g18, ob0_26e, ob1_26e, g31]
                    subst hc34
                    refine vc_sound _ (by kernel_rfl) _ _ _ ?_
                    simp -implicitDefEqProofs only [go_sem]
                    have er := Option.some.inj h
                    subst er
                    simp -implicitDefEqProofs (maxSteps := 1000000) (disch := omega) [go_sem, t1_26e, t3_26e, t7_26e, g4, g18, ob0_26e, ob1_26e, g31]
                    refine retG_pureE (by repeat (first | exact he26e | refine Ext.new ?_ _ | refine Ext.set ?_ (by first | omega | (simp [go_sem]; omega)) _ | refine Ext.del ?_ (by first | omega | (simp [go_sem]; omega)))) (by first | with_reducible rfl | (simp -implicitDefEqProofs (maxSteps := 1000000) (disch := omega) [go_sem, t1_26e, t3_26e, t7_26e, g4, g18, ob0_26e, ob1_26e, g31] <;> omega)) ?_ hK
                    simp [NB_v, NB_sl, NB_ag, NB_tu]
                · intro c42 h
                  try simp -implicitDefEqProofs (disch := omega) at c42
                  simp -implicitDefEqProofs (maxSteps := 1000000) (disch := omega) [go_sem, t1_26e, t3_26e, t7_26e, g4, g18, ob0_26e, ob1_26e, g31]
                  subst hc34
                  refine vc_sound _ (by kernel_rfl) _ _ _ ?_
                  simp -implicitDefEqProofs only [go_sem]
                  have er := Option.some.inj h
                  subst er
                  simp -implicitDefEqProofs (maxSteps := 1000000) (disch := omega) [go_sem, t1_26e, t3_26e, t7_26e, g4, g18, ob0_26e, ob1_26e, g31]
                  refine retG_pureE (by repeat (first | exact he26e | refine Ext.new ?_ _ | refine Ext.set ?_ (by first | omega | (simp [go_sem]; omega)) _ | refine Ext.del ?_ (by first | omega | (simp [go_sem]; omega)))) (by first | with_reducible rfl | (simp -implicitDefEqProofs (maxSteps := 1000000) (disch := omega) [go_sem, t1_26e, t3_26e, t7_26e, g4, g18, ob0_26e, ob1_26e, g31] <;> omega)) ?_ hK
                  simp [NB_v, NB_sl, NB_ag, NB_tu]
              · intro c43 h
                try simp -implicitDefEqProofs (disch := omega) at c43
                simp -implicitDefEqProofs (maxSteps := 1000000) (disch := omega) [go_sem, t1_26e, t3_26e, t7_26e, g4, g18, ob0_26e, ob1_26e, g31]
                subst hc34
                refine vc_sound _ (by kernel_rfl) _ _ _ ?_
                simp -implicitDefEqProofs only [go_sem]
                have er := Option.some.inj h
                subst er
                simp -implicitDefEqProofs (maxSteps := 1000000) (disch := omega) [go_sem, t1_26e, t3_26e, t7_26e, g4, g18, ob0_26e, ob1_26e, g31]
                refine retG_pureE (by repeat (first | exact he26e | refine Ext.new ?_ _ | refine Ext.set ?_ (by first | omega | (simp [go_sem]; omega)) _ | refine Ext.del ?_ (by first | omega | (simp [go_sem]; omega)))) (by first | with_reducible rfl | (simp -implicitDefEqProofs (maxSteps := 1000000) (disch := omega) [go_sem, t1_26e, t3_26e, t7_26e, g4, g18, ob0_26e, ob1_26e, g31] <;> omega)) ?_ hK
                simp [NB_v, NB_sl, NB_ag, NB_tu]
            · refine IWp_block ?_
              refine IWp_loopF (fun (s : Int) tm' H' => Ext H H' ∧ H.next + 2 ≤ H'.next ∧ tm' 1 = .v (.int .i64 f) ∧ tm' 3 = .p H.next 0 ∧ tm' 7 = .p (H.next + 1) 0 ∧ tm' 9 = .v (.int .i64 s) ∧ H'.obj H.next = some (.cells (c.map fun x => .sl 1 (x.map fun x => [.v (str x)]))) ∧ H'.obj (H.next + 1) = some (.cells (x17.1.map fun x => .sl 1 (x.map fun x => [.v (str x)])))) hl26q ?_ ?_
              · refine .same ⟨by repeat (first | exact (Ext.refl hw) | refine Ext.new ?_ _ | refine Ext.set ?_ (by first | omega | (simp [go_sem]; omega)) _ | refine Ext.del ?_ (by first | omega | (simp [go_sem]; omega))), by first | with_reducible rfl | assumption | omega | (simp -implicitDefEqProofs (maxSteps := 1000000) (disch := omega) [go_sem, g4, g18] <;> omega), by first | with_reducible rfl | assumption | omega | (simp -implicitDefEqProofs (maxSteps := 1000000) (disch := omega) [go_sem, g4, g18] <;> omega), by first | with_reducible rfl | assumption | omega | (simp -implicitDefEqProofs (maxSteps := 1000000) (disch := omega) [go_sem, g4, g18] <;> omega), by first | with_reducible rfl | assumption | omega | (simp -implicitDefEqProofs (maxSteps := 1000000) (disch := omega) [go_sem, g4, g18] <;> omega), by first | with_reducible rfl | assumption | omega | (simp -implicitDefEqProofs (maxSteps := 1000000) (disch := omega) [go_sem, g4, g18] <;> omega), by first | with_reducible rfl | assumption | omega | (simp -implicitDefEqProofs (maxSteps := 1000000) (disch := omega) [go_sem, g4, g18] <;> omega), by first | with_reducible rfl | assumption | omega | (simp -implicitDefEqProofs (maxSteps := 1000000) (disch := omega) [go_sem, g4, g18] <;> omega)⟩
              · rintro I26 hI26 v27 x26 tm26 H26 ⟨he26, hl26, t1_26, t3_26, t7_26, t9_26, ob0_26, ob1_26⟩ h hret26
                replace h : F5_b26 c f x17 v27 = some x26 := h
                unfold F5_b26 at h
                refine IWp_seqF fun cb hc44 => ?_
                refine IWp_seqF fun cb hc45 => ?_
                refine vc_sound _ (by kernel_rfl) _ _ _ ?_
                simp -implicitDefEqProofs (maxSteps := 1000000) (disch := omega) [go_sem, t1_26, t3_26, t7_26, t9_26, g4, g18, ob0_26, ob1_26]
                subst hc45
                refine IWp_cond_i h (by first | with_reducible rfl | (simp -implicitDefEqProofs (maxSteps := 1000000) (disch := omega) [go_sem, t1_26, t3_26, t7_26, t9_26, g4, g18, ob0_26, ob1_26] <;> omega)) rfl ?_ ?_
                · intro c46 h
                  try simp -implicitDefEqProofs (disch := omega) at c46
                  refine vc_sound _ (by kernel_rfl) _ _ _ ?_
                  simp -implicitDefEqProofs only [go_sem]
                  subst hc44
                  refine IWp_seqF fun cb hc47 => ?_
                  refine IWp_block ?_
                  refine IWp_seqF fun cb hc48 => ?_
                  refine IWp_drawP [10] [0, 1, 2, 3, 4, 5, 6, 7, 8, 9, 10, 11, 12] (by kernel_rfl) (by kernel_rfl) (fun _ _ _ _ h => h) ?_
                  simp -implicitDefEqProofs (maxSteps := 1000000) (disch := omega) [go_sem, t1_26, t3_26, t7_26, t9_26, g4, g18, ob0_26, ob1_26]
                  refine splitG_f h (by first | with_reducible rfl | (simp -implicitDefEqProofs (maxSteps := 1000000) (disch := omega) [go_sem, t1_26, t3_26, t7_26, t9_26, g4, g18, ob0_26, ob1_26] <;> omega)) ?_ ?_
                  · intro c53 h
                    try simp -implicitDefEqProofs (disch := omega) at c53
                    obtain ⟨g49, h⟩ := gd_some.1 h
                    try simp -implicitDefEqProofs (disch := omega) at g49
                    simp -implicitDefEqProofs (maxSteps := 1000000) (disch := omega) [go_sem, t1_26, t3_26, t7_26, t9_26, g4, g18, ob0_26, ob1_26]
                    obtain ⟨x50, hx50, h⟩ := bind_some' h
                    refine PureC.mk _ (fun _ _ hK => ICalls.eqA (args' := [.sl 1 ((x17.1.getD v27.toNat []).map fun x => [.v (str x)]), .sl 1 ((c.getD v27.toNat []).map fun x => [.v (str x)])]) (by first | with_reducible rfl | (simp -implicitDefEqProofs (maxSteps := 1000000) (disch := omega) [go_sem, t1_26, t3_26, t7_26, t9_26, g4, g18, ob0_26, ob1_26] <;> omega)) (F17_ok (x17.1.getD v27.toNat []) (c.getD v27.toNat []) hx50 hK)) ?_
                    simp -implicitDefEqProofs (maxSteps := 1000000) (disch := omega) [go_sem, t1_26, t3_26, t7_26, t9_26, g4, g18, ob0_26, ob1_26]
                    subst hc48
                    refine IWp_cond_i h (by first | with_reducible rfl | (simp -implicitDefEqProofs (maxSteps := 1000000) (disch := omega) [go_sem, t1_26, t3_26, t7_26, t9_26, g4, g18, ob0_26, ob1_26] <;> omega)) rfl ?_ ?_
                    · intro c51 h
                      try simp -implicitDefEqProofs (disch := omega) at c51
                      refine IWp_seqF fun cb hc52 => ?_
                      refine vc_sound _ (by kernel_rfl) _ _ _ ?_
                      simp -implicitDefEqProofs (maxSteps := 1000000) (disch := omega) [go_sem, t1_26, t3_26, t7_26, t9_26, g4, g18, ob0_26, ob1_26]
                      subst hc52
                      refine vc_sound _ (by kernel_rfl) _ _ _ ?_
                      simp -implicitDefEqProofs only [go_sem]
                      have e26 := Option.some.inj h
                      subst e26
                      have e26 := hret26 _ rfl
                      subst e26
                      replace h : some false = some r := hk26
                      have er := Option.some.inj h
                      subst er
                      simp -implicitDefEqProofs (maxSteps := 1000000) (disch := omega) [go_sem, t1_26, t3_26, t7_26, t9_26, g4, g18, ob0_26, ob1_26]
                      refine retG_pureE (by repeat (first | exact he26 | refine Ext.new ?_ _ | refine Ext.set ?_ (by first | omega | (simp [go_sem]; omega)) _ | refine Ext.del ?_ (by first | omega | (simp [go_sem]; omega)))) (by first | with_reducible rfl | (simp -implicitDefEqProofs (maxSteps := 1000000) (disch := omega) [go_sem, t1_26, t3_26, t7_26, t9_26, g4, g18, ob0_26, ob1_26] <;> omega)) ?_ hK
                      simp [NB_v, NB_sl, NB_ag, NB_tu]
                    · intro c51 h
                      try simp -implicitDefEqProofs (disch := omega) at c51
                      refine vc_sound _ (by kernel_rfl) _ _ _ ?_
                      simp -implicitDefEqProofs only [go_sem]
                      subst hc47
                      refine vc_sound _ (by kernel_rfl) _ _ _ ?_
                      simp -implicitDefEqProofs (maxSteps := 1000000) (disch := omega) [go_sem, t1_26, t3_26, t7_26, t9_26, g4, g18, ob0_26, ob1_26]
                      have e26 := Option.some.inj h
                      subst e26
                      refine loopN_mk hI26 (IntKind.i64.wrap (v27 + 1)) ?_
                      refine .same ⟨by repeat (first | exact he26 | refine Ext.new ?_ _ | refine Ext.set ?_ (by first | omega | (simp [go_sem]; omega)) _ | refine Ext.del ?_ (by first | omega | (simp [go_sem]; omega))), by first | with_reducible rfl | assumption | omega | (simp -implicitDefEqProofs (maxSteps := 1000000) (disch := omega) [go_sem, t1_26, t3_26, t7_26, t9_26, g4, g18, ob0_26, ob1_26] <;> omega), by first | with_reducible rfl | assumption | omega | (simp -implicitDefEqProofs (maxSteps := 1000000) (disch := omega) [go_sem, t1_26, t3_26, t7_26, t9_26, g4, g18, ob0_26, ob1_26] <;> omega), by first | with_reducible rfl | assumption | omega | (simp -implicitDefEqProofs (maxSteps := 1000000) (disch := omega) [go_sem, t1_26, t3_26, t7_26, t9_26, g4, g18, ob0_26, ob1_26] <;> omega), by first | with_reducible rfl | assumption | omega | (simp -implicitDefEqProofs (maxSteps := 1000000) (disch := omega) [go_sem, t1_26, t3_26, t7_26, t9_26, g4, g18, ob0_26, ob1_26] <;> omega), by first | with_reducible rfl | assumption | omega | (simp -implicitDefEqProofs (maxSteps := 1000000) (disch := omega) [go_sem, t1_26, t3_26, t7_26, t9_26, g4, g18, ob0_26, ob1_26] <;> omega), by first | with_reducible rfl | assumption | omega | (simp -implicitDefEqProofs (maxSteps := 1000000) (disch := omega) [go_sem, t1_26, t3_26, t7_26, t9_26, g4, g18, ob0_26, ob1_26] <;> omega), by first | with_reducible rfl | assumption | omega | (simp -implicitDefEqProofs (maxSteps := 1000000) (disch := omega) [go_sem, t1_26, t3_26, t7_26, t9_26, g4, g18, ob0_26, ob1_26] <;> omega)⟩
                  · intro c53 h
                    try simp -implicitDefEqProofs (disch := omega) at c53
                    simp -implicitDefEqProofs (maxSteps := 1000000) (disch := omega) [go_sem, t1_26, t3_26, t7_26, t9_26, g4, g18, ob0_26, ob1_26]
                    subst hc48
                    refine IWp_cond_f (by first | with_reducible rfl | (simp -implicitDefEqProofs (maxSteps := 1000000) (disch := omega) [go_sem, t1_26, t3_26, t7_26, t9_26, g4, g18, ob0_26, ob1_26] <;> omega)) rfl ?_
                    refine vc_sound _ (by kernel_rfl) _ _ _ ?_
                    simp -implicitDefEqProofs only [go_sem]
                    subst hc47
                    refine vc_sound _ (by kernel_rfl) _ _ _ ?_
                    simp -implicitDefEqProofs (maxSteps := 1000000) (disch := omega) [go_sem, t1_26, t3_26, t7_26, t9_26, g4, g18, ob0_26, ob1_26]
                    have e26 := Option.some.inj h
                    subst e26
                    refine loopN_mk hI26 (IntKind.i64.wrap (v27 + 1)) ?_
                    refine .same ⟨by repeat (first | exact he26 | refine Ext.new ?_ _ | refine Ext.set ?_ (by first | omega | (simp [go_sem]; omega)) _ | refine Ext.del ?_ (by first | omega | (simp [go_sem]; omega))), by first | with_reducible rfl | assumption | omega | (simp -implicitDefEqProofs (maxSteps := 1000000) (disch := omega) [go_sem, t1_26, t3_26, t7_26, t9_26, g4, g18, ob0_26, ob1_26] <;> omega), by first | with_reducible rfl | assumption | omega | (simp -implicitDefEqProofs (maxSteps := 1000000) (disch := omega) [go_sem, t1_26, t3_26, t7_26, t9_26, g4, g18, ob0_26, ob1_26] <;> omega), by first | with_reducible rfl | assumption | omega | (simp -implicitDefEqProofs (maxSteps := 1000000) (disch := omega) [go_sem, t1_26, t3_26, t7_26, t9_26, g4, g18, ob0_26, ob1_26] <;> omega), by first | with_reducible rfl | assumption | omega | (simp -implicitDefEqProofs (maxSteps := 1000000) (disch := omega) [go_sem, t1_26, t3_26, t7_26, t9_26, g4, g18, ob0_26, ob1_26] <;> omega), by first | with_reducible rfl | assumption | omega | (simp -implicitDefEqProofs (maxSteps := 1000000) (disch := omega) [go_sem, t1_26, t3_26, t7_26, t9_26, g4, g18, ob0_26, ob1_26] <;> omega), by first | with_reducible rfl | assumption | omega | (simp -implicitDefEqProofs (maxSteps := 1000000) (disch := omega) [go_sem, t1_26, t3_26, t7_26, t9_26, g4, g18, ob0_26, ob1_26] <;> omega), by first | with_reducible rfl | assumption | omega | (simp -implicitDefEqProofs (maxSteps := 1000000) (disch := omega) [go_sem, t1_26, t3_26, t7_26, t9_26, g4, g18, ob0_26, ob1_26] <;> omega)⟩
                · intro c46 h
                  try simp -implicitDefEqProofs (disch := omega) at c46
                  refine vc_sound _ (by kernel_rfl) _ _ _ ?_
                  simp -implicitDefEqProofs only [go_sem]
                  have e26 := Option.some.inj h
                  subst e26
                  have hy26 := hret26 _ rfl
                  refine hc26 _ _ ?_
                  refine .same ⟨hy26, by repeat (first | exact he26 | refine Ext.new ?_ _ | refine Ext.set ?_ (by first | omega | (simp [go_sem]; omega)) _ | refine Ext.del ?_ (by first | omega | (simp [go_sem]; omega))), by first | with_reducible rfl | assumption | omega | (simp -implicitDefEqProofs (maxSteps := 1000000) (disch := omega) [go_sem, t1_26, t3_26, t7_26, t9_26, g4, g18, ob0_26, ob1_26] <;> omega), by first | with_reducible rfl | assumption | omega | (simp -implicitDefEqProofs (maxSteps := 1000000) (disch := omega) [go_sem, t1_26, t3_26, t7_26, t9_26, g4, g18, ob0_26, ob1_26] <;> omega), by first | with_reducible rfl | assumption | omega | (simp -implicitDefEqProofs (maxSteps := 1000000) (disch := omega) [go_sem, t1_26, t3_26, t7_26, t9_26, g4, g18, ob0_26, ob1_26] <;> omega), by first | with_reducible rfl | assumption | omega | (simp -implicitDefEqProofs (maxSteps := 1000000) (disch := omega) [go_sem, t1_26, t3_26, t7_26, t9_26, g4, g18, ob0_26, ob1_26] <;> omega), by first | with_reducible rfl | assumption | omega | (simp -implicitDefEqProofs (maxSteps := 1000000) (disch := omega) [go_sem, t1_26, t3_26, t7_26, t9_26, g4, g18, ob0_26, ob1_26] <;> omega), by first | with_reducible rfl | assumption | omega | (simp -implicitDefEqProofs (maxSteps := 1000000) (disch := omega) [go_sem, t1_26, t3_26, t7_26, t9_26, g4, g18, ob0_26, ob1_26] <;> omega)⟩
end Go.Idl
