/- The laws told as functions of Lean, with their walks (printed by a program of this session's). Conditions: none. -/
import Derived.Test.YtdmbcbdcabgifaaDoorFnD
set_option linter.unusedSimpArgs false
set_option linter.unusedVariables false

namespace Go.Idl
open Go Go.Proofs.Tryd

/-! cardcase/contact.Same -/
noncomputable def F15 (a : List (List (List UInt8))) (b : List (List (List UInt8))) : Option Bool :=
  gd (a.length = 8) (gd (b.length = 8) ((F13 a b).bind fun (x5 : List Int) => some (decide ((x5.length : Int) = 0))))

set_option maxHeartbeats 8000000 in
set_option pp.deepTerms false in
set_option maxRecDepth 8000 in
theorem F15_ok {H : IHeap} {K : IEnd → IHeap → Prop} (a : List (List (List UInt8))) (b : List (List (List UInt8))) {r : Bool} (h : F15 a b = some r) (hK : K (.ret (.v (.bool r))) H) : ICalls prog 15 [.ag (a.map fun x => .sl 1 (x.map fun x => [.v (str x)])), .ag (b.map fun x => .sl 1 (x.map fun x => [.v (str x)]))] H K := by
  refine ICalls_iwp (N := 10) func15 (by kernel_rfl) rfl (by kernel_rfl) (by kernel_rfl) fun cb hcb hw hbd hnb => ?_
  clear hbd hnb
  subst hcb
  unfold F15 at h
  refine IWp_seqF fun cb hc1 => ?_
  refine vc_sound _ (by kernel_rfl) _ _ _ ?_
  simp -implicitDefEqProofs (maxSteps := 1000000) (disch := omega) [go_sem]
  subst hc1
  refine IWp_seqF fun cb hc2 => ?_
  refine vc_sound _ (by kernel_rfl) _ _ _ ?_
  obtain ⟨g3, h⟩ := gd_some.1 h
  try simp -implicitDefEqProofs (disch := omega) at g3
  obtain ⟨g4, h⟩ := gd_some.1 h
  try simp -implicitDefEqProofs (disch := omega) at g4
  simp -implicitDefEqProofs (maxSteps := 1000000) (disch := omega) [go_sem, g3, g4]
  obtain ⟨x5, hx5, h⟩ := bind_some' h
  refine ICalls.eqA (args' := [.ag (a.map fun x => .sl 1 (x.map fun x => [.v (str x)])), .ag (b.map fun x => .sl 1 (x.map fun x => [.v (str x)]))]) (by first | with_reducible rfl | (simp -implicitDefEqProofs (maxSteps := 1000000) (disch := omega) [go_sem, g3, g4] <;> omega)) (F13_ok a b hx5 ?_)
  simp -implicitDefEqProofs (maxSteps := 1000000) (disch := omega) [go_sem, g3, g4]
  subst hc2
  refine vc_sound _ (by kernel_rfl) _ _ _ ?_
  simp -implicitDefEqProofs only [go_sem]
  have er := Option.some.inj h
  subst er
  simp -implicitDefEqProofs (maxSteps := 1000000) (disch := omega) [go_sem, g3, g4]
  refine retG_pureE (by repeat (first | exact (Ext.refl hw) | refine Ext.new ?_ _ | refine Ext.set ?_ (by first | omega | (simp [go_sem]; omega)) _ | refine Ext.del ?_ (by first | omega | (simp [go_sem]; omega)))) (by first | with_reducible rfl | (simp -implicitDefEqProofs (maxSteps := 1000000) (disch := omega) [go_sem, g3, g4] <;> omega)) ?_ hK
  simp [NB_v, NB_sl, NB_ag, NB_tu]

/-! cardcase/cardcaselaw16.ContactWith -/
noncomputable def F3 (c : List (List (List UInt8))) (f : Int) (l : List (List UInt8)) : Option Bool :=
  gd (c.length = 8) ((F6 c).bind fun (x5 : Bool) => if ¬ (x5 = true) then ((F8 ).bind fun (x7 : Bool) => some x7) else ((F7 l).bind fun (x8 : Bool) => if ¬ (x8 = true) then ((F8 ).bind fun (x11 : Bool) => some x11) else ((F9 c f l).bind fun (x13 : (List (List (List UInt8))) × Int) => gd (x13.1.length = 8) ((F10 c).bind fun (x17 : Bool) => if ¬ (x17 = true) then ((F11 x13.1 ([[], [], [], [], [], [], [], []])).bind fun (x19 : Bool) => if x19 = true then (if x13.2 = 2 then ((F8 ).bind fun (x20 : Bool) => some x20) else (some false)) else (some false)) else (if f < 0 then ((F11 x13.1 ([[], [], [], [], [], [], [], []])).bind fun (x24 : Bool) => if x24 = true then (if x13.2 = 2 then ((F8 ).bind fun (x25 : Bool) => some x25) else (some false)) else (some false)) else (if 7 < f then ((F11 x13.1 ([[], [], [], [], [], [], [], []])).bind fun (x30 : Bool) => if x30 = true then (if x13.2 = 2 then ((F8 ).bind fun (x31 : Bool) => some x31) else (some false)) else (some false)) else ((F12 f l).bind fun (x36 : List (List UInt8)) => gd (0 ≤ f ∧ f < 8) (gd ((c.set f.toNat x36).length = 8) ((F10 (c.set f.toNat x36)).bind fun (x41 : Bool) => if ¬ (x41 = true) then ((F11 x13.1 ([[], [], [], [], [], [], [], []])).bind fun (x44 : Bool) => if x44 = true then (if x13.2 = 2 then ((F8 ).bind fun (x45 : Bool) => some x45) else (some false)) else (some false)) else (if x13.2 = 0 then ((F11 x13.1 (c.set f.toNat x36)).bind fun (x49 : Bool) => if x49 = true then ((F8 ).bind fun (x50 : Bool) => some x50) else (some false)) else (some false)))))))))))

set_option maxHeartbeats 8000000 in
set_option pp.deepTerms false in
set_option maxRecDepth 8000 in
theorem F3_ok {H : IHeap} {K : IEnd → IHeap → Prop} (c : List (List (List UInt8))) (f : Int) (l : List (List UInt8)) {r : Bool} (h : F3 c f l = some r) (hK : K (.ret (.v (.bool r))) H) : ICalls prog 3 [.ag (c.map fun x => .sl 1 (x.map fun x => [.v (str x)])), .v (.int .i64 f), .sl 1 (l.map fun x => [.v (str x)])] H K := by
  refine ICalls_iwp (N := 76) func3 (by kernel_rfl) rfl (by kernel_rfl) (by kernel_rfl) fun cb hcb hw hbd hnb => ?_
  clear hbd hnb
  subst hcb
  unfold F3 at h
  refine IWp_seqF fun cb hc1 => ?_
  refine vc_sound _ (by kernel_rfl) _ _ _ ?_
  simp -implicitDefEqProofs (maxSteps := 1000000) (disch := omega) [go_sem, bdP]
  subst hc1
  refine IWp_seqF fun cb hc2 => ?_
  refine IWp_seqF fun cb hc3 => ?_
  refine vc_sound _ (by kernel_rfl) _ _ _ ?_
  obtain ⟨g4, h⟩ := gd_some.1 h
  try simp -implicitDefEqProofs (disch := omega) at g4
  simp -implicitDefEqProofs (maxSteps := 1000000) (disch := omega) [go_sem, bdP, g4]
  obtain ⟨x5, hx5, h⟩ := bind_some' h
  refine ICalls.eqA (args' := [.ag (c.map fun x => .sl 1 (x.map fun x => [.v (str x)]))]) (by first | with_reducible rfl | (simp -implicitDefEqProofs (maxSteps := 1000000) (disch := omega) [go_sem, bdP, g4] <;> omega)) (F6_ok c hx5 ?_)
  simp -implicitDefEqProofs (maxSteps := 1000000) (disch := omega) [go_sem, bdP, g4]
  refine splitG_f h (by first | with_reducible rfl | (simp -implicitDefEqProofs (maxSteps := 1000000) (disch := omega) [go_sem, bdP, g4] <;> omega)) ?_ ?_
  · intro c55 h
    try simp -implicitDefEqProofs (disch := omega) at c55
    simp -implicitDefEqProofs (maxSteps := 1000000) (disch := omega) [go_sem, bdP, g4]
    subst hc3
    refine IWp_cond_t (by first | with_reducible rfl | (simp -implicitDefEqProofs (maxSteps := 1000000) (disch := omega) [go_sem, bdP, g4] <;> omega)) rfl ?_
    refine IWp_seqF fun cb hc6 => ?_
    refine vc_sound _ (by kernel_rfl) _ _ _ ?_
    simp -implicitDefEqProofs (maxSteps := 1000000) (disch := omega) [go_sem, bdP, g4]
    obtain ⟨x7, hx7, h⟩ := bind_some' h
    refine ICalls.eqA (args' := []) (by first | with_reducible rfl | (simp -implicitDefEqProofs (maxSteps := 1000000) (disch := omega) [go_sem, bdP, g4] <;> omega)) (F8_ok  hx7 ?_)
    simp -implicitDefEqProofs (maxSteps := 1000000) (disch := omega) [go_sem, bdP, g4]
    subst hc6
    refine vc_sound _ (by kernel_rfl) _ _ _ ?_
    simp -implicitDefEqProofs only [go_sem]
    have er := Option.some.inj h
    subst er
    simp -implicitDefEqProofs (maxSteps := 1000000) (disch := omega) [go_sem, bdP, g4]
    refine retG_pureE (by repeat (first | exact (Ext.refl hw) | refine Ext.new ?_ _ | refine Ext.set ?_ (by first | omega | (simp [go_sem]; omega)) _ | refine Ext.del ?_ (by first | omega | (simp [go_sem]; omega)))) (by first | with_reducible rfl | (simp -implicitDefEqProofs (maxSteps := 1000000) (disch := omega) [go_sem, bdP, g4] <;> omega)) ?_ hK
    simp [NB_v, NB_sl, NB_ag, NB_tu]
  · intro c55 h
    try simp -implicitDefEqProofs (disch := omega) at c55
    simp -implicitDefEqProofs (maxSteps := 1000000) (disch := omega) [go_sem, bdP, g4]
    obtain ⟨x8, hx8, h⟩ := bind_some' h
    refine ICalls.eqA (args' := [.sl 1 (l.map fun x => [.v (str x)])]) (by first | with_reducible rfl | (simp -implicitDefEqProofs (maxSteps := 1000000) (disch := omega) [go_sem, bdP, g4] <;> omega)) (F7_ok l hx8 ?_)
    simp -implicitDefEqProofs (maxSteps := 1000000) (disch := omega) [go_sem, bdP, g4]
    subst hc3
    refine IWp_cond_i h (by first | with_reducible rfl | (simp -implicitDefEqProofs (maxSteps := 1000000) (disch := omega) [go_sem, bdP, g4] <;> omega)) rfl ?_ ?_
    · intro c9 h
      try simp -implicitDefEqProofs (disch := omega) at c9
      refine IWp_seqF fun cb hc10 => ?_
      refine vc_sound _ (by kernel_rfl) _ _ _ ?_
      simp -implicitDefEqProofs (maxSteps := 1000000) (disch := omega) [go_sem, bdP, g4]
      obtain ⟨x11, hx11, h⟩ := bind_some' h
      refine ICalls.eqA (args' := []) (by first | with_reducible rfl | (simp -implicitDefEqProofs (maxSteps := 1000000) (disch := omega) [go_sem, bdP, g4] <;> omega)) (F8_ok  hx11 ?_)
      simp -implicitDefEqProofs (maxSteps := 1000000) (disch := omega) [go_sem, bdP, g4]
      subst hc10
      refine vc_sound _ (by kernel_rfl) _ _ _ ?_
      simp -implicitDefEqProofs only [go_sem]
      have er := Option.some.inj h
      subst er
      simp -implicitDefEqProofs (maxSteps := 1000000) (disch := omega) [go_sem, bdP, g4]
      refine retG_pureE (by repeat (first | exact (Ext.refl hw) | refine Ext.new ?_ _ | refine Ext.set ?_ (by first | omega | (simp [go_sem]; omega)) _ | refine Ext.del ?_ (by first | omega | (simp [go_sem]; omega)))) (by first | with_reducible rfl | (simp -implicitDefEqProofs (maxSteps := 1000000) (disch := omega) [go_sem, bdP, g4] <;> omega)) ?_ hK
      simp [NB_v, NB_sl, NB_ag, NB_tu]
    · intro c9 h
      try simp -implicitDefEqProofs (disch := omega) at c9
      refine vc_sound _ (by kernel_rfl) _ _ _ ?_
      simp -implicitDefEqProofs only [go_sem]
      subst hc2
      refine IWp_seqF fun cb hc12 => ?_
      refine vc_sound _ (by kernel_rfl) _ _ _ ?_
      simp -implicitDefEqProofs (maxSteps := 1000000) (disch := omega) [go_sem, bdP, g4]
      obtain ⟨x13, hx13, h⟩ := bind_some' h
      refine ICalls.eqA (args' := [.ag (c.map fun x => .sl 1 (x.map fun x => [.v (str x)])), .v (.int .i64 f), .sl 1 (l.map fun x => [.v (str x)])]) (by first | with_reducible rfl | (simp -implicitDefEqProofs (maxSteps := 1000000) (disch := omega) [go_sem, bdP, g4] <;> omega)) (F9_ok c f l hx13 ?_)
      obtain ⟨g14, h⟩ := gd_some.1 h
      try simp -implicitDefEqProofs (disch := omega) at g14
      simp -implicitDefEqProofs (maxSteps := 1000000) (disch := omega) [go_sem, bdP, g4, g14]
      subst hc12
      refine IWp_seqF fun cb hc15 => ?_
      refine IWp_seqF fun cb hc16 => ?_
      refine vc_sound _ (by kernel_rfl) _ _ _ ?_
      simp -implicitDefEqProofs (maxSteps := 1000000) (disch := omega) [go_sem, bdP, g4, g14]
      obtain ⟨x17, hx17, h⟩ := bind_some' h
      refine ICalls.eqA (args' := [.ag (c.map fun x => .sl 1 (x.map fun x => [.v (str x)]))]) (by first | with_reducible rfl | (simp -implicitDefEqProofs (maxSteps := 1000000) (disch := omega) [go_sem, bdP, g4, g14] <;> omega)) (F10_ok c hx17 ?_)
      simp -implicitDefEqProofs (maxSteps := 1000000) (disch := omega) [go_sem, bdP, g4, g14]
      refine splitG_f h (by first | with_reducible rfl | (simp -implicitDefEqProofs (maxSteps := 1000000) (disch := omega) [go_sem, bdP, g4, g14] <;> omega)) ?_ ?_
      · intro c54 h
        try simp -implicitDefEqProofs (disch := omega) at c54
        simp -implicitDefEqProofs (maxSteps := 1000000) (disch := omega) [go_sem, bdP, g4, g14]
        subst hc16
        refine IWp_cond_t (by first | with_reducible rfl | (simp -implicitDefEqProofs (maxSteps := 1000000) (disch := omega) [go_sem, bdP, g4, g14] <;> omega)) rfl ?_
        refine IWp_seqF fun cb hc18 => ?_
        refine vc_sound _ (by kernel_rfl) _ _ _ ?_
        simp -implicitDefEqProofs (maxSteps := 1000000) (disch := omega) [go_sem, bdP, g4, g14]
        obtain ⟨x19, hx19, h⟩ := bind_some' h
        refine ICalls.wkL (args' := [.ag (x13.1.map fun x => .sl 1 (x.map fun x => [.v (str x)])), .ag (([[], [], [], [], [], [], [], []]).map fun x => .sl 1 (x.map fun x => [.v (str x)]))]) ?_ (F11_ok x13.1 ([[], [], [], [], [], [], [], []]) hx19 ?_)
        · repeat (first | exact WkL.nil | refine WkL.cons ?_ ?_ | exact Wk.refl _ | exact Wk.nil _ | refine Wk.agL ?_)
        simp -implicitDefEqProofs (maxSteps := 1000000) (disch := omega) [go_sem, bdP, g4, g14]
        refine splitG_f h (by first | with_reducible rfl | (simp -implicitDefEqProofs (maxSteps := 1000000) (disch := omega) [go_sem, bdP, g4, g14] <;> omega)) ?_ ?_
        · intro c22 h
          try simp -implicitDefEqProofs (disch := omega) at c22
          simp -implicitDefEqProofs (maxSteps := 1000000) (disch := omega) [go_sem, bdP, g4, g14]
          refine splitG_f h (by first | with_reducible rfl | (simp -implicitDefEqProofs (maxSteps := 1000000) (disch := omega) [go_sem, bdP, g4, g14] <;> omega)) ?_ ?_
          · intro c21 h
            try simp -implicitDefEqProofs (disch := omega) at c21
            simp -implicitDefEqProofs (maxSteps := 1000000) (disch := omega) [go_sem, bdP, g4, g14]
            obtain ⟨x20, hx20, h⟩ := bind_some' h
            refine ICalls.eqA (args' := []) (by first | with_reducible rfl | (simp -implicitDefEqProofs (maxSteps := 1000000) (disch := omega) [go_sem, bdP, g4, g14] <;> omega)) (F8_ok  hx20 ?_)
            simp -implicitDefEqProofs (maxSteps := 1000000) (disch := omega) [go_sem, bdP, g4, g14]
            subst hc18
            refine vc_sound _ (by kernel_rfl) _ _ _ ?_
            simp -implicitDefEqProofs only [go_sem]
            have er := Option.some.inj h
            subst er
            simp -implicitDefEqProofs (maxSteps := 1000000) (disch := omega) [go_sem, bdP, g4, g14]
            refine retG_pureE (by repeat (first | exact (Ext.refl hw) | refine Ext.new ?_ _ | refine Ext.set ?_ (by first | omega | (simp [go_sem]; omega)) _ | refine Ext.del ?_ (by first | omega | (simp [go_sem]; omega)))) (by first | with_reducible rfl | (simp -implicitDefEqProofs (maxSteps := 1000000) (disch := omega) [go_sem, bdP, g4, g14] <;> omega)) ?_ hK
            simp [NB_v, NB_sl, NB_ag, NB_tu]
          · intro c21 h
            try simp -implicitDefEqProofs (disch := omega) at c21
            simp -implicitDefEqProofs (maxSteps := 1000000) (disch := omega) [go_sem, bdP, g4, g14]
            subst hc18
            refine vc_sound _ (by kernel_rfl) _ _ _ ?_
            simp -implicitDefEqProofs only [go_sem]
            have er := Option.some.inj h
            subst er
            simp -implicitDefEqProofs (maxSteps := 1000000) (disch := omega) [go_sem, bdP, g4, g14]
            refine retG_pureE (by repeat (first | exact (Ext.refl hw) | refine Ext.new ?_ _ | refine Ext.set ?_ (by first | omega | (simp [go_sem]; omega)) _ | refine Ext.del ?_ (by first | omega | (simp [go_sem]; omega)))) (by first | with_reducible rfl | (simp -implicitDefEqProofs (maxSteps := 1000000) (disch := omega) [go_sem, bdP, g4, g14] <;> omega)) ?_ hK
            simp [NB_v, NB_sl, NB_ag, NB_tu]
        · intro c22 h
          try simp -implicitDefEqProofs (disch := omega) at c22
          simp -implicitDefEqProofs (maxSteps := 1000000) (disch := omega) [go_sem, bdP, g4, g14]
          subst hc18
          refine vc_sound _ (by kernel_rfl) _ _ _ ?_
          simp -implicitDefEqProofs only [go_sem]
          have er := Option.some.inj h
          subst er
          simp -implicitDefEqProofs (maxSteps := 1000000) (disch := omega) [go_sem, bdP, g4, g14]
          refine retG_pureE (by repeat (first | exact (Ext.refl hw) | refine Ext.new ?_ _ | refine Ext.set ?_ (by first | omega | (simp [go_sem]; omega)) _ | refine Ext.del ?_ (by first | omega | (simp [go_sem]; omega)))) (by first | with_reducible rfl | (simp -implicitDefEqProofs (maxSteps := 1000000) (disch := omega) [go_sem, bdP, g4, g14] <;> omega)) ?_ hK
          simp [NB_v, NB_sl, NB_ag, NB_tu]
      · intro c54 h
        try simp -implicitDefEqProofs (disch := omega) at c54
        simp -implicitDefEqProofs (maxSteps := 1000000) (disch := omega) [go_sem, bdP, g4, g14]
        refine splitG_f h (by first | with_reducible rfl | (simp -implicitDefEqProofs (maxSteps := 1000000) (disch := omega) [go_sem, bdP, g4, g14] <;> omega)) ?_ ?_
        · intro c53 h
          try simp -implicitDefEqProofs (disch := omega) at c53
          simp -implicitDefEqProofs (maxSteps := 1000000) (disch := omega) [go_sem, bdP, g4, g14]
          subst hc16
          refine IWp_cond_t (by first | with_reducible rfl | (simp -implicitDefEqProofs (maxSteps := 1000000) (disch := omega) [go_sem, bdP, g4, g14] <;> omega)) rfl ?_
          refine IWp_seqF fun cb hc23 => ?_
          refine vc_sound _ (by kernel_rfl) _ _ _ ?_
          simp -implicitDefEqProofs (maxSteps := 1000000) (disch := omega) [go_sem, bdP, g4, g14]
          obtain ⟨x24, hx24, h⟩ := bind_some' h
          refine ICalls.wkL (args' := [.ag (x13.1.map fun x => .sl 1 (x.map fun x => [.v (str x)])), .ag (([[], [], [], [], [], [], [], []]).map fun x => .sl 1 (x.map fun x => [.v (str x)]))]) ?_ (F11_ok x13.1 ([[], [], [], [], [], [], [], []]) hx24 ?_)
          · repeat (first | exact WkL.nil | refine WkL.cons ?_ ?_ | exact Wk.refl _ | exact Wk.nil _ | refine Wk.agL ?_)
          simp -implicitDefEqProofs (maxSteps := 1000000) (disch := omega) [go_sem, bdP, g4, g14]
          refine splitG_f h (by first | with_reducible rfl | (simp -implicitDefEqProofs (maxSteps := 1000000) (disch := omega) [go_sem, bdP, g4, g14] <;> omega)) ?_ ?_
          · intro c27 h
            try simp -implicitDefEqProofs (disch := omega) at c27
            simp -implicitDefEqProofs (maxSteps := 1000000) (disch := omega) [go_sem, bdP, g4, g14]
            refine splitG_f h (by first | with_reducible rfl | (simp -implicitDefEqProofs (maxSteps := 1000000) (disch := omega) [go_sem, bdP, g4, g14] <;> omega)) ?_ ?_
            · intro c26 h
              try simp -implicitDefEqProofs (disch := omega) at c26
              simp -implicitDefEqProofs (maxSteps := 1000000) (disch := omega) [go_sem, bdP, g4, g14]
              obtain ⟨x25, hx25, h⟩ := bind_some' h
              refine ICalls.eqA (args' := []) (by first | with_reducible rfl | (simp -implicitDefEqProofs (maxSteps := 1000000) (disch := omega) [go_sem, bdP, g4, g14] <;> omega)) (F8_ok  hx25 ?_)
              simp -implicitDefEqProofs (maxSteps := 1000000) (disch := omega) [go_sem, bdP, g4, g14]
              subst hc23
              refine vc_sound _ (by kernel_rfl) _ _ _ ?_
              simp -implicitDefEqProofs only [go_sem]
              have er := Option.some.inj h
              subst er
              simp -implicitDefEqProofs (maxSteps := 1000000) (disch := omega) [go_sem, bdP, g4, g14]
              refine retG_pureE (by repeat (first | exact (Ext.refl hw) | refine Ext.new ?_ _ | refine Ext.set ?_ (by first | omega | (simp [go_sem]; omega)) _ | refine Ext.del ?_ (by first | omega | (simp [go_sem]; omega)))) (by first | with_reducible rfl | (simp -implicitDefEqProofs (maxSteps := 1000000) (disch := omega) [go_sem, bdP, g4, g14] <;> omega)) ?_ hK
              simp [NB_v, NB_sl, NB_ag, NB_tu]
            · intro c26 h
              try simp -implicitDefEqProofs (disch := omega) at c26
              simp -implicitDefEqProofs (maxSteps := 1000000) (disch := omega) [go_sem, bdP, g4, g14]
              subst hc23
              refine vc_sound _ (by kernel_rfl) _ _ _ ?_
              simp -implicitDefEqProofs only [go_sem]
              have er := Option.some.inj h
              subst er
              simp -implicitDefEqProofs (maxSteps := 1000000) (disch := omega) [go_sem, bdP, g4, g14]
              refine retG_pureE (by repeat (first | exact (Ext.refl hw) | refine Ext.new ?_ _ | refine Ext.set ?_ (by first | omega | (simp [go_sem]; omega)) _ | refine Ext.del ?_ (by first | omega | (simp [go_sem]; omega)))) (by first | with_reducible rfl | (simp -implicitDefEqProofs (maxSteps := 1000000) (disch := omega) [go_sem, bdP, g4, g14] <;> omega)) ?_ hK
              simp [NB_v, NB_sl, NB_ag, NB_tu]
          · intro c27 h
            try simp -implicitDefEqProofs (disch := omega) at c27
            simp -implicitDefEqProofs (maxSteps := 1000000) (disch := omega) [go_sem, bdP, g4, g14]
            subst hc23
            refine vc_sound _ (by kernel_rfl) _ _ _ ?_
            simp -implicitDefEqProofs only [go_sem]
            have er := Option.some.inj h
            subst er
            simp -implicitDefEqProofs (maxSteps := 1000000) (disch := omega) [go_sem, bdP, g4, g14]
            refine retG_pureE (by repeat (first | exact (Ext.refl hw) | refine Ext.new ?_ _ | refine Ext.set ?_ (by first | omega | (simp [go_sem]; omega)) _ | refine Ext.del ?_ (by first | omega | (simp [go_sem]; omega)))) (by first | with_reducible rfl | (simp -implicitDefEqProofs (maxSteps := 1000000) (disch := omega) [go_sem, bdP, g4, g14] <;> omega)) ?_ hK
            simp [NB_v, NB_sl, NB_ag, NB_tu]
        · intro c53 h
          try simp -implicitDefEqProofs (disch := omega) at c53
          simp -implicitDefEqProofs (maxSteps := 1000000) (disch := omega) [go_sem, bdP, g4, g14]
          subst hc16
          refine IWp_cond_i h (by first | with_reducible rfl | (simp -implicitDefEqProofs (maxSteps := 1000000) (disch := omega) [go_sem, bdP, g4, g14] <;> omega)) rfl ?_ ?_
          · intro c28 h
            try simp -implicitDefEqProofs (disch := omega) at c28
            refine IWp_seqF fun cb hc29 => ?_
            refine vc_sound _ (by kernel_rfl) _ _ _ ?_
            simp -implicitDefEqProofs (maxSteps := 1000000) (disch := omega) [go_sem, bdP, g4, g14]
            obtain ⟨x30, hx30, h⟩ := bind_some' h
            refine ICalls.wkL (args' := [.ag (x13.1.map fun x => .sl 1 (x.map fun x => [.v (str x)])), .ag (([[], [], [], [], [], [], [], []]).map fun x => .sl 1 (x.map fun x => [.v (str x)]))]) ?_ (F11_ok x13.1 ([[], [], [], [], [], [], [], []]) hx30 ?_)
            · repeat (first | exact WkL.nil | refine WkL.cons ?_ ?_ | exact Wk.refl _ | exact Wk.nil _ | refine Wk.agL ?_)
            simp -implicitDefEqProofs (maxSteps := 1000000) (disch := omega) [go_sem, bdP, g4, g14]
            refine splitG_f h (by first | with_reducible rfl | (simp -implicitDefEqProofs (maxSteps := 1000000) (disch := omega) [go_sem, bdP, g4, g14] <;> omega)) ?_ ?_
            · intro c33 h
              try simp -implicitDefEqProofs (disch := omega) at c33
              simp -implicitDefEqProofs (maxSteps := 1000000) (disch := omega) [go_sem, bdP, g4, g14]
              refine splitG_f h (by first | with_reducible rfl | (simp -implicitDefEqProofs (maxSteps := 1000000) (disch := omega) [go_sem, bdP, g4, g14] <;> omega)) ?_ ?_
              · intro c32 h
                try simp -implicitDefEqProofs (disch := omega) at c32
                simp -implicitDefEqProofs (maxSteps := 1000000) (disch := omega) [go_sem, bdP, g4, g14]
                obtain ⟨x31, hx31, h⟩ := bind_some' h
                refine ICalls.eqA (args' := []) (by first | with_reducible rfl | (simp -implicitDefEqProofs (maxSteps := 1000000) (disch := omega) [go_sem, bdP, g4, g14] <;> omega)) (F8_ok  hx31 ?_)
                simp -implicitDefEqProofs (maxSteps := 1000000) (disch := omega) [go_sem, bdP, g4, g14]
                subst hc29
                refine vc_sound _ (by kernel_rfl) _ _ _ ?_
                simp -implicitDefEqProofs only [go_sem]
                have er := Option.some.inj h
                subst er
                simp -implicitDefEqProofs (maxSteps := 1000000) (disch := omega) [go_sem, bdP, g4, g14]
                refine retG_pureE (by repeat (first | exact (Ext.refl hw) | refine Ext.new ?_ _ | refine Ext.set ?_ (by first | omega | (simp [go_sem]; omega)) _ | refine Ext.del ?_ (by first | omega | (simp [go_sem]; omega)))) (by first | with_reducible rfl | (simp -implicitDefEqProofs (maxSteps := 1000000) (disch := omega) [go_sem, bdP, g4, g14] <;> omega)) ?_ hK
                simp [NB_v, NB_sl, NB_ag, NB_tu]
              · intro c32 h
                try simp -implicitDefEqProofs (disch := omega) at c32
                simp -implicitDefEqProofs (maxSteps := 1000000) (disch := omega) [go_sem, bdP, g4, g14]
                subst hc29
                refine vc_sound _ (by kernel_rfl) _ _ _ ?_
                simp -implicitDefEqProofs only [go_sem]
                have er := Option.some.inj h
                subst er
                simp -implicitDefEqProofs (maxSteps := 1000000) (disch := omega) [go_sem, bdP, g4, g14]
                refine retG_pureE (by repeat (first | exact (Ext.refl hw) | refine Ext.new ?_ _ | refine Ext.set ?_ (by first | omega | (simp [go_sem]; omega)) _ | refine Ext.del ?_ (by first | omega | (simp [go_sem]; omega)))) (by first | with_reducible rfl | (simp -implicitDefEqProofs (maxSteps := 1000000) (disch := omega) [go_sem, bdP, g4, g14] <;> omega)) ?_ hK
                simp [NB_v, NB_sl, NB_ag, NB_tu]
            · intro c33 h
              try simp -implicitDefEqProofs (disch := omega) at c33
              simp -implicitDefEqProofs (maxSteps := 1000000) (disch := omega) [go_sem, bdP, g4, g14]
              subst hc29
              refine vc_sound _ (by kernel_rfl) _ _ _ ?_
              simp -implicitDefEqProofs only [go_sem]
              have er := Option.some.inj h
              subst er
              simp -implicitDefEqProofs (maxSteps := 1000000) (disch := omega) [go_sem, bdP, g4, g14]
              refine retG_pureE (by repeat (first | exact (Ext.refl hw) | refine Ext.new ?_ _ | refine Ext.set ?_ (by first | omega | (simp [go_sem]; omega)) _ | refine Ext.del ?_ (by first | omega | (simp [go_sem]; omega)))) (by first | with_reducible rfl | (simp -implicitDefEqProofs (maxSteps := 1000000) (disch := omega) [go_sem, bdP, g4, g14] <;> omega)) ?_ hK
              simp [NB_v, NB_sl, NB_ag, NB_tu]
          · intro c28 h
            try simp -implicitDefEqProofs (disch := omega) at c28
            refine vc_sound _ (by kernel_rfl) _ _ _ ?_
            simp -implicitDefEqProofs only [go_sem]
            subst hc15
            refine IWp_seqF fun cb hc34 => ?_
            refine vc_sound _ (by kernel_rfl) _ _ _ ?_
            simp -implicitDefEqProofs (maxSteps := 1000000) (disch := omega) [go_sem, bdP, g4, g14]
            subst hc34
            refine IWp_seqF fun cb hc35 => ?_
            refine vc_sound _ (by kernel_rfl) _ _ _ ?_
            simp -implicitDefEqProofs (maxSteps := 1000000) (disch := omega) [go_sem, bdP, g4, g14]
            obtain ⟨x36, hx36, h⟩ := bind_some' h
            refine ICalls.eqA (args' := [.v (.int .i64 f), .sl 1 (l.map fun x => [.v (str x)])]) (by first | with_reducible rfl | (simp -implicitDefEqProofs (maxSteps := 1000000) (disch := omega) [go_sem, bdP, g4, g14] <;> omega)) (F12_ok f l hx36 ?_)
            obtain ⟨g37, h⟩ := gd_some.1 h
            try simp -implicitDefEqProofs (disch := omega) at g37
            simp -implicitDefEqProofs (maxSteps := 1000000) (disch := omega) [go_sem, bdP, g4, g14]
            subst hc35
            refine IWp_seqF fun cb hc38 => ?_
            refine IWp_seqF fun cb hc39 => ?_
            refine vc_sound _ (by kernel_rfl) _ _ _ ?_
            obtain ⟨g40, h⟩ := gd_some.1 h
            try simp -implicitDefEqProofs (disch := omega) at g40
            simp -implicitDefEqProofs (maxSteps := 1000000) (disch := omega) [go_sem, bdP, g4, g14, g40]
            obtain ⟨x41, hx41, h⟩ := bind_some' h
            refine ICalls.eqA (args' := [.ag ((c.set f.toNat x36).map fun x => .sl 1 (x.map fun x => [.v (str x)]))]) (by first | with_reducible rfl | (simp -implicitDefEqProofs (maxSteps := 1000000) (disch := omega) [go_sem, bdP, g4, g14, g40] <;> omega)) (F10_ok (c.set f.toNat x36) hx41 ?_)
            simp -implicitDefEqProofs (maxSteps := 1000000) (disch := omega) [go_sem, bdP, g4, g14, g40]
            subst hc39
            refine IWp_cond_i h (by first | with_reducible rfl | (simp -implicitDefEqProofs (maxSteps := 1000000) (disch := omega) [go_sem, bdP, g4, g14, g40] <;> omega)) rfl ?_ ?_
            · intro c42 h
              try simp -implicitDefEqProofs (disch := omega) at c42
              refine IWp_seqF fun cb hc43 => ?_
              refine vc_sound _ (by kernel_rfl) _ _ _ ?_
              simp -implicitDefEqProofs (maxSteps := 1000000) (disch := omega) [go_sem, bdP, g4, g14, g40]
              obtain ⟨x44, hx44, h⟩ := bind_some' h
              refine ICalls.wkL (args' := [.ag (x13.1.map fun x => .sl 1 (x.map fun x => [.v (str x)])), .ag (([[], [], [], [], [], [], [], []]).map fun x => .sl 1 (x.map fun x => [.v (str x)]))]) ?_ (F11_ok x13.1 ([[], [], [], [], [], [], [], []]) hx44 ?_)
              · repeat (first | exact WkL.nil | refine WkL.cons ?_ ?_ | exact Wk.refl _ | exact Wk.nil _ | refine Wk.agL ?_)
              simp -implicitDefEqProofs (maxSteps := 1000000) (disch := omega) [go_sem, bdP, g4, g14, g40]
              refine splitG_f h (by first | with_reducible rfl | (simp -implicitDefEqProofs (maxSteps := 1000000) (disch := omega) [go_sem, bdP, g4, g14, g40] <;> omega)) ?_ ?_
              · intro c47 h
                try simp -implicitDefEqProofs (disch := omega) at c47
                simp -implicitDefEqProofs (maxSteps := 1000000) (disch := omega) [go_sem, bdP, g4, g14, g40]
                refine splitG_f h (by first | with_reducible rfl | (simp -implicitDefEqProofs (maxSteps := 1000000) (disch := omega) [go_sem, bdP, g4, g14, g40] <;> omega)) ?_ ?_
                · intro c46 h
                  try simp -implicitDefEqProofs (disch := omega) at c46
                  simp -implicitDefEqProofs (maxSteps := 1000000) (disch := omega) [go_sem, bdP, g4, g14, g40]
                  obtain ⟨x45, hx45, h⟩ := bind_some' h
                  refine ICalls.eqA (args' := []) (by first | with_reducible rfl | (simp -implicitDefEqProofs (maxSteps := 1000000) (disch := omega) [go_sem, bdP, g4, g14, g40] <;> omega)) (F8_ok  hx45 ?_)
                  simp -implicitDefEqProofs (maxSteps := 1000000) (disch := omega) [go_sem, bdP, g4, g14, g40]
                  subst hc43
                  refine vc_sound _ (by kernel_rfl) _ _ _ ?_
                  simp -implicitDefEqProofs only [go_sem]
                  have er := Option.some.inj h
                  subst er
                  simp -implicitDefEqProofs (maxSteps := 1000000) (disch := omega) [go_sem, bdP, g4, g14, g40]
                  refine retG_pureE (by repeat (first | exact (Ext.refl hw) | refine Ext.new ?_ _ | refine Ext.set ?_ (by first | omega | (simp [go_sem]; omega)) _ | refine Ext.del ?_ (by first | omega | (simp [go_sem]; omega)))) (by first | with_reducible rfl | (simp -implicitDefEqProofs (maxSteps := 1000000) (disch := omega) [go_sem, bdP, g4, g14, g40] <;> omega)) ?_ hK
                  simp [NB_v, NB_sl, NB_ag, NB_tu]
                · intro c46 h
                  try simp -implicitDefEqProofs (disch := omega) at c46
                  simp -implicitDefEqProofs (maxSteps := 1000000) (disch := omega) [go_sem, bdP, g4, g14, g40]
                  subst hc43
                  refine vc_sound _ (by kernel_rfl) _ _ _ ?_
                  simp -implicitDefEqProofs only [go_sem]
                  have er := Option.some.inj h
                  subst er
                  simp -implicitDefEqProofs (maxSteps := 1000000) (disch := omega) [go_sem, bdP, g4, g14, g40]
                  refine retG_pureE (by repeat (first | exact (Ext.refl hw) | refine Ext.new ?_ _ | refine Ext.set ?_ (by first | omega | (simp [go_sem]; omega)) _ | refine Ext.del ?_ (by first | omega | (simp [go_sem]; omega)))) (by first | with_reducible rfl | (simp -implicitDefEqProofs (maxSteps := 1000000) (disch := omega) [go_sem, bdP, g4, g14, g40] <;> omega)) ?_ hK
                  simp [NB_v, NB_sl, NB_ag, NB_tu]
              · intro c47 h
                try simp -implicitDefEqProofs (disch := omega) at c47
                simp -implicitDefEqProofs (maxSteps := 1000000) (disch := omega) [go_sem, bdP, g4, g14, g40]
                subst hc43
                refine vc_sound _ (by kernel_rfl) _ _ _ ?_
                simp -implicitDefEqProofs only [go_sem]
                have er := Option.some.inj h
                subst er
                simp -implicitDefEqProofs (maxSteps := 1000000) (disch := omega) [go_sem, bdP, g4, g14, g40]
                refine retG_pureE (by repeat (first | exact (Ext.refl hw) | refine Ext.new ?_ _ | refine Ext.set ?_ (by first | omega | (simp [go_sem]; omega)) _ | refine Ext.del ?_ (by first | omega | (simp [go_sem]; omega)))) (by first | with_reducible rfl | (simp -implicitDefEqProofs (maxSteps := 1000000) (disch := omega) [go_sem, bdP, g4, g14, g40] <;> omega)) ?_ hK
                simp [NB_v, NB_sl, NB_ag, NB_tu]
            · intro c42 h
              try simp -implicitDefEqProofs (disch := omega) at c42
              refine vc_sound _ (by kernel_rfl) _ _ _ ?_
              simp -implicitDefEqProofs only [go_sem]
              subst hc38
              refine IWp_seqF fun cb hc48 => ?_
              refine vc_sound _ (by kernel_rfl) _ _ _ ?_
              simp -implicitDefEqProofs (maxSteps := 1000000) (disch := omega) [go_sem, bdP, g4, g14, g40]
              refine splitG_f h (by first | with_reducible rfl | (simp -implicitDefEqProofs (maxSteps := 1000000) (disch := omega) [go_sem, bdP, g4, g14, g40] <;> omega)) ?_ ?_
              · intro c52 h
                try simp -implicitDefEqProofs (disch := omega) at c52
                simp -implicitDefEqProofs (maxSteps := 1000000) (disch := omega) [go_sem, bdP, g4, g14, g40]
                obtain ⟨x49, hx49, h⟩ := bind_some' h
                refine ICalls.eqA (args' := [.ag (x13.1.map fun x => .sl 1 (x.map fun x => [.v (str x)])), .ag ((c.set f.toNat x36).map fun x => .sl 1 (x.map fun x => [.v (str x)]))]) (by first | with_reducible rfl | (simp -implicitDefEqProofs (maxSteps := 1000000) (disch := omega) [go_sem, bdP, g4, g14, g40] <;> omega)) (F11_ok x13.1 (c.set f.toNat x36) hx49 ?_)
                simp -implicitDefEqProofs (maxSteps := 1000000) (disch := omega) [go_sem, bdP, g4, g14, g40]
                refine splitG_f h (by first | with_reducible rfl | (simp -implicitDefEqProofs (maxSteps := 1000000) (disch := omega) [go_sem, bdP, g4, g14, g40] <;> omega)) ?_ ?_
                · intro c51 h
                  try simp -implicitDefEqProofs (disch := omega) at c51
                  simp -implicitDefEqProofs (maxSteps := 1000000) (disch := omega) [go_sem, bdP, g4, g14, g40]
                  obtain ⟨x50, hx50, h⟩ := bind_some' h
                  refine ICalls.eqA (args' := []) (by first | with_reducible rfl | (simp -implicitDefEqProofs (maxSteps := 1000000) (disch := omega) [go_sem, bdP, g4, g14, g40] <;> omega)) (F8_ok  hx50 ?_)
                  simp -implicitDefEqProofs (maxSteps := 1000000) (disch := omega) [go_sem, bdP, g4, g14, g40]
                  subst hc48
                  refine vc_sound _ (by kernel_rfl) _ _ _ ?_
                  simp -implicitDefEqProofs only [go_sem]
                  have er := Option.some.inj h
                  subst er
                  simp -implicitDefEqProofs (maxSteps := 1000000) (disch := omega) [go_sem, bdP, g4, g14, g40]
                  refine retG_pureE (by repeat (first | exact (Ext.refl hw) | refine Ext.new ?_ _ | refine Ext.set ?_ (by first | omega | (simp [go_sem]; omega)) _ | refine Ext.del ?_ (by first | omega | (simp [go_sem]; omega)))) (by first | with_reducible rfl | (simp -implicitDefEqProofs (maxSteps := 1000000) (disch := omega) [go_sem, bdP, g4, g14, g40] <;> omega)) ?_ hK
                  simp [NB_v, NB_sl, NB_ag, NB_tu]
                · intro c51 h
                  try simp -implicitDefEqProofs (disch := omega) at c51
                  simp -implicitDefEqProofs (maxSteps := 1000000) (disch := omega) [go_sem, bdP, g4, g14, g40]
                  subst hc48
                  refine vc_sound _ (by kernel_rfl) _ _ _ ?_
                  simp -implicitDefEqProofs only [go_sem]
                  have er := Option.some.inj h
                  subst er
                  simp -implicitDefEqProofs (maxSteps := 1000000) (disch := omega) [go_sem, bdP, g4, g14, g40]
                  refine retG_pureE (by repeat (first | exact (Ext.refl hw) | refine Ext.new ?_ _ | refine Ext.set ?_ (by first | omega | (simp [go_sem]; omega)) _ | refine Ext.del ?_ (by first | omega | (simp [go_sem]; omega)))) (by first | with_reducible rfl | (simp -implicitDefEqProofs (maxSteps := 1000000) (disch := omega) [go_sem, bdP, g4, g14, g40] <;> omega)) ?_ hK
                  simp [NB_v, NB_sl, NB_ag, NB_tu]
              · intro c52 h
                try simp -implicitDefEqProofs (disch := omega) at c52
                simp -implicitDefEqProofs (maxSteps := 1000000) (disch := omega) [go_sem, bdP, g4, g14, g40]
                subst hc48
                refine vc_sound _ (by kernel_rfl) _ _ _ ?_
                simp -implicitDefEqProofs only [go_sem]
                have er := Option.some.inj h
                subst er
                simp -implicitDefEqProofs (maxSteps := 1000000) (disch := omega) [go_sem, bdP, g4, g14, g40]
                refine retG_pureE (by repeat (first | exact (Ext.refl hw) | refine Ext.new ?_ _ | refine Ext.set ?_ (by first | omega | (simp [go_sem]; omega)) _ | refine Ext.del ?_ (by first | omega | (simp [go_sem]; omega)))) (by first | with_reducible rfl | (simp -implicitDefEqProofs (maxSteps := 1000000) (disch := omega) [go_sem, bdP, g4, g14, g40] <;> omega)) ?_ hK
                simp [NB_v, NB_sl, NB_ag, NB_tu]
end Go.Idl
