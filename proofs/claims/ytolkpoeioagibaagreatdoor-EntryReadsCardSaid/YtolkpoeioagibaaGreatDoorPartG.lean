/- The entry of any text, or that it is of none. Part 7. Conditions: none. -/
import Derived.Test.YtolkpoeioagibaaGreatDoorPartF
import Derived.Lib.AtoiTie
import Derived.ProofKit
import Derived.OpenShut
import Derived.ChangeSame
import Derived.Test.YtolkpoeioagibaaGreatDoorRows
import Derived.Test.YtolkpoeioagibaaGreatDoorTie
import Derived.Test.YtolkpoeioagibaaGreatDoorCards
import Derived.LaidMore
import Derived.Carry
import Derived.Stop.Joined
import Derived.SevenTiedAt
import Derived.SizedLaws
import Derived.Handed
import Derived.Ground.NamesProg
import Derived.Shelf.LaysM
import Derived.Test.YtolkpoeioagibaaGreatDoorProg
import Derived.Stop.LaidErr
import Derived.Lib.LaidTab
set_option linter.unusedSimpArgs false
set_option linter.unusedVariables false

namespace Go.Idl

open Go Go.Proofs.Tryz

/-! (*cardcase/entry.reader).number -/

noncomputable def F69 (a0 : S102) (a1 : List UInt8) (a2 : Int) : Option (Int × S102) :=
  (F97 a1).bind fun (x3 : Int × Bool) => if x3.2 = true then (some ((0, (⟨a0.ftext, true⟩ : S102)))) else (if x3.1 < 1 then (some ((0, (⟨a0.ftext, true⟩ : S102)))) else (if a2 < x3.1 then (some ((0, (⟨a0.ftext, true⟩ : S102)))) else ((F66 x3.1).bind fun (x12 : (List UInt8)) => if ¬ x12 = a1 then (some ((0, (⟨a0.ftext, true⟩ : S102)))) else (some (x3.1, a0)))))

set_option maxHeartbeats 8000000 in
set_option pp.deepTerms false in
set_option maxRecDepth 60000 in
theorem F69_ok {H : IHeap} {K : IEnd → IHeap → Prop} (a0 : S102) (a1 : List UInt8) (a2 : Int) (ka0 : Nat) (oka0 : H.obj ka0 = some (.cells ([.v (str a0.ftext.fs), .v (.bool a0.fbad)]))) (hV : VOK prog H) {r : Int × S102} (h : F69 a0 a1 a2 = some r) (hK : K (.ret (.v (.int .i64 r.1))) (setL H [(ka0, .cells ([.v (str r.2.ftext.fs), .v (.bool r.2.fbad)]))])) : ICalls prog 69 [.p ka0 0, .v (str a1), .v (.int .i64 a2)] H K := by
  refine ICalls_iwp (N := 35) func69 (by kernel_rfl) rfl (by kernel_rfl) (by kernel_rfl) fun cb hcb hw hbd hnb => ?_
  clear hbd hnb
  subst hcb
  unfold F69 at h
  have hka0 : ka0 < H.next := Nat.lt_of_not_le fun q => by rw [hw _ q] at oka0; cases oka0
  refine IWp_seqF fun cb hc1 => ?_
  refine vcK ?_
  try simp -implicitDefEqProofs (maxSteps := 1000000) (disch := omega) [go_sem, oka0]
  subst hc1
  refine IWp_seqF fun cb hc2 => ?_
  refine vcK ?_
  try simp -implicitDefEqProofs (maxSteps := 1000000) (disch := omega) [go_sem, oka0]
  obtain ⟨x3, hx3, h⟩ := bind_some' h
  refine ICalls.eqA (args' := [.v (str a1)]) (by first | with_reducible rfl | (simp -implicitDefEqProofs (maxSteps := 1000000) (disch := omega) [go_sem, oka0] <;> omega)) (F97_ok a1 (by first | exact hV.of rfl | exact hV.of ((Ext.delB (Ext.refl hw) ka0)).sn) hx3 ?_)
  try simp -implicitDefEqProofs (maxSteps := 1000000) (disch := omega) [go_sem, oka0]
  subst hc2
  refine IWp_seqF fun cb hc4 => ?_
  refine IWp_seqF fun cb hc5 => ?_
  refine vcK ?_
  try simp -implicitDefEqProofs (maxSteps := 1000000) (disch := omega) [go_sem, oka0]
  refine splitG_f h (by first | with_reducible rfl | (simp -implicitDefEqProofs (maxSteps := 1000000) (disch := omega) [go_sem, oka0] <;> omega)) ?_ ?_
  · intro c19 h
    try simp -implicitDefEqProofs (disch := omega) at c19
    try simp -implicitDefEqProofs (maxSteps := 1000000) (disch := omega) [go_sem, oka0]
    subst hc5
    refine IWp_cond_t (by first | with_reducible rfl | (simp -implicitDefEqProofs (maxSteps := 1000000) (disch := omega) [go_sem, oka0] <;> omega)) rfl ?_
    refine IWp_seqF fun cb hc6 => ?_
    refine vcK ?_
    try simp -implicitDefEqProofs (maxSteps := 1000000) (disch := omega) [go_sem, oka0]
    subst hc6
    refine IWp_seqF fun cb hc7 => ?_
    refine vcK ?_
    try simp -implicitDefEqProofs (maxSteps := 1000000) (disch := omega) [go_sem, oka0]
    subst hc7
    refine vcK ?_
    simp -implicitDefEqProofs only [go_sem]
    have er := Option.some.inj h
    subst er
    try simp -implicitDefEqProofs (maxSteps := 1000000) (disch := omega) [go_sem, oka0]
    refine retG_fzE (J := setL H [(ka0, .cells ([.v (str a0.ftext.fs), .v (.bool true)]))]) (r' := .v (.int .i64 0)) (EndH.ioL [(ka0, .cells ([.v (str a0.ftext.fs), .v (.bool true)]))] (by simp only [delL_cons, delL_nil]; repeat (first | exact (Ext.delB (Ext.refl hw) ka0) | refine Ext.new ?_ _ | refine Ext.set ?_ (by first | omega | (simp [go_sem]; done) | (simp [go_sem]; omega)) _ | refine Ext.del ?_ (by first | omega | (simp [go_sem]; done) | (simp [go_sem]; omega)) | refine Ext.setN ?_ (by simp [go_sem]) _)) (by intro p hp; simp only [List.mem_cons, List.not_mem_nil, or_false] at hp; (try rcases hp with hp); all_goals (subst hp; refine ⟨by omega, by first | with_reducible assumption | rfl | simp -implicitDefEqProofs (maxSteps := 1000000) (disch := omega) [go_sem, oka0], by repeat (first | exact .v _ | exact NBL.nil | refine NBL.cons ?_ ?_ | refine NB_slm fun _ => ?_ | refine NB_agL ?_ | refine NB_tuL ?_ | refine NBL.app ?_ ?_ | refine NBL.map fun _ => ?_ | exact NB_errI | refine NBo_cL ?_ | refine NBo_mEL fun _ => ?_ | refine NBo_mIL fun _ => ?_ | exact NB_mpL (by omega) | exact NB_pL (by omega))⟩))) (by first | with_reducible rfl | (simp -implicitDefEqProofs (maxSteps := 1000000) (disch := omega) [go_sem, oka0] <;> omega)) (.same (by repeat (first | exact .v _ | exact NBL.nil | refine NBL.cons ?_ ?_ | refine NB_slm fun _ => ?_ | refine NB_agL ?_ | refine NB_tuL ?_ | refine NBL.app ?_ ?_ | refine NBL.map fun _ => ?_ | exact NB_errI | refine NBo_cL ?_ | refine NBo_mEL fun _ => ?_ | refine NBo_mIL fun _ => ?_ | exact NB_mpL (by omega) | exact NB_pL (by omega)))) hK
  · intro c19 h
    try simp -implicitDefEqProofs (disch := omega) at c19
    try simp -implicitDefEqProofs (maxSteps := 1000000) (disch := omega) [go_sem, oka0]
    refine splitG_f h (by first | with_reducible rfl | (simp -implicitDefEqProofs (maxSteps := 1000000) (disch := omega) [go_sem, oka0] <;> omega)) ?_ ?_
    · intro c18 h
      try simp -implicitDefEqProofs (disch := omega) at c18
      try simp -implicitDefEqProofs (maxSteps := 1000000) (disch := omega) [go_sem, oka0]
      subst hc5
      refine IWp_cond_t (by first | with_reducible rfl | (simp -implicitDefEqProofs (maxSteps := 1000000) (disch := omega) [go_sem, oka0] <;> omega)) rfl ?_
      refine IWp_seqF fun cb hc8 => ?_
      refine vcK ?_
      try simp -implicitDefEqProofs (maxSteps := 1000000) (disch := omega) [go_sem, oka0]
      subst hc8
      refine IWp_seqF fun cb hc9 => ?_
      refine vcK ?_
      try simp -implicitDefEqProofs (maxSteps := 1000000) (disch := omega) [go_sem, oka0]
      subst hc9
      refine vcK ?_
      simp -implicitDefEqProofs only [go_sem]
      have er := Option.some.inj h
      subst er
      try simp -implicitDefEqProofs (maxSteps := 1000000) (disch := omega) [go_sem, oka0]
      refine retG_fzE (J := setL H [(ka0, .cells ([.v (str a0.ftext.fs), .v (.bool true)]))]) (r' := .v (.int .i64 0)) (EndH.ioL [(ka0, .cells ([.v (str a0.ftext.fs), .v (.bool true)]))] (by simp only [delL_cons, delL_nil]; repeat (first | exact (Ext.delB (Ext.refl hw) ka0) | refine Ext.new ?_ _ | refine Ext.set ?_ (by first | omega | (simp [go_sem]; done) | (simp [go_sem]; omega)) _ | refine Ext.del ?_ (by first | omega | (simp [go_sem]; done) | (simp [go_sem]; omega)) | refine Ext.setN ?_ (by simp [go_sem]) _)) (by intro p hp; simp only [List.mem_cons, List.not_mem_nil, or_false] at hp; (try rcases hp with hp); all_goals (subst hp; refine ⟨by omega, by first | with_reducible assumption | rfl | simp -implicitDefEqProofs (maxSteps := 1000000) (disch := omega) [go_sem, oka0], by repeat (first | exact .v _ | exact NBL.nil | refine NBL.cons ?_ ?_ | refine NB_slm fun _ => ?_ | refine NB_agL ?_ | refine NB_tuL ?_ | refine NBL.app ?_ ?_ | refine NBL.map fun _ => ?_ | exact NB_errI | refine NBo_cL ?_ | refine NBo_mEL fun _ => ?_ | refine NBo_mIL fun _ => ?_ | exact NB_mpL (by omega) | exact NB_pL (by omega))⟩))) (by first | with_reducible rfl | (simp -implicitDefEqProofs (maxSteps := 1000000) (disch := omega) [go_sem, oka0] <;> omega)) (.same (by repeat (first | exact .v _ | exact NBL.nil | refine NBL.cons ?_ ?_ | refine NB_slm fun _ => ?_ | refine NB_agL ?_ | refine NB_tuL ?_ | refine NBL.app ?_ ?_ | refine NBL.map fun _ => ?_ | exact NB_errI | refine NBo_cL ?_ | refine NBo_mEL fun _ => ?_ | refine NBo_mIL fun _ => ?_ | exact NB_mpL (by omega) | exact NB_pL (by omega)))) hK
    · intro c18 h
      try simp -implicitDefEqProofs (disch := omega) at c18
      try simp -implicitDefEqProofs (maxSteps := 1000000) (disch := omega) [go_sem, oka0]
      refine splitG_f h (by first | with_reducible rfl | (simp -implicitDefEqProofs (maxSteps := 1000000) (disch := omega) [go_sem, oka0] <;> omega)) ?_ ?_
      · intro c17 h
        try simp -implicitDefEqProofs (disch := omega) at c17
        try simp -implicitDefEqProofs (maxSteps := 1000000) (disch := omega) [go_sem, oka0]
        subst hc5
        refine IWp_cond_t (by first | with_reducible rfl | (simp -implicitDefEqProofs (maxSteps := 1000000) (disch := omega) [go_sem, oka0] <;> omega)) rfl ?_
        refine IWp_seqF fun cb hc10 => ?_
        refine vcK ?_
        try simp -implicitDefEqProofs (maxSteps := 1000000) (disch := omega) [go_sem, oka0]
        subst hc10
        refine IWp_seqF fun cb hc11 => ?_
        refine vcK ?_
        try simp -implicitDefEqProofs (maxSteps := 1000000) (disch := omega) [go_sem, oka0]
        subst hc11
        refine vcK ?_
        simp -implicitDefEqProofs only [go_sem]
        have er := Option.some.inj h
        subst er
        try simp -implicitDefEqProofs (maxSteps := 1000000) (disch := omega) [go_sem, oka0]
        refine retG_fzE (J := setL H [(ka0, .cells ([.v (str a0.ftext.fs), .v (.bool true)]))]) (r' := .v (.int .i64 0)) (EndH.ioL [(ka0, .cells ([.v (str a0.ftext.fs), .v (.bool true)]))] (by simp only [delL_cons, delL_nil]; repeat (first | exact (Ext.delB (Ext.refl hw) ka0) | refine Ext.new ?_ _ | refine Ext.set ?_ (by first | omega | (simp [go_sem]; done) | (simp [go_sem]; omega)) _ | refine Ext.del ?_ (by first | omega | (simp [go_sem]; done) | (simp [go_sem]; omega)) | refine Ext.setN ?_ (by simp [go_sem]) _)) (by intro p hp; simp only [List.mem_cons, List.not_mem_nil, or_false] at hp; (try rcases hp with hp); all_goals (subst hp; refine ⟨by omega, by first | with_reducible assumption | rfl | simp -implicitDefEqProofs (maxSteps := 1000000) (disch := omega) [go_sem, oka0], by repeat (first | exact .v _ | exact NBL.nil | refine NBL.cons ?_ ?_ | refine NB_slm fun _ => ?_ | refine NB_agL ?_ | refine NB_tuL ?_ | refine NBL.app ?_ ?_ | refine NBL.map fun _ => ?_ | exact NB_errI | refine NBo_cL ?_ | refine NBo_mEL fun _ => ?_ | refine NBo_mIL fun _ => ?_ | exact NB_mpL (by omega) | exact NB_pL (by omega))⟩))) (by first | with_reducible rfl | (simp -implicitDefEqProofs (maxSteps := 1000000) (disch := omega) [go_sem, oka0] <;> omega)) (.same (by repeat (first | exact .v _ | exact NBL.nil | refine NBL.cons ?_ ?_ | refine NB_slm fun _ => ?_ | refine NB_agL ?_ | refine NB_tuL ?_ | refine NBL.app ?_ ?_ | refine NBL.map fun _ => ?_ | exact NB_errI | refine NBo_cL ?_ | refine NBo_mEL fun _ => ?_ | refine NBo_mIL fun _ => ?_ | exact NB_mpL (by omega) | exact NB_pL (by omega)))) hK
      · intro c17 h
        try simp -implicitDefEqProofs (disch := omega) at c17
        try simp -implicitDefEqProofs (maxSteps := 1000000) (disch := omega) [go_sem, oka0]
        obtain ⟨x12, hx12, h⟩ := bind_some' h
        refine ICalls.eqA (args' := [.v (.int .i64 x3.1)]) (by first | with_reducible rfl | (simp -implicitDefEqProofs (maxSteps := 1000000) (disch := omega) [go_sem, oka0] <;> omega)) (F66_ok x3.1 (by first | exact hV.of rfl | exact hV.of ((Ext.delB (Ext.refl hw) ka0)).sn) hx12 ?_)
        try simp -implicitDefEqProofs (maxSteps := 1000000) (disch := omega) [go_sem, oka0]
        subst hc5
        refine IWp_cond_i h (by first | with_reducible rfl | (simp -implicitDefEqProofs (maxSteps := 1000000) (disch := omega) [go_sem, oka0] <;> omega)) rfl ?_ ?_
        · intro c13 h
          try simp -implicitDefEqProofs (disch := omega) at c13
          refine IWp_seqF fun cb hc14 => ?_
          refine vcK ?_
          try simp -implicitDefEqProofs (maxSteps := 1000000) (disch := omega) [go_sem, oka0]
          subst hc14
          refine IWp_seqF fun cb hc15 => ?_
          refine vcK ?_
          try simp -implicitDefEqProofs (maxSteps := 1000000) (disch := omega) [go_sem, oka0]
          subst hc15
          refine vcK ?_
          simp -implicitDefEqProofs only [go_sem]
          have er := Option.some.inj h
          subst er
          try simp -implicitDefEqProofs (maxSteps := 1000000) (disch := omega) [go_sem, oka0]
          refine retG_fzE (J := setL H [(ka0, .cells ([.v (str a0.ftext.fs), .v (.bool true)]))]) (r' := .v (.int .i64 0)) (EndH.ioL [(ka0, .cells ([.v (str a0.ftext.fs), .v (.bool true)]))] (by simp only [delL_cons, delL_nil]; repeat (first | exact (Ext.delB (Ext.refl hw) ka0) | refine Ext.new ?_ _ | refine Ext.set ?_ (by first | omega | (simp [go_sem]; done) | (simp [go_sem]; omega)) _ | refine Ext.del ?_ (by first | omega | (simp [go_sem]; done) | (simp [go_sem]; omega)) | refine Ext.setN ?_ (by simp [go_sem]) _)) (by intro p hp; simp only [List.mem_cons, List.not_mem_nil, or_false] at hp; (try rcases hp with hp); all_goals (subst hp; refine ⟨by omega, by first | with_reducible assumption | rfl | simp -implicitDefEqProofs (maxSteps := 1000000) (disch := omega) [go_sem, oka0], by repeat (first | exact .v _ | exact NBL.nil | refine NBL.cons ?_ ?_ | refine NB_slm fun _ => ?_ | refine NB_agL ?_ | refine NB_tuL ?_ | refine NBL.app ?_ ?_ | refine NBL.map fun _ => ?_ | exact NB_errI | refine NBo_cL ?_ | refine NBo_mEL fun _ => ?_ | refine NBo_mIL fun _ => ?_ | exact NB_mpL (by omega) | exact NB_pL (by omega))⟩))) (by first | with_reducible rfl | (simp -implicitDefEqProofs (maxSteps := 1000000) (disch := omega) [go_sem, oka0] <;> omega)) (.same (by repeat (first | exact .v _ | exact NBL.nil | refine NBL.cons ?_ ?_ | refine NB_slm fun _ => ?_ | refine NB_agL ?_ | refine NB_tuL ?_ | refine NBL.app ?_ ?_ | refine NBL.map fun _ => ?_ | exact NB_errI | refine NBo_cL ?_ | refine NBo_mEL fun _ => ?_ | refine NBo_mIL fun _ => ?_ | exact NB_mpL (by omega) | exact NB_pL (by omega)))) hK
        · intro c13 h
          try simp -implicitDefEqProofs (disch := omega) at c13
          refine vcK ?_
          simp -implicitDefEqProofs only [go_sem]
          subst hc4
          refine IWp_seqF fun cb hc16 => ?_
          refine vcK ?_
          try simp -implicitDefEqProofs (maxSteps := 1000000) (disch := omega) [go_sem, oka0]
          subst hc16
          refine vcK ?_
          simp -implicitDefEqProofs only [go_sem]
          have er := Option.some.inj h
          subst er
          try simp -implicitDefEqProofs (maxSteps := 1000000) (disch := omega) [go_sem, oka0]
          refine retG_fzE (J := setL H [(ka0, .cells ([.v (str a0.ftext.fs), .v (.bool a0.fbad)]))]) (r' := .v (.int .i64 x3.1)) (EndH.ioL [(ka0, .cells ([.v (str a0.ftext.fs), .v (.bool a0.fbad)]))] (by simp only [delL_cons, delL_nil]; repeat (first | exact (Ext.delB (Ext.refl hw) ka0) | refine Ext.new ?_ _ | refine Ext.set ?_ (by first | omega | (simp [go_sem]; done) | (simp [go_sem]; omega)) _ | refine Ext.del ?_ (by first | omega | (simp [go_sem]; done) | (simp [go_sem]; omega)) | refine Ext.setN ?_ (by simp [go_sem]) _)) (by intro p hp; simp only [List.mem_cons, List.not_mem_nil, or_false] at hp; (try rcases hp with hp); all_goals (subst hp; refine ⟨by omega, by first | with_reducible assumption | rfl | simp -implicitDefEqProofs (maxSteps := 1000000) (disch := omega) [go_sem, oka0], by repeat (first | exact .v _ | exact NBL.nil | refine NBL.cons ?_ ?_ | refine NB_slm fun _ => ?_ | refine NB_agL ?_ | refine NB_tuL ?_ | refine NBL.app ?_ ?_ | refine NBL.map fun _ => ?_ | exact NB_errI | refine NBo_cL ?_ | refine NBo_mEL fun _ => ?_ | refine NBo_mIL fun _ => ?_ | exact NB_mpL (by omega) | exact NB_pL (by omega))⟩))) (by first | with_reducible rfl | (simp -implicitDefEqProofs (maxSteps := 1000000) (disch := omega) [go_sem, oka0] <;> omega)) (.same (by repeat (first | exact .v _ | exact NBL.nil | refine NBL.cons ?_ ?_ | refine NB_slm fun _ => ?_ | refine NB_agL ?_ | refine NB_tuL ?_ | refine NBL.app ?_ ?_ | refine NBL.map fun _ => ?_ | exact NB_errI | refine NBo_cL ?_ | refine NBo_mEL fun _ => ?_ | refine NBo_mIL fun _ => ?_ | exact NB_mpL (by omega) | exact NB_pL (by omega)))) hK

/-! (*cardcase/entry.reader).value -/

noncomputable def F70 (a0 : S102) : Option ((List UInt8) × S102) :=
  (F68 a0 32).bind fun (x3 : (List UInt8) × S102) => (F69 x3.2 x3.1 2048).bind fun (x4 : Int × S102) => if (x4.2.ftext.fs.length : Int) ≤ x4.1 then (some (([], (⟨x4.2.ftext, true⟩ : S102)))) else (if x4.2.fbad = true then (some (([], (⟨x4.2.ftext, true⟩ : S102)))) else (gd (0 ≤ x4.1 ∧ x4.1 < x4.2.ftext.fs.length) (if ¬ (((x4.2.ftext.fs.getD x4.1.toNat 0).toNat : Int)) = 10 then (some (([], (⟨x4.2.ftext, true⟩ : S102)))) else (gd (0 ≤ x4.1) (gd (x4.1 ≤ x4.2.ftext.fs.length) (gd (0 ≤ (IntKind.i64.wrap (x4.1 + 1))) (gd (IntKind.i64.wrap (x4.1 + 1) ≤ x4.2.ftext.fs.length) (some (((x4.2.ftext.fs.take x4.1.toNat), (⟨(⟨x4.2.ftext.fs.drop (IntKind.i64.wrap (x4.1 + 1)).toNat⟩ : S100), x4.2.fbad⟩ : S102)))))))))))

set_option maxHeartbeats 8000000 in
set_option pp.deepTerms false in
set_option maxRecDepth 60000 in
theorem F70_ok {H : IHeap} {K : IEnd → IHeap → Prop} (a0 : S102) (ka0 : Nat) (oka0 : H.obj ka0 = some (.cells ([.v (str a0.ftext.fs), .v (.bool a0.fbad)]))) (hV : VOK prog H) {r : (List UInt8) × S102} (h : F70 a0 = some r) (hK : K (.ret (.v (str r.1))) (setL H [(ka0, .cells ([.v (str r.2.ftext.fs), .v (.bool r.2.fbad)]))])) : ICalls prog 70 [.p ka0 0] H K := by
  refine ICalls_iwp (N := 56) func70 (by kernel_rfl) rfl (by kernel_rfl) (by kernel_rfl) fun cb hcb hw hbd hnb => ?_
  clear hbd hnb
  subst hcb
  unfold F70 at h
  have hka0 : ka0 < H.next := Nat.lt_of_not_le fun q => by rw [hw _ q] at oka0; cases oka0
  refine IWp_seqF fun cb hc1 => ?_
  refine vcK ?_
  try simp -implicitDefEqProofs (maxSteps := 1000000) (disch := omega) [go_sem, oka0]
  subst hc1
  refine IWp_seqF fun cb hc2 => ?_
  refine vcK ?_
  try simp -implicitDefEqProofs (maxSteps := 1000000) (disch := omega) [go_sem, oka0]
  obtain ⟨x3, hx3, h⟩ := bind_some' h
  refine ICalls.eqA (args' := [.p ka0 0, .v (.int .u8 32)]) (by first | with_reducible rfl | (simp -implicitDefEqProofs (maxSteps := 1000000) (disch := omega) [go_sem, oka0] <;> omega)) (F68_ok a0 32 ka0 (by first | with_reducible assumption | simp -implicitDefEqProofs (maxSteps := 1000000) (disch := omega) [go_sem, oka0]) (by first | exact hV.of rfl | exact hV.of ((Ext.delB (Ext.refl hw) ka0)).sn) hx3 ?_)
  try simp -implicitDefEqProofs (maxSteps := 1000000) (disch := omega) [go_sem, oka0]
  obtain ⟨x4, hx4, h⟩ := bind_some' h
  refine ICalls.eqA (args' := [.p ka0 0, .v (str x3.1), .v (.int .i64 2048)]) (by first | with_reducible rfl | (simp -implicitDefEqProofs (maxSteps := 1000000) (disch := omega) [go_sem, oka0] <;> omega)) (F69_ok x3.2 x3.1 2048 ka0 (by first | with_reducible assumption | simp -implicitDefEqProofs (maxSteps := 1000000) (disch := omega) [go_sem, oka0]) (by first | exact hV.of rfl | exact hV.of ((Ext.delB (Ext.refl hw) ka0)).sn) hx4 ?_)
  try simp -implicitDefEqProofs (maxSteps := 1000000) (disch := omega) [go_sem, oka0]
  subst hc2
  refine IWp_seqF fun cb hc5 => ?_
  refine IWp_seqF fun cb hc6 => ?_
  refine vcK ?_
  try simp -implicitDefEqProofs (maxSteps := 1000000) (disch := omega) [go_sem, oka0]
  refine splitG_f h (by first | with_reducible rfl | (simp -implicitDefEqProofs (maxSteps := 1000000) (disch := omega) [go_sem, oka0] <;> omega)) ?_ ?_
  · intro c23 h
    try simp -implicitDefEqProofs (disch := omega) at c23
    try simp -implicitDefEqProofs (maxSteps := 1000000) (disch := omega) [go_sem, oka0]
    subst hc6
    refine IWp_cond_t (by first | with_reducible rfl | (simp -implicitDefEqProofs (maxSteps := 1000000) (disch := omega) [go_sem, oka0] <;> omega)) rfl ?_
    refine IWp_seqF fun cb hc7 => ?_
    refine vcK ?_
    try simp -implicitDefEqProofs (maxSteps := 1000000) (disch := omega) [go_sem, oka0]
    subst hc7
    refine IWp_seqF fun cb hc8 => ?_
    refine vcK ?_
    try simp -implicitDefEqProofs (maxSteps := 1000000) (disch := omega) [go_sem, oka0]
    subst hc8
    refine vcK ?_
    simp -implicitDefEqProofs only [go_sem]
    have er := Option.some.inj h
    subst er
    try simp -implicitDefEqProofs (maxSteps := 1000000) (disch := omega) [go_sem, oka0]
    refine retG_fzE (J := setL H [(ka0, .cells ([.v (str x4.2.ftext.fs), .v (.bool true)]))]) (r' := .v (str [])) (EndH.ioL [(ka0, .cells ([.v (str x4.2.ftext.fs), .v (.bool true)]))] (by simp only [delL_cons, delL_nil]; repeat (first | exact (Ext.delB (Ext.refl hw) ka0) | refine Ext.new ?_ _ | refine Ext.set ?_ (by first | omega | (simp [go_sem]; done) | (simp [go_sem]; omega)) _ | refine Ext.del ?_ (by first | omega | (simp [go_sem]; done) | (simp [go_sem]; omega)) | refine Ext.setN ?_ (by simp [go_sem]) _)) (by intro p hp; simp only [List.mem_cons, List.not_mem_nil, or_false] at hp; (try rcases hp with hp); all_goals (subst hp; refine ⟨by omega, by first | with_reducible assumption | rfl | simp -implicitDefEqProofs (maxSteps := 1000000) (disch := omega) [go_sem, oka0], by repeat (first | exact .v _ | exact NBL.nil | refine NBL.cons ?_ ?_ | refine NB_slm fun _ => ?_ | refine NB_agL ?_ | refine NB_tuL ?_ | refine NBL.app ?_ ?_ | refine NBL.map fun _ => ?_ | exact NB_errI | refine NBo_cL ?_ | refine NBo_mEL fun _ => ?_ | refine NBo_mIL fun _ => ?_ | exact NB_mpL (by omega) | exact NB_pL (by omega))⟩))) (by first | with_reducible rfl | (simp -implicitDefEqProofs (maxSteps := 1000000) (disch := omega) [go_sem, oka0] <;> omega)) (.same (by repeat (first | exact .v _ | exact NBL.nil | refine NBL.cons ?_ ?_ | refine NB_slm fun _ => ?_ | refine NB_agL ?_ | refine NB_tuL ?_ | refine NBL.app ?_ ?_ | refine NBL.map fun _ => ?_ | exact NB_errI | refine NBo_cL ?_ | refine NBo_mEL fun _ => ?_ | refine NBo_mIL fun _ => ?_ | exact NB_mpL (by omega) | exact NB_pL (by omega)))) hK
  · intro c23 h
    try simp -implicitDefEqProofs (disch := omega) at c23
    try simp -implicitDefEqProofs (maxSteps := 1000000) (disch := omega) [go_sem, oka0]
    refine splitG_f h (by first | with_reducible rfl | (simp -implicitDefEqProofs (maxSteps := 1000000) (disch := omega) [go_sem, oka0] <;> omega)) ?_ ?_
    · intro c22 h
      try simp -implicitDefEqProofs (disch := omega) at c22
      try simp -implicitDefEqProofs (maxSteps := 1000000) (disch := omega) [go_sem, oka0]
      subst hc6
      refine IWp_cond_t (by first | with_reducible rfl | (simp -implicitDefEqProofs (maxSteps := 1000000) (disch := omega) [go_sem, oka0] <;> omega)) rfl ?_
      refine IWp_seqF fun cb hc9 => ?_
      refine vcK ?_
      try simp -implicitDefEqProofs (maxSteps := 1000000) (disch := omega) [go_sem, oka0]
      subst hc9
      refine IWp_seqF fun cb hc10 => ?_
      refine vcK ?_
      try simp -implicitDefEqProofs (maxSteps := 1000000) (disch := omega) [go_sem, oka0]
      subst hc10
      refine vcK ?_
      simp -implicitDefEqProofs only [go_sem]
      have er := Option.some.inj h
      subst er
      try simp -implicitDefEqProofs (maxSteps := 1000000) (disch := omega) [go_sem, oka0]
      refine retG_fzE (J := setL H [(ka0, .cells ([.v (str x4.2.ftext.fs), .v (.bool true)]))]) (r' := .v (str [])) (EndH.ioL [(ka0, .cells ([.v (str x4.2.ftext.fs), .v (.bool true)]))] (by simp only [delL_cons, delL_nil]; repeat (first | exact (Ext.delB (Ext.refl hw) ka0) | refine Ext.new ?_ _ | refine Ext.set ?_ (by first | omega | (simp [go_sem]; done) | (simp [go_sem]; omega)) _ | refine Ext.del ?_ (by first | omega | (simp [go_sem]; done) | (simp [go_sem]; omega)) | refine Ext.setN ?_ (by simp [go_sem]) _)) (by intro p hp; simp only [List.mem_cons, List.not_mem_nil, or_false] at hp; (try rcases hp with hp); all_goals (subst hp; refine ⟨by omega, by first | with_reducible assumption | rfl | simp -implicitDefEqProofs (maxSteps := 1000000) (disch := omega) [go_sem, oka0], by repeat (first | exact .v _ | exact NBL.nil | refine NBL.cons ?_ ?_ | refine NB_slm fun _ => ?_ | refine NB_agL ?_ | refine NB_tuL ?_ | refine NBL.app ?_ ?_ | refine NBL.map fun _ => ?_ | exact NB_errI | refine NBo_cL ?_ | refine NBo_mEL fun _ => ?_ | refine NBo_mIL fun _ => ?_ | exact NB_mpL (by omega) | exact NB_pL (by omega))⟩))) (by first | with_reducible rfl | (simp -implicitDefEqProofs (maxSteps := 1000000) (disch := omega) [go_sem, oka0] <;> omega)) (.same (by repeat (first | exact .v _ | exact NBL.nil | refine NBL.cons ?_ ?_ | refine NB_slm fun _ => ?_ | refine NB_agL ?_ | refine NB_tuL ?_ | refine NBL.app ?_ ?_ | refine NBL.map fun _ => ?_ | exact NB_errI | refine NBo_cL ?_ | refine NBo_mEL fun _ => ?_ | refine NBo_mIL fun _ => ?_ | exact NB_mpL (by omega) | exact NB_pL (by omega)))) hK
    · intro c22 h
      try simp -implicitDefEqProofs (disch := omega) at c22
      obtain ⟨g11, h⟩ := gd_some.1 h
      try simp -implicitDefEqProofs (disch := omega) at g11
      try simp -implicitDefEqProofs (maxSteps := 1000000) (disch := omega) [go_sem, oka0]
      subst hc6
      refine IWp_cond_i h (by first | with_reducible rfl | (simp -implicitDefEqProofs (maxSteps := 1000000) (disch := omega) [go_sem, oka0] <;> omega)) rfl ?_ ?_
      · intro c12 h
        try simp -implicitDefEqProofs (disch := omega) at c12
        refine IWp_seqF fun cb hc13 => ?_
        refine vcK ?_
        try simp -implicitDefEqProofs (maxSteps := 1000000) (disch := omega) [go_sem, oka0]
        subst hc13
        refine IWp_seqF fun cb hc14 => ?_
        refine vcK ?_
        try simp -implicitDefEqProofs (maxSteps := 1000000) (disch := omega) [go_sem, oka0]
        subst hc14
        refine vcK ?_
        simp -implicitDefEqProofs only [go_sem]
        have er := Option.some.inj h
        subst er
        try simp -implicitDefEqProofs (maxSteps := 1000000) (disch := omega) [go_sem, oka0]
        refine retG_fzE (J := setL H [(ka0, .cells ([.v (str x4.2.ftext.fs), .v (.bool true)]))]) (r' := .v (str [])) (EndH.ioL [(ka0, .cells ([.v (str x4.2.ftext.fs), .v (.bool true)]))] (by simp only [delL_cons, delL_nil]; repeat (first | exact (Ext.delB (Ext.refl hw) ka0) | refine Ext.new ?_ _ | refine Ext.set ?_ (by first | omega | (simp [go_sem]; done) | (simp [go_sem]; omega)) _ | refine Ext.del ?_ (by first | omega | (simp [go_sem]; done) | (simp [go_sem]; omega)) | refine Ext.setN ?_ (by simp [go_sem]) _)) (by intro p hp; simp only [List.mem_cons, List.not_mem_nil, or_false] at hp; (try rcases hp with hp); all_goals (subst hp; refine ⟨by omega, by first | with_reducible assumption | rfl | simp -implicitDefEqProofs (maxSteps := 1000000) (disch := omega) [go_sem, oka0], by repeat (first | exact .v _ | exact NBL.nil | refine NBL.cons ?_ ?_ | refine NB_slm fun _ => ?_ | refine NB_agL ?_ | refine NB_tuL ?_ | refine NBL.app ?_ ?_ | refine NBL.map fun _ => ?_ | exact NB_errI | refine NBo_cL ?_ | refine NBo_mEL fun _ => ?_ | refine NBo_mIL fun _ => ?_ | exact NB_mpL (by omega) | exact NB_pL (by omega))⟩))) (by first | with_reducible rfl | (simp -implicitDefEqProofs (maxSteps := 1000000) (disch := omega) [go_sem, oka0] <;> omega)) (.same (by repeat (first | exact .v _ | exact NBL.nil | refine NBL.cons ?_ ?_ | refine NB_slm fun _ => ?_ | refine NB_agL ?_ | refine NB_tuL ?_ | refine NBL.app ?_ ?_ | refine NBL.map fun _ => ?_ | exact NB_errI | refine NBo_cL ?_ | refine NBo_mEL fun _ => ?_ | refine NBo_mIL fun _ => ?_ | exact NB_mpL (by omega) | exact NB_pL (by omega)))) hK
      · intro c12 h
        try simp -implicitDefEqProofs (disch := omega) at c12
        refine vcK ?_
        simp -implicitDefEqProofs only [go_sem]
        subst hc5
        refine IWp_seqF fun cb hc15 => ?_
        refine vcK ?_
        obtain ⟨g16, h⟩ := gd_some.1 h
        try simp -implicitDefEqProofs (disch := omega) at g16
        obtain ⟨g17, h⟩ := gd_some.1 h
        try simp -implicitDefEqProofs (disch := omega) at g17
        try simp -implicitDefEqProofs (maxSteps := 1000000) (disch := omega) [go_sem, oka0]
        subst hc15
        refine IWp_seqF fun cb hc18 => ?_
        refine vcK ?_
        obtain ⟨g19, h⟩ := gd_some.1 h
        try simp -implicitDefEqProofs (disch := omega) at g19
        obtain ⟨g20, h⟩ := gd_some.1 h
        try simp -implicitDefEqProofs (disch := omega) at g20
        try simp -implicitDefEqProofs (maxSteps := 1000000) (disch := omega) [go_sem, oka0]
        subst hc18
        refine IWp_seqF fun cb hc21 => ?_
        refine vcK ?_
        try simp -implicitDefEqProofs (maxSteps := 1000000) (disch := omega) [go_sem, oka0]
        subst hc21
        refine vcK ?_
        simp -implicitDefEqProofs only [go_sem]
        have er := Option.some.inj h
        subst er
        try simp -implicitDefEqProofs (maxSteps := 1000000) (disch := omega) [go_sem, oka0]
        refine retG_fzE (J := setL H [(ka0, .cells ([.v (str (x4.2.ftext.fs.drop (IntKind.i64.wrap (x4.1 + 1)).toNat)), .v (.bool x4.2.fbad)]))]) (r' := .v (str (x4.2.ftext.fs.take x4.1.toNat))) (EndH.ioL [(ka0, .cells ([.v (str (x4.2.ftext.fs.drop (IntKind.i64.wrap (x4.1 + 1)).toNat)), .v (.bool x4.2.fbad)]))] (by simp only [delL_cons, delL_nil]; repeat (first | exact (Ext.delB (Ext.refl hw) ka0) | refine Ext.new ?_ _ | refine Ext.set ?_ (by first | omega | (simp [go_sem]; done) | (simp [go_sem]; omega)) _ | refine Ext.del ?_ (by first | omega | (simp [go_sem]; done) | (simp [go_sem]; omega)) | refine Ext.setN ?_ (by simp [go_sem]) _)) (by intro p hp; simp only [List.mem_cons, List.not_mem_nil, or_false] at hp; (try rcases hp with hp); all_goals (subst hp; refine ⟨by omega, by first | with_reducible assumption | rfl | simp -implicitDefEqProofs (maxSteps := 1000000) (disch := omega) [go_sem, oka0], by repeat (first | exact .v _ | exact NBL.nil | refine NBL.cons ?_ ?_ | refine NB_slm fun _ => ?_ | refine NB_agL ?_ | refine NB_tuL ?_ | refine NBL.app ?_ ?_ | refine NBL.map fun _ => ?_ | exact NB_errI | refine NBo_cL ?_ | refine NBo_mEL fun _ => ?_ | refine NBo_mIL fun _ => ?_ | exact NB_mpL (by omega) | exact NB_pL (by omega))⟩))) (by first | with_reducible rfl | (simp -implicitDefEqProofs (maxSteps := 1000000) (disch := omega) [go_sem, oka0] <;> omega)) (.same (by repeat (first | exact .v _ | exact NBL.nil | refine NBL.cons ?_ ?_ | refine NB_slm fun _ => ?_ | refine NB_agL ?_ | refine NB_tuL ?_ | refine NBL.app ?_ ?_ | refine NBL.map fun _ => ?_ | exact NB_errI | refine NBo_cL ?_ | refine NBo_mEL fun _ => ?_ | refine NBo_mIL fun _ => ?_ | exact NB_mpL (by omega) | exact NB_pL (by omega)))) hK

/-! cardcase/entry.Read -/

noncomputable def F31_k4 (v8 : List S50) (v10 : S102) : Option ((List S50) × Int) :=
  if v10.fbad = true then (some ([], 172)) else ((F17 v8).bind fun (x14 : Int) => if ¬ x14 = 0 then (some ([], 172)) else (some (v8, 0)))

noncomputable def F31_k28 (v36 : List S50) (v38 : S102) (v39 : List UInt8) (v40 : List (List UInt8)) : Option (((List S50) × S102) ⊕ ((List S50) × S102)) :=
  gd ((v36.length + ([(⟨v39, v40⟩ : S50)]).length) * 40 ≤ 140737488355328) (some (.inl ((v36 ++ ([(⟨v39, v40⟩ : S50)]), v38))))

noncomputable def F31_b28 (x27 : Int × S102) (v29 : List S50) (v31 : Int) (v32 : S102) (v33 : List UInt8) (v34 : List (List UInt8)) : Option (((List S50) × Int × S102 × (List UInt8) × (List (List UInt8))) ⊕ ((List S50) × S102 × (List UInt8) × (List (List UInt8)))) :=
  if v31 < x27.1 then ((F70 v32).bind fun (x47 : (List UInt8) × S102) => gd ((v34.length + ([x47.1]).length) * 16 ≤ 140737488355328) (some (.inl ((v29, IntKind.i64.wrap (v31 + 1), x47.2, v33, v34 ++ ([x47.1])))))) else (some (.inr (v29, v32, v33, v34)))

noncomputable def F31_b4 (v5 : List S50) (v7 : S102) : Option (((List S50) × S102) ⊕ ((List S50) × S102)) :=
  if ¬ v7.ftext.fs = [] then (if ¬ (v7.fbad = true) then ((F68 v7 32).bind fun (x23 : (List UInt8) × S102) => (F68 x23.2 10).bind fun (x26 : (List UInt8) × S102) => (F69 x26.2 x26.1 16).bind fun (x27 : Int × S102) => (loopO (fun (s : (List S50) × Int × S102 × (List UInt8) × (List (List UInt8))) => F31_b28 x27 s.1 s.2.1 s.2.2.1 s.2.2.2.1 s.2.2.2.2) (v5, 0, x27.2, x23.1, [])).bind fun (e : (List S50) × S102 × (List UInt8) × (List (List UInt8))) => F31_k28 e.1 e.2.1 e.2.2.1 e.2.2.2) else (some (.inr (v5, v7)))) else (some (.inr (v5, v7)))

noncomputable def F31 (a0 : List UInt8) : Option ((List S50) × Int) :=
  (loopO (fun (s : (List S50) × S102) => F31_b4 s.1 s.2) ([], ((⟨(⟨a0⟩ : S100), false⟩ : S102)))).bind fun (e : (List S50) × S102) => F31_k4 e.1 e.2

set_option maxHeartbeats 8000000 in
set_option pp.deepTerms false in
set_option maxRecDepth 60000 in
theorem F31_ok {H : IHeap} {K : IEnd → IHeap → Prop} (a0 : List UInt8) (hV : VOK prog H) {r : (List S50) × Int} (h : F31 a0 = some r) (hK : K (.ret (.tu [.sl 2 (r.1.map fun x => [.v (str x.fName), .sl 1 (x.fValues.map fun x => [.v (str x)])]), .v (.int .i64 r.2)])) H) : ICalls prog 31 [.v (str a0)] H K := by
  refine ICalls_iwp (N := 55) func31 (by kernel_rfl) rfl (by kernel_rfl) (by kernel_rfl) fun cb hcb hw hbd hnb => ?_
  clear hbd hnb
  subst hcb
  unfold F31 at h
  refine IWp_seqF fun cb hc1 => ?_
  refine vcK ?_
  try simp -implicitDefEqProofs (maxSteps := 1000000) (disch := omega) [go_sem, bdP]
  subst hc1
  refine IWp_seqF fun cb hc2 => ?_
  refine vcK ?_
  try simp -implicitDefEqProofs (maxSteps := 1000000) (disch := omega) [go_sem, bdP]
  subst hc2
  refine IWp_seqF fun cb hc3 => ?_
  refine vcK ?_
  try simp -implicitDefEqProofs (maxSteps := 1000000) (disch := omega) [go_sem, bdP]
  subst hc3
  obtain ⟨y4, hl4q, hk4⟩ := bind_some' h
  refine IWp_seqC (fun tm' H' => ∃ n9 : Nat, ∃ v8 : List S50, ∃ v10 : S102, (v8, v10) = y4 ∧ Ext H H' ∧ H.next + 1 ≤ H'.next ∧ H.next ≤ n9 ∧ n9 < H'.next ∧ ¬ H.next = n9 ∧ tm' 4 = .p H.next 0 ∧ tm' 5 = .os n9 v8.length ∧ H'.obj H.next = some (.cells ([.v (str v10.ftext.fs), .v (.bool v10.fbad)])) ∧ H'.obj n9 = some (.row 2 (v8.map fun x => [.v (str x.fName), .sl 1 (x.fValues.map fun x => [.v (str x)])]))) ?_ fun cb hc4 => ?_
  · rintro tm4e H4e ⟨n9, v8, v10, rfl, he4e, hl4e, hr0_4e, hs0_4e, hq60, t4_4e, t5_4e, ob0_4e, or0_4e⟩
    have h : F31_k4 v8 v10 = some r := hk4
    unfold F31_k4 at h
    refine IWp_seqF fun cb hc11 => ?_
    refine IWp_seqF fun cb hc12 => ?_
    refine IWp.gh (Gh.freeze (d := 5) (k := n9) (sz := 2) (es := v8.map fun x => [.v (str x.fName), .sl 1 (x.fValues.map fun x => [.v (str x)])]) (by simp -implicitDefEqProofs (maxSteps := 1000000) (disch := omega) [go_sem, bdP, t4_4e, t5_4e, ob0_4e, or0_4e]) (by simp -implicitDefEqProofs (maxSteps := 1000000) (disch := omega) [go_sem, bdP, t4_4e, t5_4e, ob0_4e, or0_4e])) ?_
    refine vcK ?_
    try simp -implicitDefEqProofs (maxSteps := 1000000) (disch := omega) [go_sem, bdP, t4_4e, t5_4e, ob0_4e, or0_4e]
    refine splitG_f h (by first | with_reducible rfl | (simp -implicitDefEqProofs (maxSteps := 1000000) (disch := omega) [go_sem, bdP, t4_4e, t5_4e, ob0_4e, or0_4e] <;> omega)) ?_ ?_
    · intro c18 h
      try simp -implicitDefEqProofs (disch := omega) at c18
      try simp -implicitDefEqProofs (maxSteps := 1000000) (disch := omega) [go_sem, bdP, t4_4e, t5_4e, ob0_4e, or0_4e]
      subst hc12
      refine IWp_cond_t (by first | with_reducible rfl | (simp -implicitDefEqProofs (maxSteps := 1000000) (disch := omega) [go_sem, bdP, t4_4e, t5_4e, ob0_4e, or0_4e] <;> omega)) rfl ?_
      refine IWp_seqF fun cb hc13 => ?_
      refine vcK ?_
      try simp -implicitDefEqProofs (maxSteps := 1000000) (disch := omega) [go_sem, bdP, t4_4e, t5_4e, ob0_4e, or0_4e]
      subst hc13
      refine IWp.gh (Gh.slotN 2 2 (by simp -implicitDefEqProofs (maxSteps := 1000000) (disch := omega) [go_sem, bdP, t4_4e, t5_4e, ob0_4e, or0_4e])) ?_
      refine vcK ?_
      simp -implicitDefEqProofs only [go_sem]
      have er := Option.some.inj h
      subst er
      try simp -implicitDefEqProofs (maxSteps := 1000000) (disch := omega) [go_sem, bdP, t4_4e, t5_4e, ob0_4e, or0_4e]
      refine retG_pureA he4e hK (e := by first | with_reducible rfl | (simp -implicitDefEqProofs (maxSteps := 1000000) (disch := omega) [go_sem, bdP, t4_4e, t5_4e, ob0_4e, or0_4e] <;> omega))
    · intro c18 h
      try simp -implicitDefEqProofs (disch := omega) at c18
      try simp -implicitDefEqProofs (maxSteps := 1000000) (disch := omega) [go_sem, bdP, t4_4e, t5_4e, ob0_4e, or0_4e]
      obtain ⟨x14, hx14, h⟩ := bind_some' h
      refine ICalls.eqA (args' := [.sl 2 (v8.map fun x => [.v (str x.fName), .sl 1 (x.fValues.map fun x => [.v (str x)])])]) (by first | with_reducible rfl | (simp -implicitDefEqProofs (maxSteps := 1000000) (disch := omega) [go_sem, bdP, t4_4e, t5_4e, ob0_4e, or0_4e] <;> omega)) (F17_ok v8 hx14 ?_)
      try simp -implicitDefEqProofs (maxSteps := 1000000) (disch := omega) [go_sem, bdP, t4_4e, t5_4e, ob0_4e, or0_4e]
      subst hc12
      refine IWp_cond_i h (by first | with_reducible rfl | (simp -implicitDefEqProofs (maxSteps := 1000000) (disch := omega) [go_sem, bdP, t4_4e, t5_4e, ob0_4e, or0_4e] <;> omega)) rfl ?_ ?_
      · intro c15 h
        try simp -implicitDefEqProofs (disch := omega) at c15
        refine IWp_seqF fun cb hc16 => ?_
        refine vcK ?_
        try simp -implicitDefEqProofs (maxSteps := 1000000) (disch := omega) [go_sem, bdP, t4_4e, t5_4e, ob0_4e, or0_4e]
        subst hc16
        refine IWp.gh (Gh.slotN 2 2 (by simp -implicitDefEqProofs (maxSteps := 1000000) (disch := omega) [go_sem, bdP, t4_4e, t5_4e, ob0_4e, or0_4e])) ?_
        refine vcK ?_
        simp -implicitDefEqProofs only [go_sem]
        have er := Option.some.inj h
        subst er
        try simp -implicitDefEqProofs (maxSteps := 1000000) (disch := omega) [go_sem, bdP, t4_4e, t5_4e, ob0_4e, or0_4e]
        refine retG_pureA he4e hK (e := by first | with_reducible rfl | (simp -implicitDefEqProofs (maxSteps := 1000000) (disch := omega) [go_sem, bdP, t4_4e, t5_4e, ob0_4e, or0_4e] <;> omega))
      · intro c15 h
        try simp -implicitDefEqProofs (disch := omega) at c15
        refine vcK ?_
        simp -implicitDefEqProofs only [go_sem]
        subst hc11
        refine IWp_seqF fun cb hc17 => ?_
        refine vcK ?_
        try simp -implicitDefEqProofs (maxSteps := 1000000) (disch := omega) [go_sem, bdP, t4_4e, t5_4e, ob0_4e, or0_4e]
        subst hc17
        refine vcK ?_
        simp -implicitDefEqProofs only [go_sem]
        have er := Option.some.inj h
        subst er
        try simp -implicitDefEqProofs (maxSteps := 1000000) (disch := omega) [go_sem, bdP, t4_4e, t5_4e, ob0_4e, or0_4e]
        refine retG_pureA he4e hK (e := by first | with_reducible rfl | (simp -implicitDefEqProofs (maxSteps := 1000000) (disch := omega) [go_sem, bdP, t4_4e, t5_4e, ob0_4e, or0_4e] <;> omega))
  · refine IWp_block ?_
    refine IWp_loopF (fun (s : (List S50) × S102) tm' H' => ∃ n6 : Nat, Ext H H' ∧ H.next + 1 ≤ H'.next ∧ H.next ≤ n6 ∧ n6 < H'.next ∧ ¬ H.next = n6 ∧ tm' 4 = .p H.next 0 ∧ tm' 5 = .os n6 s.1.length ∧ H'.obj H.next = some (.cells ([.v (str s.2.ftext.fs), .v (.bool s.2.fbad)])) ∧ H'.obj n6 = some (.row 2 (s.1.map fun x => [.v (str x.fName), .sl 1 (x.fValues.map fun x => [.v (str x)])]))) hl4q ?_ ?_
    · refine UpI.gh (Gh.nilrow (d := 5) (sz := 2) (by omega) (by (simp -implicitDefEqProofs (maxSteps := 1000000) (disch := omega) [go_sem, bdP] <;> omega))) ?_
      refine .same ⟨H.next + 1, by repeat (first | exact (Ext.refl hw) | refine Ext.new ?_ _ | refine Ext.set ?_ (by first | omega | (simp [go_sem]; done) | (simp [go_sem]; omega)) _ | refine Ext.del ?_ (by first | omega | (simp [go_sem]; done) | (simp [go_sem]; omega))), by first | with_reducible rfl | with_reducible assumption | omega | (simp -implicitDefEqProofs (maxSteps := 1000000) (disch := omega) [go_sem, bdP] <;> omega), by first | with_reducible rfl | with_reducible assumption | omega | (simp -implicitDefEqProofs (maxSteps := 1000000) (disch := omega) [go_sem, bdP] <;> omega), by first | with_reducible rfl | with_reducible assumption | omega | (simp -implicitDefEqProofs (maxSteps := 1000000) (disch := omega) [go_sem, bdP] <;> omega), by first | with_reducible rfl | with_reducible assumption | omega | (simp -implicitDefEqProofs (maxSteps := 1000000) (disch := omega) [go_sem, bdP] <;> omega), by first | with_reducible rfl | with_reducible assumption | (simp -implicitDefEqProofs (maxSteps := 1000000) (disch := omega) [go_sem, bdP] <;> omega), by first | with_reducible rfl | with_reducible assumption | (simp -implicitDefEqProofs (maxSteps := 1000000) (disch := omega) [go_sem, bdP] <;> omega), by first | with_reducible rfl | with_reducible assumption | (simp -implicitDefEqProofs (maxSteps := 1000000) (disch := omega) [go_sem, bdP] <;> omega), by first | with_reducible rfl | with_reducible assumption | (simp -implicitDefEqProofs (maxSteps := 1000000) (disch := omega) [go_sem, bdP] <;> omega)⟩
    · rintro I4 hI4 ⟨v5, v7⟩ x4 tm4 H4 ⟨n6, he4, hl4, hr0_4, hs0_4, hq61, t4_4, t5_4, ob0_4, or0_4⟩ h hret4
      replace h : F31_b4 v5 v7 = some x4 := h
      unfold F31_b4 at h
      refine IWp_seqF fun cb hc19 => ?_
      refine IWp_seqF fun cb hc20 => ?_
      refine vcK ?_
      try simp -implicitDefEqProofs (maxSteps := 1000000) (disch := omega) [go_sem, bdP, t4_4, t5_4, ob0_4, or0_4]
      refine splitG_f h (by first | with_reducible rfl | (simp -implicitDefEqProofs (maxSteps := 1000000) (disch := omega) [go_sem, bdP, t4_4, t5_4, ob0_4, or0_4] <;> omega)) ?_ ?_
      · intro c59 h
        try simp -implicitDefEqProofs (disch := omega) at c59
        try simp -implicitDefEqProofs (maxSteps := 1000000) (disch := omega) [go_sem, bdP, t4_4, t5_4, ob0_4, or0_4]
        subst hc20
        refine IWp_cond_i h (by first | with_reducible rfl | (simp -implicitDefEqProofs (maxSteps := 1000000) (disch := omega) [go_sem, bdP, t4_4, t5_4, ob0_4, or0_4] <;> omega)) rfl ?_ ?_
        · intro c21 h
          try simp -implicitDefEqProofs (disch := omega) at c21
          refine vcK ?_
          simp -implicitDefEqProofs only [go_sem]
          subst hc19
          refine IWp_block ?_
          refine IWp_seqF fun cb hc22 => ?_
          refine vcK ?_
          try simp -implicitDefEqProofs (maxSteps := 1000000) (disch := omega) [go_sem, bdP, t4_4, t5_4, ob0_4, or0_4]
          obtain ⟨x23, hx23, h⟩ := bind_some' h
          refine ICalls.eqA (args' := [.p H.next 0, .v (.int .u8 32)]) (by first | with_reducible rfl | (simp -implicitDefEqProofs (maxSteps := 1000000) (disch := omega) [go_sem, bdP, t4_4, t5_4, ob0_4, or0_4] <;> omega)) (F68_ok v7 32 H.next (by first | with_reducible assumption | simp -implicitDefEqProofs (maxSteps := 1000000) (disch := omega) [go_sem, bdP, t4_4, t5_4, ob0_4, or0_4]) (by first | exact hV.of rfl | exact hV.of (he4).sn) hx23 ?_)
          try simp -implicitDefEqProofs (maxSteps := 1000000) (disch := omega) [go_sem, bdP, t4_4, t5_4, ob0_4, or0_4]
          subst hc22
          refine IWp_seqF fun cb hc24 => ?_
          refine IWp_seqF fun cb hc25 => ?_
          refine vcK ?_
          try simp -implicitDefEqProofs (maxSteps := 1000000) (disch := omega) [go_sem, bdP, t4_4, t5_4, ob0_4, or0_4]
          obtain ⟨x26, hx26, h⟩ := bind_some' h
          refine ICalls.eqA (args' := [.p H.next 0, .v (.int .u8 10)]) (by first | with_reducible rfl | (simp -implicitDefEqProofs (maxSteps := 1000000) (disch := omega) [go_sem, bdP, t4_4, t5_4, ob0_4, or0_4] <;> omega)) (F68_ok x23.2 10 H.next (by first | with_reducible assumption | simp -implicitDefEqProofs (maxSteps := 1000000) (disch := omega) [go_sem, bdP, t4_4, t5_4, ob0_4, or0_4]) (by first | exact hV.of rfl | exact hV.of (he4).sn) hx26 ?_)
          try simp -implicitDefEqProofs (maxSteps := 1000000) (disch := omega) [go_sem, bdP, t4_4, t5_4, ob0_4, or0_4]
          obtain ⟨x27, hx27, h⟩ := bind_some' h
          refine ICalls.eqA (args' := [.p H.next 0, .v (str x26.1), .v (.int .i64 16)]) (by first | with_reducible rfl | (simp -implicitDefEqProofs (maxSteps := 1000000) (disch := omega) [go_sem, bdP, t4_4, t5_4, ob0_4, or0_4] <;> omega)) (F69_ok x26.2 x26.1 16 H.next (by first | with_reducible assumption | simp -implicitDefEqProofs (maxSteps := 1000000) (disch := omega) [go_sem, bdP, t4_4, t5_4, ob0_4, or0_4]) (by first | exact hV.of rfl | exact hV.of (he4).sn) hx27 ?_)
          try simp -implicitDefEqProofs (maxSteps := 1000000) (disch := omega) [go_sem, bdP, t4_4, t5_4, ob0_4, or0_4]
          subst hc25
          obtain ⟨y28, hl28q, hk28⟩ := bind_some' h
          refine IWp_tailC (fun tm' H' => ∃ n37 : Nat, ∃ n41 : Nat, ∃ v36 : List S50, ∃ v38 : S102, ∃ v39 : List UInt8, ∃ v40 : List (List UInt8), (v36, v38, v39, v40) = y28 ∧ Ext H H' ∧ H4.next + 1 ≤ H'.next ∧ H.next ≤ n37 ∧ n37 < H'.next ∧ ¬ H.next = n37 ∧ ¬ H4.next = n37 ∧ H.next ≤ n41 ∧ n41 < H'.next ∧ ¬ H.next = n41 ∧ ¬ H4.next = n41 ∧ ¬ n41 = n37 ∧ tm' 4 = .p H.next 0 ∧ tm' 5 = .os n37 v36.length ∧ tm' 6 = .p H4.next 0 ∧ H'.obj H.next = some (.cells ([.v (str v38.ftext.fs), .v (.bool v38.fbad)])) ∧ H'.obj H4.next = some (.cells ([.v (str v39), .os n41 v40.length])) ∧ H'.obj n37 = some (.row 2 (v36.map fun x => [.v (str x.fName), .sl 1 (x.fValues.map fun x => [.v (str x)])])) ∧ H'.obj n41 = some (.row 1 (v40.map fun x => [.v (str x)]))) ?_ fun cb hc28 => ?_
          · rintro tm28e H28e ⟨n37, n41, v36, v38, v39, v40, rfl, he28e, hl28e, hr0_28e, hs0_28e, hq49, hq50, hr1_28e, hs1_28e, hq51, hq52, hq53, t4_28e, t5_28e, t6_28e, ob0_28e, ob1_28e, or0_28e, or1_28e⟩
            have h : F31_k28 v36 v38 v39 v40 = some x4 := hk28
            unfold F31_k28 at h
            simp -implicitDefEqProofs only [go_sem]
            subst hc24
            refine IWp.gh (Gh.fzBox (k := n41) (kb := H4.next) (cs := [.v (str v39), .os n41 v40.length]) (cs' := [.v (str v39), .sl 1 (v40.map fun x => [.v (str x)])]) (by simp -implicitDefEqProofs (maxSteps := 1000000) (disch := omega) [go_sem, bdP, t4_28e, t5_28e, t6_28e, ob0_28e, ob1_28e, or0_28e, or1_28e]) (by first | omega | with_reducible assumption | (simp [go_sem]; done) | (simp [go_sem]; omega)) (by repeat (first | exact FzKL.nil | refine FzKL.cons ?_ ?_ | exact FzK.row _ _ _ (by simp -implicitDefEqProofs (maxSteps := 1000000) (disch := omega) [go_sem, bdP, t4_28e, t5_28e, t6_28e, ob0_28e, ob1_28e, or0_28e, or1_28e]) (by simp) | exact FzK.same _))) ?_
            refine vcK ?_
            obtain ⟨g42, h⟩ := gd_some.1 h
            try simp -implicitDefEqProofs (disch := omega) at g42
            try simp -implicitDefEqProofs (maxSteps := 1000000) (disch := omega) [go_sem, bdP, t4_28e, t5_28e, t6_28e, ob0_28e, ob1_28e, or0_28e, or1_28e]
            have e4 := Option.some.inj h
            subst e4
            refine loopN_mk hI4 ((v36 ++ ([(⟨v39, v40⟩ : S50)]), v38)) ?_
            refine .same ⟨n37, by repeat (first | exact he28e | refine Ext.new ?_ _ | refine Ext.set ?_ (by first | omega | (simp [go_sem]; done) | (simp [go_sem]; omega)) _ | refine Ext.del ?_ (by first | omega | (simp [go_sem]; done) | (simp [go_sem]; omega))), by first | with_reducible rfl | with_reducible assumption | omega | (simp -implicitDefEqProofs (maxSteps := 1000000) (disch := omega) [go_sem, bdP, t4_28e, t5_28e, t6_28e, ob0_28e, ob1_28e, or0_28e, or1_28e] <;> omega), by first | with_reducible rfl | with_reducible assumption | omega | (simp -implicitDefEqProofs (maxSteps := 1000000) (disch := omega) [go_sem, bdP, t4_28e, t5_28e, t6_28e, ob0_28e, ob1_28e, or0_28e, or1_28e] <;> omega), by first | with_reducible rfl | with_reducible assumption | omega | (simp -implicitDefEqProofs (maxSteps := 1000000) (disch := omega) [go_sem, bdP, t4_28e, t5_28e, t6_28e, ob0_28e, ob1_28e, or0_28e, or1_28e] <;> omega), by first | with_reducible rfl | with_reducible assumption | omega | (simp -implicitDefEqProofs (maxSteps := 1000000) (disch := omega) [go_sem, bdP, t4_28e, t5_28e, t6_28e, ob0_28e, ob1_28e, or0_28e, or1_28e] <;> omega), by first | with_reducible rfl | with_reducible assumption | (simp -implicitDefEqProofs (maxSteps := 1000000) (disch := omega) [go_sem, bdP, t4_28e, t5_28e, t6_28e, ob0_28e, ob1_28e, or0_28e, or1_28e] <;> omega), by first | with_reducible rfl | with_reducible assumption | (simp -implicitDefEqProofs (maxSteps := 1000000) (disch := omega) [go_sem, bdP, t4_28e, t5_28e, t6_28e, ob0_28e, ob1_28e, or0_28e, or1_28e] <;> omega), by first | with_reducible rfl | with_reducible assumption | (simp -implicitDefEqProofs (maxSteps := 1000000) (disch := omega) [go_sem, bdP, t4_28e, t5_28e, t6_28e, ob0_28e, ob1_28e, or0_28e, or1_28e] <;> omega), by first | with_reducible rfl | with_reducible assumption | (simp -implicitDefEqProofs (maxSteps := 1000000) (disch := omega) [go_sem, bdP, t4_28e, t5_28e, t6_28e, ob0_28e, ob1_28e, or0_28e, or1_28e] <;> omega)⟩
          · refine IWp_block ?_
            refine IWp_loopF (fun (s : (List S50) × Int × S102 × (List UInt8) × (List (List UInt8))) tm' H' => ∃ n30 : Nat, ∃ n35 : Nat, Ext H H' ∧ H4.next + 1 ≤ H'.next ∧ H.next ≤ n30 ∧ n30 < H'.next ∧ ¬ H.next = n30 ∧ ¬ H4.next = n30 ∧ H.next ≤ n35 ∧ n35 < H'.next ∧ ¬ H.next = n35 ∧ ¬ H4.next = n35 ∧ ¬ n35 = n30 ∧ tm' 4 = .p H.next 0 ∧ tm' 5 = .os n30 s.1.length ∧ tm' 6 = .p H4.next 0 ∧ tm' 30 = .v (.int .i64 x27.1) ∧ tm' 31 = .v (.int .i64 s.2.1) ∧ H'.obj H.next = some (.cells ([.v (str s.2.2.1.ftext.fs), .v (.bool s.2.2.1.fbad)])) ∧ H'.obj H4.next = some (.cells ([.v (str s.2.2.2.1), .os n35 s.2.2.2.2.length])) ∧ H'.obj n30 = some (.row 2 (s.1.map fun x => [.v (str x.fName), .sl 1 (x.fValues.map fun x => [.v (str x)])])) ∧ H'.obj n35 = some (.row 1 (s.2.2.2.2.map fun x => [.v (str x)]))) hl28q ?_ ?_
            · refine UpI.gh (Gh.nilrowBox (kb := H4.next) (sz := 1) (cs := [.v (str x23.1), .v (.slice none 0 0)]) (cs' := [.v (str x23.1), .os (H4.next + 1) 0]) (by omega) (by (simp -implicitDefEqProofs (maxSteps := 1000000) (disch := omega) [go_sem, bdP, t4_4, t5_4, ob0_4, or0_4] <;> omega)) (by repeat (first | exact NzL.nil | exact NzL.same _ NzL.nil | refine NzL.row ?_ | refine NzL.same _ ?_))) ?_
              refine .same ⟨n6, H4.next + 1, by repeat (first | exact he4 | refine Ext.new ?_ _ | refine Ext.set ?_ (by first | omega | (simp [go_sem]; done) | (simp [go_sem]; omega)) _ | refine Ext.del ?_ (by first | omega | (simp [go_sem]; done) | (simp [go_sem]; omega))), by first | with_reducible rfl | with_reducible assumption | omega | (simp -implicitDefEqProofs (maxSteps := 1000000) (disch := omega) [go_sem, bdP, t4_4, t5_4, ob0_4, or0_4] <;> omega), by first | with_reducible rfl | with_reducible assumption | omega | (simp -implicitDefEqProofs (maxSteps := 1000000) (disch := omega) [go_sem, bdP, t4_4, t5_4, ob0_4, or0_4] <;> omega), by first | with_reducible rfl | with_reducible assumption | omega | (simp -implicitDefEqProofs (maxSteps := 1000000) (disch := omega) [go_sem, bdP, t4_4, t5_4, ob0_4, or0_4] <;> omega), by first | with_reducible rfl | with_reducible assumption | omega | (simp -implicitDefEqProofs (maxSteps := 1000000) (disch := omega) [go_sem, bdP, t4_4, t5_4, ob0_4, or0_4] <;> omega), by first | with_reducible rfl | with_reducible assumption | omega | (simp -implicitDefEqProofs (maxSteps := 1000000) (disch := omega) [go_sem, bdP, t4_4, t5_4, ob0_4, or0_4] <;> omega), by first | with_reducible rfl | with_reducible assumption | omega | (simp -implicitDefEqProofs (maxSteps := 1000000) (disch := omega) [go_sem, bdP, t4_4, t5_4, ob0_4, or0_4] <;> omega), by first | with_reducible rfl | with_reducible assumption | omega | (simp -implicitDefEqProofs (maxSteps := 1000000) (disch := omega) [go_sem, bdP, t4_4, t5_4, ob0_4, or0_4] <;> omega), by first | with_reducible rfl | with_reducible assumption | omega | (simp -implicitDefEqProofs (maxSteps := 1000000) (disch := omega) [go_sem, bdP, t4_4, t5_4, ob0_4, or0_4] <;> omega), by first | with_reducible rfl | with_reducible assumption | omega | (simp -implicitDefEqProofs (maxSteps := 1000000) (disch := omega) [go_sem, bdP, t4_4, t5_4, ob0_4, or0_4] <;> omega), by first | with_reducible rfl | with_reducible assumption | omega | (simp -implicitDefEqProofs (maxSteps := 1000000) (disch := omega) [go_sem, bdP, t4_4, t5_4, ob0_4, or0_4] <;> omega), by first | with_reducible rfl | with_reducible assumption | (simp -implicitDefEqProofs (maxSteps := 1000000) (disch := omega) [go_sem, bdP, t4_4, t5_4, ob0_4, or0_4] <;> omega), by first | with_reducible rfl | with_reducible assumption | (simp -implicitDefEqProofs (maxSteps := 1000000) (disch := omega) [go_sem, bdP, t4_4, t5_4, ob0_4, or0_4] <;> omega), by first | with_reducible rfl | with_reducible assumption | (simp -implicitDefEqProofs (maxSteps := 1000000) (disch := omega) [go_sem, bdP, t4_4, t5_4, ob0_4, or0_4] <;> omega), by first | with_reducible rfl | with_reducible assumption | (simp -implicitDefEqProofs (maxSteps := 1000000) (disch := omega) [go_sem, bdP, t4_4, t5_4, ob0_4, or0_4] <;> omega), by first | with_reducible rfl | with_reducible assumption | (simp -implicitDefEqProofs (maxSteps := 1000000) (disch := omega) [go_sem, bdP, t4_4, t5_4, ob0_4, or0_4] <;> omega), by first | with_reducible rfl | with_reducible assumption | (simp -implicitDefEqProofs (maxSteps := 1000000) (disch := omega) [go_sem, bdP, t4_4, t5_4, ob0_4, or0_4] <;> omega), by first | with_reducible rfl | with_reducible assumption | (simp -implicitDefEqProofs (maxSteps := 1000000) (disch := omega) [go_sem, bdP, t4_4, t5_4, ob0_4, or0_4] <;> omega), by first | with_reducible rfl | with_reducible assumption | (simp -implicitDefEqProofs (maxSteps := 1000000) (disch := omega) [go_sem, bdP, t4_4, t5_4, ob0_4, or0_4] <;> omega), by first | with_reducible rfl | with_reducible assumption | (simp -implicitDefEqProofs (maxSteps := 1000000) (disch := omega) [go_sem, bdP, t4_4, t5_4, ob0_4, or0_4] <;> omega)⟩
            · rintro I28 hI28 ⟨v29, v31, v32, v33, v34⟩ x28 tm28 H28 ⟨n30, n35, he28, hl28, hr0_28, hs0_28, hq54, hq55, hr1_28, hs1_28, hq56, hq57, hq58, t4_28, t5_28, t6_28, t30_28, t31_28, ob0_28, ob1_28, or0_28, or1_28⟩ h hret28
              replace h : F31_b28 x27 v29 v31 v32 v33 v34 = some x28 := h
              unfold F31_b28 at h
              refine IWp_seqF fun cb hc43 => ?_
              refine vcK ?_
              try simp -implicitDefEqProofs (maxSteps := 1000000) (disch := omega) [go_sem, bdP, t4_28, t5_28, t6_28, t30_28, t31_28, ob0_28, ob1_28, or0_28, or1_28]
              subst hc43
              refine IWp_seqF fun cb hc44 => ?_
              refine IWp_cond_i h (by first | with_reducible rfl | (simp -implicitDefEqProofs (maxSteps := 1000000) (disch := omega) [go_sem, bdP, t4_28, t5_28, t6_28, t30_28, t31_28, ob0_28, ob1_28, or0_28, or1_28] <;> omega)) rfl ?_ ?_
              · intro c45 h
                try simp -implicitDefEqProofs (disch := omega) at c45
                refine vcK ?_
                simp -implicitDefEqProofs only [go_sem]
                subst hc44
                refine IWp_seqF fun cb hc46 => ?_
                refine IWp_block ?_
                refine IWp_drawP [] [0, 1, 2, 3, 4, 5, 6, 7] (by kernel_rfl) (by kernel_rfl) (fun _ _ _ _ h => h) ?_
                try simp -implicitDefEqProofs (maxSteps := 1000000) (disch := omega) [go_sem, bdP, t4_28, t5_28, t6_28, t30_28, t31_28, ob0_28, ob1_28, or0_28, or1_28]
                obtain ⟨x47, hx47, h⟩ := bind_some' h
                refine ICalls.eqA (args' := [.p H.next 0]) (by first | with_reducible rfl | (simp -implicitDefEqProofs (maxSteps := 1000000) (disch := omega) [go_sem, bdP, t4_28, t5_28, t6_28, t30_28, t31_28, ob0_28, ob1_28, or0_28, or1_28] <;> omega)) (F70_ok v32 H.next (by first | with_reducible assumption | simp -implicitDefEqProofs (maxSteps := 1000000) (disch := omega) [go_sem, bdP, t4_28, t5_28, t6_28, t30_28, t31_28, ob0_28, ob1_28, or0_28, or1_28]) (by first | exact hV.of rfl | exact hV.of (he28).sn) hx47 ?_)
                obtain ⟨g48, h⟩ := gd_some.1 h
                try simp -implicitDefEqProofs (disch := omega) at g48
                try simp -implicitDefEqProofs (maxSteps := 1000000) (disch := omega) [go_sem, bdP, t4_28, t5_28, t6_28, t30_28, t31_28, ob0_28, ob1_28, or0_28, or1_28]
                subst hc46
                refine vcK ?_
                try simp -implicitDefEqProofs (maxSteps := 1000000) (disch := omega) [go_sem, bdP, t4_28, t5_28, t6_28, t30_28, t31_28, ob0_28, ob1_28, or0_28, or1_28]
                have e28 := Option.some.inj h
                subst e28
                refine loopN_mk hI28 ((v29, IntKind.i64.wrap (v31 + 1), x47.2, v33, v34 ++ ([x47.1]))) ?_
                refine .same ⟨n30, n35, by repeat (first | exact he28 | refine Ext.new ?_ _ | refine Ext.set ?_ (by first | omega | (simp [go_sem]; done) | (simp [go_sem]; omega)) _ | refine Ext.del ?_ (by first | omega | (simp [go_sem]; done) | (simp [go_sem]; omega))), by first | with_reducible rfl | with_reducible assumption | omega | (simp -implicitDefEqProofs (maxSteps := 1000000) (disch := omega) [go_sem, bdP, t4_28, t5_28, t6_28, t30_28, t31_28, ob0_28, ob1_28, or0_28, or1_28] <;> omega), by first | with_reducible rfl | with_reducible assumption | omega | (simp -implicitDefEqProofs (maxSteps := 1000000) (disch := omega) [go_sem, bdP, t4_28, t5_28, t6_28, t30_28, t31_28, ob0_28, ob1_28, or0_28, or1_28] <;> omega), by first | with_reducible rfl | with_reducible assumption | omega | (simp -implicitDefEqProofs (maxSteps := 1000000) (disch := omega) [go_sem, bdP, t4_28, t5_28, t6_28, t30_28, t31_28, ob0_28, ob1_28, or0_28, or1_28] <;> omega), by first | with_reducible rfl | with_reducible assumption | omega | (simp -implicitDefEqProofs (maxSteps := 1000000) (disch := omega) [go_sem, bdP, t4_28, t5_28, t6_28, t30_28, t31_28, ob0_28, ob1_28, or0_28, or1_28] <;> omega), by first | with_reducible rfl | with_reducible assumption | omega | (simp -implicitDefEqProofs (maxSteps := 1000000) (disch := omega) [go_sem, bdP, t4_28, t5_28, t6_28, t30_28, t31_28, ob0_28, ob1_28, or0_28, or1_28] <;> omega), by first | with_reducible rfl | with_reducible assumption | omega | (simp -implicitDefEqProofs (maxSteps := 1000000) (disch := omega) [go_sem, bdP, t4_28, t5_28, t6_28, t30_28, t31_28, ob0_28, ob1_28, or0_28, or1_28] <;> omega), by first | with_reducible rfl | with_reducible assumption | omega | (simp -implicitDefEqProofs (maxSteps := 1000000) (disch := omega) [go_sem, bdP, t4_28, t5_28, t6_28, t30_28, t31_28, ob0_28, ob1_28, or0_28, or1_28] <;> omega), by first | with_reducible rfl | with_reducible assumption | omega | (simp -implicitDefEqProofs (maxSteps := 1000000) (disch := omega) [go_sem, bdP, t4_28, t5_28, t6_28, t30_28, t31_28, ob0_28, ob1_28, or0_28, or1_28] <;> omega), by first | with_reducible rfl | with_reducible assumption | omega | (simp -implicitDefEqProofs (maxSteps := 1000000) (disch := omega) [go_sem, bdP, t4_28, t5_28, t6_28, t30_28, t31_28, ob0_28, ob1_28, or0_28, or1_28] <;> omega), by first | with_reducible rfl | with_reducible assumption | omega | (simp -implicitDefEqProofs (maxSteps := 1000000) (disch := omega) [go_sem, bdP, t4_28, t5_28, t6_28, t30_28, t31_28, ob0_28, ob1_28, or0_28, or1_28] <;> omega), by first | with_reducible rfl | with_reducible assumption | (simp -implicitDefEqProofs (maxSteps := 1000000) (disch := omega) [go_sem, bdP, t4_28, t5_28, t6_28, t30_28, t31_28, ob0_28, ob1_28, or0_28, or1_28] <;> omega), by first | with_reducible rfl | with_reducible assumption | (simp -implicitDefEqProofs (maxSteps := 1000000) (disch := omega) [go_sem, bdP, t4_28, t5_28, t6_28, t30_28, t31_28, ob0_28, ob1_28, or0_28, or1_28] <;> omega), by first | with_reducible rfl | with_reducible assumption | (simp -implicitDefEqProofs (maxSteps := 1000000) (disch := omega) [go_sem, bdP, t4_28, t5_28, t6_28, t30_28, t31_28, ob0_28, ob1_28, or0_28, or1_28] <;> omega), by first | with_reducible rfl | with_reducible assumption | (simp -implicitDefEqProofs (maxSteps := 1000000) (disch := omega) [go_sem, bdP, t4_28, t5_28, t6_28, t30_28, t31_28, ob0_28, ob1_28, or0_28, or1_28] <;> omega), by first | with_reducible rfl | with_reducible assumption | (simp -implicitDefEqProofs (maxSteps := 1000000) (disch := omega) [go_sem, bdP, t4_28, t5_28, t6_28, t30_28, t31_28, ob0_28, ob1_28, or0_28, or1_28] <;> omega), by first | with_reducible rfl | with_reducible assumption | (simp -implicitDefEqProofs (maxSteps := 1000000) (disch := omega) [go_sem, bdP, t4_28, t5_28, t6_28, t30_28, t31_28, ob0_28, ob1_28, or0_28, or1_28] <;> omega), by first | with_reducible rfl | with_reducible assumption | (simp -implicitDefEqProofs (maxSteps := 1000000) (disch := omega) [go_sem, bdP, t4_28, t5_28, t6_28, t30_28, t31_28, ob0_28, ob1_28, or0_28, or1_28] <;> omega), by first | with_reducible rfl | with_reducible assumption | (simp -implicitDefEqProofs (maxSteps := 1000000) (disch := omega) [go_sem, bdP, t4_28, t5_28, t6_28, t30_28, t31_28, ob0_28, ob1_28, or0_28, or1_28] <;> omega), by first | with_reducible rfl | with_reducible assumption | (simp -implicitDefEqProofs (maxSteps := 1000000) (disch := omega) [go_sem, bdP, t4_28, t5_28, t6_28, t30_28, t31_28, ob0_28, ob1_28, or0_28, or1_28] <;> omega)⟩
              · intro c45 h
                try simp -implicitDefEqProofs (disch := omega) at c45
                refine vcK ?_
                simp -implicitDefEqProofs only [go_sem]
                have e28 := Option.some.inj h
                subst e28
                have hy28 := hret28 _ rfl
                refine hc28 _ _ ?_
                refine .same ⟨n30, n35, v29, v32, v33, v34, hy28, by repeat (first | exact he28 | refine Ext.new ?_ _ | refine Ext.set ?_ (by first | omega | (simp [go_sem]; done) | (simp [go_sem]; omega)) _ | refine Ext.del ?_ (by first | omega | (simp [go_sem]; done) | (simp [go_sem]; omega))), by first | with_reducible rfl | with_reducible assumption | omega | (simp -implicitDefEqProofs (maxSteps := 1000000) (disch := omega) [go_sem, bdP, t4_28, t5_28, t6_28, t30_28, t31_28, ob0_28, ob1_28, or0_28, or1_28] <;> omega), by first | with_reducible rfl | with_reducible assumption | omega | (simp -implicitDefEqProofs (maxSteps := 1000000) (disch := omega) [go_sem, bdP, t4_28, t5_28, t6_28, t30_28, t31_28, ob0_28, ob1_28, or0_28, or1_28] <;> omega), by first | with_reducible rfl | with_reducible assumption | omega | (simp -implicitDefEqProofs (maxSteps := 1000000) (disch := omega) [go_sem, bdP, t4_28, t5_28, t6_28, t30_28, t31_28, ob0_28, ob1_28, or0_28, or1_28] <;> omega), by first | with_reducible rfl | with_reducible assumption | omega | (simp -implicitDefEqProofs (maxSteps := 1000000) (disch := omega) [go_sem, bdP, t4_28, t5_28, t6_28, t30_28, t31_28, ob0_28, ob1_28, or0_28, or1_28] <;> omega), by first | with_reducible rfl | with_reducible assumption | omega | (simp -implicitDefEqProofs (maxSteps := 1000000) (disch := omega) [go_sem, bdP, t4_28, t5_28, t6_28, t30_28, t31_28, ob0_28, ob1_28, or0_28, or1_28] <;> omega), by first | with_reducible rfl | with_reducible assumption | omega | (simp -implicitDefEqProofs (maxSteps := 1000000) (disch := omega) [go_sem, bdP, t4_28, t5_28, t6_28, t30_28, t31_28, ob0_28, ob1_28, or0_28, or1_28] <;> omega), by first | with_reducible rfl | with_reducible assumption | omega | (simp -implicitDefEqProofs (maxSteps := 1000000) (disch := omega) [go_sem, bdP, t4_28, t5_28, t6_28, t30_28, t31_28, ob0_28, ob1_28, or0_28, or1_28] <;> omega), by first | with_reducible rfl | with_reducible assumption | omega | (simp -implicitDefEqProofs (maxSteps := 1000000) (disch := omega) [go_sem, bdP, t4_28, t5_28, t6_28, t30_28, t31_28, ob0_28, ob1_28, or0_28, or1_28] <;> omega), by first | with_reducible rfl | with_reducible assumption | omega | (simp -implicitDefEqProofs (maxSteps := 1000000) (disch := omega) [go_sem, bdP, t4_28, t5_28, t6_28, t30_28, t31_28, ob0_28, ob1_28, or0_28, or1_28] <;> omega), by first | with_reducible rfl | with_reducible assumption | omega | (simp -implicitDefEqProofs (maxSteps := 1000000) (disch := omega) [go_sem, bdP, t4_28, t5_28, t6_28, t30_28, t31_28, ob0_28, ob1_28, or0_28, or1_28] <;> omega), by first | with_reducible rfl | with_reducible assumption | (simp -implicitDefEqProofs (maxSteps := 1000000) (disch := omega) [go_sem, bdP, t4_28, t5_28, t6_28, t30_28, t31_28, ob0_28, ob1_28, or0_28, or1_28] <;> omega), by first | with_reducible rfl | with_reducible assumption | (simp -implicitDefEqProofs (maxSteps := 1000000) (disch := omega) [go_sem, bdP, t4_28, t5_28, t6_28, t30_28, t31_28, ob0_28, ob1_28, or0_28, or1_28] <;> omega), by first | with_reducible rfl | with_reducible assumption | (simp -implicitDefEqProofs (maxSteps := 1000000) (disch := omega) [go_sem, bdP, t4_28, t5_28, t6_28, t30_28, t31_28, ob0_28, ob1_28, or0_28, or1_28] <;> omega), by first | with_reducible rfl | with_reducible assumption | (simp -implicitDefEqProofs (maxSteps := 1000000) (disch := omega) [go_sem, bdP, t4_28, t5_28, t6_28, t30_28, t31_28, ob0_28, ob1_28, or0_28, or1_28] <;> omega), by first | with_reducible rfl | with_reducible assumption | (simp -implicitDefEqProofs (maxSteps := 1000000) (disch := omega) [go_sem, bdP, t4_28, t5_28, t6_28, t30_28, t31_28, ob0_28, ob1_28, or0_28, or1_28] <;> omega), by first | with_reducible rfl | with_reducible assumption | (simp -implicitDefEqProofs (maxSteps := 1000000) (disch := omega) [go_sem, bdP, t4_28, t5_28, t6_28, t30_28, t31_28, ob0_28, ob1_28, or0_28, or1_28] <;> omega), by first | with_reducible rfl | with_reducible assumption | (simp -implicitDefEqProofs (maxSteps := 1000000) (disch := omega) [go_sem, bdP, t4_28, t5_28, t6_28, t30_28, t31_28, ob0_28, ob1_28, or0_28, or1_28] <;> omega)⟩
        · intro c21 h
          try simp -implicitDefEqProofs (disch := omega) at c21
          refine vcK ?_
          simp -implicitDefEqProofs only [go_sem]
          have e4 := Option.some.inj h
          subst e4
          have hy4 := hret4 _ rfl
          refine hc4 _ _ ?_
          refine .same ⟨n6, v5, v7, hy4, by repeat (first | exact he4 | refine Ext.new ?_ _ | refine Ext.set ?_ (by first | omega | (simp [go_sem]; done) | (simp [go_sem]; omega)) _ | refine Ext.del ?_ (by first | omega | (simp [go_sem]; done) | (simp [go_sem]; omega))), by first | with_reducible rfl | with_reducible assumption | omega | (simp -implicitDefEqProofs (maxSteps := 1000000) (disch := omega) [go_sem, bdP, t4_4, t5_4, ob0_4, or0_4] <;> omega), by first | with_reducible rfl | with_reducible assumption | omega | (simp -implicitDefEqProofs (maxSteps := 1000000) (disch := omega) [go_sem, bdP, t4_4, t5_4, ob0_4, or0_4] <;> omega), by first | with_reducible rfl | with_reducible assumption | omega | (simp -implicitDefEqProofs (maxSteps := 1000000) (disch := omega) [go_sem, bdP, t4_4, t5_4, ob0_4, or0_4] <;> omega), by first | with_reducible rfl | with_reducible assumption | omega | (simp -implicitDefEqProofs (maxSteps := 1000000) (disch := omega) [go_sem, bdP, t4_4, t5_4, ob0_4, or0_4] <;> omega), by first | with_reducible rfl | with_reducible assumption | (simp -implicitDefEqProofs (maxSteps := 1000000) (disch := omega) [go_sem, bdP, t4_4, t5_4, ob0_4, or0_4] <;> omega), by first | with_reducible rfl | with_reducible assumption | (simp -implicitDefEqProofs (maxSteps := 1000000) (disch := omega) [go_sem, bdP, t4_4, t5_4, ob0_4, or0_4] <;> omega), by first | with_reducible rfl | with_reducible assumption | (simp -implicitDefEqProofs (maxSteps := 1000000) (disch := omega) [go_sem, bdP, t4_4, t5_4, ob0_4, or0_4] <;> omega), by first | with_reducible rfl | with_reducible assumption | (simp -implicitDefEqProofs (maxSteps := 1000000) (disch := omega) [go_sem, bdP, t4_4, t5_4, ob0_4, or0_4] <;> omega)⟩
      · intro c59 h
        try simp -implicitDefEqProofs (disch := omega) at c59
        try simp -implicitDefEqProofs (maxSteps := 1000000) (disch := omega) [go_sem, bdP, t4_4, t5_4, ob0_4, or0_4]
        subst hc20
        refine IWp_cond_f (by first | with_reducible rfl | (simp -implicitDefEqProofs (maxSteps := 1000000) (disch := omega) [go_sem, bdP, t4_4, t5_4, ob0_4, or0_4] <;> omega)) rfl ?_
        refine vcK ?_
        simp -implicitDefEqProofs only [go_sem]
        have e4 := Option.some.inj h
        subst e4
        have hy4 := hret4 _ rfl
        refine hc4 _ _ ?_
        refine .same ⟨n6, v5, v7, hy4, by repeat (first | exact he4 | refine Ext.new ?_ _ | refine Ext.set ?_ (by first | omega | (simp [go_sem]; done) | (simp [go_sem]; omega)) _ | refine Ext.del ?_ (by first | omega | (simp [go_sem]; done) | (simp [go_sem]; omega))), by first | with_reducible rfl | with_reducible assumption | omega | (simp -implicitDefEqProofs (maxSteps := 1000000) (disch := omega) [go_sem, bdP, t4_4, t5_4, ob0_4, or0_4] <;> omega), by first | with_reducible rfl | with_reducible assumption | omega | (simp -implicitDefEqProofs (maxSteps := 1000000) (disch := omega) [go_sem, bdP, t4_4, t5_4, ob0_4, or0_4] <;> omega), by first | with_reducible rfl | with_reducible assumption | omega | (simp -implicitDefEqProofs (maxSteps := 1000000) (disch := omega) [go_sem, bdP, t4_4, t5_4, ob0_4, or0_4] <;> omega), by first | with_reducible rfl | with_reducible assumption | omega | (simp -implicitDefEqProofs (maxSteps := 1000000) (disch := omega) [go_sem, bdP, t4_4, t5_4, ob0_4, or0_4] <;> omega), by first | with_reducible rfl | with_reducible assumption | (simp -implicitDefEqProofs (maxSteps := 1000000) (disch := omega) [go_sem, bdP, t4_4, t5_4, ob0_4, or0_4] <;> omega), by first | with_reducible rfl | with_reducible assumption | (simp -implicitDefEqProofs (maxSteps := 1000000) (disch := omega) [go_sem, bdP, t4_4, t5_4, ob0_4, or0_4] <;> omega), by first | with_reducible rfl | with_reducible assumption | (simp -implicitDefEqProofs (maxSteps := 1000000) (disch := omega) [go_sem, bdP, t4_4, t5_4, ob0_4, or0_4] <;> omega), by first | with_reducible rfl | with_reducible assumption | (simp -implicitDefEqProofs (maxSteps := 1000000) (disch := omega) [go_sem, bdP, t4_4, t5_4, ob0_4, or0_4] <;> omega)⟩

/-! cardcase/cardcaselaw07.EntryTexts -/

/-! cardcase/cardcaselaw07.EntryReads -/

noncomputable def F10 (a0 : List UInt8) : Option Bool :=
  if 3000 < (a0.length : Int) then ((F13 ).bind fun (x6 : Bool) => some x6) else ((F31 a0).bind fun (x8 : (List S50) × Int) => (F33 a0).bind fun (x10 : (List S50) × Bool) => if ¬ (x10.2 = true) then (if (x8.1.length : Int) = 0 then (if x8.2 = 172 then ((F13 ).bind fun (x15 : Bool) => some x15) else (some false)) else (some false)) else (if x8.2 = 0 then ((F16 x8.1 x10.1).bind fun (x19 : Bool) => if x19 = true then ((F13 ).bind fun (x20 : Bool) => some x20) else (some false)) else (some false)))

set_option maxHeartbeats 8000000 in
set_option pp.deepTerms false in
set_option maxRecDepth 60000 in
theorem F10_ok {H : IHeap} {K : IEnd → IHeap → Prop} (a0 : List UInt8) (hV : VOK prog H) {r : Bool} (h : F10 a0 = some r) (hK : K (.ret (.v (.bool r))) H) : ICalls prog 10 [.v (str a0)] H K := by
  refine ICalls_iwp (N := 43) func10 (by kernel_rfl) rfl (by kernel_rfl) (by kernel_rfl) fun cb hcb hw hbd hnb => ?_
  clear hbd hnb
  subst hcb
  unfold F10 at h
  refine IWp_seqF fun cb hc1 => ?_
  refine vcK ?_
  try simp -implicitDefEqProofs (maxSteps := 1000000) (disch := omega) [go_sem]
  subst hc1
  refine IWp_seqF fun cb hc2 => ?_
  refine IWp_seqF fun cb hc3 => ?_
  refine vcK ?_
  try simp -implicitDefEqProofs (maxSteps := 1000000) (disch := omega) [go_sem]
  subst hc3
  refine IWp_cond_i h (by first | with_reducible rfl | (simp -implicitDefEqProofs (maxSteps := 1000000) (disch := omega) [go_sem] <;> omega)) rfl ?_ ?_
  · intro c4 h
    try simp -implicitDefEqProofs (disch := omega) at c4
    refine IWp_seqF fun cb hc5 => ?_
    refine vcK ?_
    try simp -implicitDefEqProofs (maxSteps := 1000000) (disch := omega) [go_sem]
    obtain ⟨x6, hx6, h⟩ := bind_some' h
    refine ICalls.eqA (args' := []) (by first | with_reducible rfl | (simp -implicitDefEqProofs (maxSteps := 1000000) (disch := omega) [go_sem] <;> omega)) (F13_ok  hx6 ?_)
    try simp -implicitDefEqProofs (maxSteps := 1000000) (disch := omega) [go_sem]
    subst hc5
    refine vcK ?_
    simp -implicitDefEqProofs only [go_sem]
    have er := Option.some.inj h
    subst er
    try simp -implicitDefEqProofs (maxSteps := 1000000) (disch := omega) [go_sem]
    refine retG_pureA (Ext.refl hw) hK (e := by first | with_reducible rfl | (simp -implicitDefEqProofs (maxSteps := 1000000) (disch := omega) [go_sem] <;> omega))
  · intro c4 h
    try simp -implicitDefEqProofs (disch := omega) at c4
    refine vcK ?_
    simp -implicitDefEqProofs only [go_sem]
    subst hc2
    refine IWp_seqF fun cb hc7 => ?_
    refine vcK ?_
    try simp -implicitDefEqProofs (maxSteps := 1000000) (disch := omega) [go_sem]
    obtain ⟨x8, hx8, h⟩ := bind_some' h
    refine ICalls.eqA (args' := [.v (str a0)]) (by first | with_reducible rfl | (simp -implicitDefEqProofs (maxSteps := 1000000) (disch := omega) [go_sem] <;> omega)) (F31_ok a0 (by first | exact hV.of rfl | exact hV.of ((Ext.refl hw)).sn) hx8 ?_)
    try simp -implicitDefEqProofs (maxSteps := 1000000) (disch := omega) [go_sem]
    subst hc7
    refine IWp_seqF fun cb hc9 => ?_
    refine vcK ?_
    try simp -implicitDefEqProofs (maxSteps := 1000000) (disch := omega) [go_sem]
    obtain ⟨x10, hx10, h⟩ := bind_some' h
    refine ICalls.eqA (args' := [.v (str a0)]) (by first | with_reducible rfl | (simp -implicitDefEqProofs (maxSteps := 1000000) (disch := omega) [go_sem] <;> omega)) (F33_ok a0 hx10 ?_)
    try simp -implicitDefEqProofs (maxSteps := 1000000) (disch := omega) [go_sem]
    subst hc9
    refine IWp_seqF fun cb hc11 => ?_
    refine IWp_seqF fun cb hc12 => ?_
    refine vcK ?_
    try simp -implicitDefEqProofs (maxSteps := 1000000) (disch := omega) [go_sem]
    subst hc12
    refine IWp_cond_i h (by first | with_reducible rfl | (simp -implicitDefEqProofs (maxSteps := 1000000) (disch := omega) [go_sem] <;> omega)) rfl ?_ ?_
    · intro c13 h
      try simp -implicitDefEqProofs (disch := omega) at c13
      refine IWp_seqF fun cb hc14 => ?_
      refine vcK ?_
      try simp -implicitDefEqProofs (maxSteps := 1000000) (disch := omega) [go_sem]
      refine splitG_f h (by first | with_reducible rfl | (simp -implicitDefEqProofs (maxSteps := 1000000) (disch := omega) [go_sem] <;> omega)) ?_ ?_
      · intro c17 h
        try simp -implicitDefEqProofs (disch := omega) at c17
        try simp -implicitDefEqProofs (maxSteps := 1000000) (disch := omega) [go_sem]
        refine splitG_f h (by first | with_reducible rfl | (simp -implicitDefEqProofs (maxSteps := 1000000) (disch := omega) [go_sem] <;> omega)) ?_ ?_
        · intro c16 h
          try simp -implicitDefEqProofs (disch := omega) at c16
          try simp -implicitDefEqProofs (maxSteps := 1000000) (disch := omega) [go_sem]
          obtain ⟨x15, hx15, h⟩ := bind_some' h
          refine ICalls.eqA (args' := []) (by first | with_reducible rfl | (simp -implicitDefEqProofs (maxSteps := 1000000) (disch := omega) [go_sem] <;> omega)) (F13_ok  hx15 ?_)
          try simp -implicitDefEqProofs (maxSteps := 1000000) (disch := omega) [go_sem]
          subst hc14
          refine vcK ?_
          simp -implicitDefEqProofs only [go_sem]
          have er := Option.some.inj h
          subst er
          try simp -implicitDefEqProofs (maxSteps := 1000000) (disch := omega) [go_sem]
          refine retG_pureA (Ext.refl hw) hK (e := by first | with_reducible rfl | (simp -implicitDefEqProofs (maxSteps := 1000000) (disch := omega) [go_sem] <;> omega))
        · intro c16 h
          try simp -implicitDefEqProofs (disch := omega) at c16
          try simp -implicitDefEqProofs (maxSteps := 1000000) (disch := omega) [go_sem]
          subst hc14
          refine vcK ?_
          simp -implicitDefEqProofs only [go_sem]
          have er := Option.some.inj h
          subst er
          try simp -implicitDefEqProofs (maxSteps := 1000000) (disch := omega) [go_sem]
          refine retG_pureA (Ext.refl hw) hK (e := by first | with_reducible rfl | (simp -implicitDefEqProofs (maxSteps := 1000000) (disch := omega) [go_sem] <;> omega))
      · intro c17 h
        try simp -implicitDefEqProofs (disch := omega) at c17
        try simp -implicitDefEqProofs (maxSteps := 1000000) (disch := omega) [go_sem]
        subst hc14
        refine vcK ?_
        simp -implicitDefEqProofs only [go_sem]
        have er := Option.some.inj h
        subst er
        try simp -implicitDefEqProofs (maxSteps := 1000000) (disch := omega) [go_sem]
        refine retG_pureA (Ext.refl hw) hK (e := by first | with_reducible rfl | (simp -implicitDefEqProofs (maxSteps := 1000000) (disch := omega) [go_sem] <;> omega))
    · intro c13 h
      try simp -implicitDefEqProofs (disch := omega) at c13
      refine vcK ?_
      simp -implicitDefEqProofs only [go_sem]
      subst hc11
      refine IWp_seqF fun cb hc18 => ?_
      refine vcK ?_
      try simp -implicitDefEqProofs (maxSteps := 1000000) (disch := omega) [go_sem]
      refine splitG_f h (by first | with_reducible rfl | (simp -implicitDefEqProofs (maxSteps := 1000000) (disch := omega) [go_sem] <;> omega)) ?_ ?_
      · intro c22 h
        try simp -implicitDefEqProofs (disch := omega) at c22
        try simp -implicitDefEqProofs (maxSteps := 1000000) (disch := omega) [go_sem]
        obtain ⟨x19, hx19, h⟩ := bind_some' h
        refine ICalls.eqA (args' := [.sl 2 (x8.1.map fun x => [.v (str x.fName), .sl 1 (x.fValues.map fun x => [.v (str x)])]), .sl 2 (x10.1.map fun x => [.v (str x.fName), .sl 1 (x.fValues.map fun x => [.v (str x)])])]) (by first | with_reducible rfl | (simp -implicitDefEqProofs (maxSteps := 1000000) (disch := omega) [go_sem] <;> omega)) (F16_ok x8.1 x10.1 hx19 ?_)
        try simp -implicitDefEqProofs (maxSteps := 1000000) (disch := omega) [go_sem]
        refine splitG_f h (by first | with_reducible rfl | (simp -implicitDefEqProofs (maxSteps := 1000000) (disch := omega) [go_sem] <;> omega)) ?_ ?_
        · intro c21 h
          try simp -implicitDefEqProofs (disch := omega) at c21
          try simp -implicitDefEqProofs (maxSteps := 1000000) (disch := omega) [go_sem]
          obtain ⟨x20, hx20, h⟩ := bind_some' h
          refine ICalls.eqA (args' := []) (by first | with_reducible rfl | (simp -implicitDefEqProofs (maxSteps := 1000000) (disch := omega) [go_sem] <;> omega)) (F13_ok  hx20 ?_)
          try simp -implicitDefEqProofs (maxSteps := 1000000) (disch := omega) [go_sem]
          subst hc18
          refine vcK ?_
          simp -implicitDefEqProofs only [go_sem]
          have er := Option.some.inj h
          subst er
          try simp -implicitDefEqProofs (maxSteps := 1000000) (disch := omega) [go_sem]
          refine retG_pureA (Ext.refl hw) hK (e := by first | with_reducible rfl | (simp -implicitDefEqProofs (maxSteps := 1000000) (disch := omega) [go_sem] <;> omega))
        · intro c21 h
          try simp -implicitDefEqProofs (disch := omega) at c21
          try simp -implicitDefEqProofs (maxSteps := 1000000) (disch := omega) [go_sem]
          subst hc18
          refine vcK ?_
          simp -implicitDefEqProofs only [go_sem]
          have er := Option.some.inj h
          subst er
          try simp -implicitDefEqProofs (maxSteps := 1000000) (disch := omega) [go_sem]
          refine retG_pureA (Ext.refl hw) hK (e := by first | with_reducible rfl | (simp -implicitDefEqProofs (maxSteps := 1000000) (disch := omega) [go_sem] <;> omega))
      · intro c22 h
        try simp -implicitDefEqProofs (disch := omega) at c22
        try simp -implicitDefEqProofs (maxSteps := 1000000) (disch := omega) [go_sem]
        subst hc18
        refine vcK ?_
        simp -implicitDefEqProofs only [go_sem]
        have er := Option.some.inj h
        subst er
        try simp -implicitDefEqProofs (maxSteps := 1000000) (disch := omega) [go_sem]
        refine retG_pureA (Ext.refl hw) hK (e := by first | with_reducible rfl | (simp -implicitDefEqProofs (maxSteps := 1000000) (disch := omega) [go_sem] <;> omega))

end Go.Idl

namespace Go.Idl

open Go Go.Lib

/-! ### Up to a byte -/

def cutS : List UInt8 → UInt8 → Option (List UInt8 × List UInt8)
  | [], _ => none
  | b :: s, x => if b = x then some ([], s) else (cutS s x).map fun p => (b :: p.1, p.2)

theorem cutS_some {x : UInt8} : ∀ {s a b : List UInt8}, cutS s x = some (a, b) ↔ s = a ++ x :: b ∧ x ∉ a
  | [], a, b => by simp [cutS]
  | c :: s, a, b => by
    unfold cutS
    by_cases h : c = x
    · subst h
      rw [if_pos rfl]
      constructor
      · rintro h; cases h; simp
      · rintro ⟨h1, h2⟩
        cases a with
        | nil => simp at h1; simp [h1]
        | cons d a => simp at h1; exact absurd (by simp [h1.1]) h2
    · rw [if_neg h]
      constructor
      · intro h'
        obtain ⟨⟨a', b'⟩, h1, h2⟩ := Option.map_eq_some_iff.1 h'
        cases h2
        obtain ⟨h3, h4⟩ := cutS_some.1 h1
        exact ⟨by simp [h3], by simp [h4, Ne.symm h]⟩
      · rintro ⟨h1, h2⟩
        cases a with
        | nil => simp at h1; exact absurd h1.1 h
        | cons d a =>
          simp at h1 h2
          rw [cutS_some.2 ⟨h1.2, h2.2⟩, h1.1]
          rfl

theorem cutS_none {x : UInt8} : ∀ {s : List UInt8}, cutS s x = none ↔ x ∉ s
  | [] => by simp [cutS]
  | c :: s => by
    unfold cutS
    by_cases h : c = x
    · subst h; simp
    · rw [if_neg h]
      simp [cutS_none (s := s), Ne.symm h]

theorem cutS_len {x : UInt8} {s a b : List UInt8} (h : cutS s x = some (a, b)) : a.length + b.length + 1 = s.length := by
  rw [(cutS_some.1 h).1]; simp; omega

theorem index_one (x : UInt8) : ∀ s : List UInt8, index s [x] = match cutS s x with | some p => (p.1.length : Int) | none => -1
  | [] => by simp [index, cutS]
  | b :: s => by
    have ih := index_one x s
    unfold index cutS
    by_cases h : b = x
    · subst h
      simp [List.isPrefixOf]
    · rw [if_neg h]
      have : ¬ x = b := fun e => h e.symm
      simp only [List.isPrefixOf, Bool.and_true, beq_iff_eq, if_neg this, ih]
      cases hc : cutS s x with
      | none => simp
      | some p =>
        have : ¬ ((p.1.length : Int) == -1) = true := by simp
        simp [this]

theorem cut_one (s : List UInt8) (x : UInt8) : Lib.cut s [x] = match cutS s x with | some p => (p.1, p.2, true) | none => (s, [], false) := by
  unfold Lib.cut
  rw [index_one]
  cases h : cutS s x with
  | none => simp
  | some p =>
    obtain ⟨a, b⟩ := p
    obtain ⟨h1, _⟩ := cutS_some.1 h
    simp only
    rw [if_pos (by omega)]
    subst h1
    simp

/-! ### Numerals -/

theorem digitVal_some {c : UInt8} {d : Nat} : digitVal c = some d ↔ 48 ≤ c.toNat ∧ c.toNat ≤ 57 ∧ d = c.toNat - 48 := by
  unfold digitVal
  split
  · rename_i h; simp; constructor
    · rintro rfl; exact ⟨h.1, h.2, rfl⟩
    · rintro ⟨_, _, rfl⟩; rfl
  · rename_i h; simp; omega

theorem decFrom_app : ∀ (l : List UInt8) (acc : Nat) (c : UInt8), decFrom acc (l ++ [c]) = (decFrom acc l).bind fun n => (digitVal c).map fun d => n * 10 + d
  | [], acc, c => by
    simp only [List.nil_append, decFrom]
    cases digitVal c <;> simp
  | b :: l, acc, c => by
    simp only [List.cons_append, decFrom]
    cases digitVal b with
    | none => simp
    | some d => simp [decFrom_app l]

theorem dig_of {d : Nat} (h : d < 10) : digitVal (UInt8.ofNat (48 + d)) = some d := by
  have e : (UInt8.ofNat (48 + d)).toNat = 48 + d := by simp [UInt8.toNat_ofNat']; omega
  exact digitVal_some.2 ⟨by omega, by omega, by omega⟩

theorem of_dig {c : UInt8} {d : Nat} (h : digitVal c = some d) : d < 10 ∧ UInt8.ofNat (48 + d) = c := by
  obtain ⟨h1, h2, h3⟩ := digitVal_some.1 h
  refine ⟨by omega, ?_⟩
  rw [h3, show 48 + (c.toNat - 48) = c.toNat by omega]
  exact UInt8.ofNat_toNat

theorem decFrom_dec (n : Nat) : decFrom 0 (decDigits n) = some n := by
  induction n using Nat.strongRecOn with
  | _ n ih =>
    unfold decDigits
    split
    · rename_i h
      have := decFrom_app [] 0 (UInt8.ofNat (48 + n))
      simp only [List.nil_append] at this
      rw [this, dig_of h]
      simp [decFrom]
    · rename_i h
      rw [decFrom_app, ih (n / 10) (by omega), dig_of (Nat.mod_lt _ (by omega))]
      simp
      omega

theorem dec_ne (n : Nat) : decDigits n ≠ [] := by
  unfold decDigits
  split <;> simp

theorem decNat_dec (n : Nat) : decNat (decDigits n) = some n := by
  unfold decNat
  rw [if_neg (by simp [dec_ne]), decFrom_dec]

theorem dec_inj {n m : Nat} (h : decDigits n = decDigits m) : n = m := by
  have h1 := decFrom_dec n
  rw [h, decFrom_dec] at h1
  exact (Option.some.inj h1).symm

theorem dec_digit (n : Nat) : ∀ c, c ∈ decDigits n → 48 ≤ c.toNat ∧ c.toNat ≤ 57 := by
  induction n using Nat.strongRecOn with
  | _ n ih =>
    have one : ∀ d, d < 10 → 48 ≤ (UInt8.ofNat (48 + d)).toNat ∧ (UInt8.ofNat (48 + d)).toNat ≤ 57 := fun d hd => by
      obtain ⟨h1, h2, _⟩ := digitVal_some.1 (dig_of hd)
      exact ⟨h1, h2⟩
    intro c hc
    unfold decDigits at hc
    split at hc
    · rename_i h
      rw [List.mem_singleton.1 hc]
      exact one n h
    · rename_i h
      rcases List.mem_append.1 hc with hc | hc
      · exact ih (n / 10) (by omega) c hc
      · rw [List.mem_singleton.1 hc]
        exact one _ (Nat.mod_lt _ (by omega))

theorem dec_head (n : Nat) (h : 1 ≤ n) : (decDigits n).getD 0 0 ≠ 48 := by
  induction n using Nat.strongRecOn with
  | _ n ih =>
    unfold decDigits
    split
    · rename_i hn
      intro e
      have := (digitVal_some.1 (dig_of hn))
      rw [show UInt8.ofNat (48 + n) = 48 from e] at this
      simp at this
      omega
    · rename_i hn
      have h1 := ih (n / 10) (by omega) (by omega)
      have h2 := dec_ne (n / 10)
      cases hd : decDigits (n / 10) with
      | nil => exact absurd hd h2
      | cons a t => rw [hd] at h1; simpa using h1

theorem dec_of : ∀ (k : Nat) (s : List UInt8) (n : Nat), s.length = k → s ≠ [] → s.getD 0 0 ≠ 48 → decFrom 0 s = some n → decDigits n = s ∧ 1 ≤ n := by
  intro k
  induction k with
  | zero => intro s n hk hs; exact absurd (List.length_eq_zero_iff.1 hk) hs
  | succ k ih =>
    intro s n hk hs h0 hd
    obtain ⟨t, c, rfl⟩ : ∃ t c, s = t ++ [c] := ⟨s.dropLast, s.getLast hs, (List.dropLast_concat_getLast hs).symm⟩
    rw [decFrom_app] at hd
    obtain ⟨m, hm, hd⟩ := Option.bind_eq_some_iff.1 hd
    obtain ⟨d, hc, rfl⟩ := Option.map_eq_some_iff.1 hd
    obtain ⟨hd10, hc'⟩ := of_dig hc
    by_cases ht : t = []
    · subst ht
      simp [decFrom] at hm
      subst hm
      simp at h0
      have hd0 : d ≠ 0 := by rintro rfl; exact h0 hc'.symm
      rw [decDigits, dif_pos (by omega)]
      simp only [Nat.zero_mul, Nat.zero_add, List.nil_append]
      exact ⟨by rw [hc'], by omega⟩
    · have h0' : t.getD 0 0 ≠ 48 := by
        cases t with
        | nil => exact absurd rfl ht
        | cons a t => simpa using h0
      obtain ⟨e, hm1⟩ := ih t m (by simpa using hk) ht h0' hm
      rw [decDigits, dif_neg (by omega)]
      rw [show (m * 10 + d) / 10 = m by omega, show (m * 10 + d) % 10 = d by omega, e, hc']
      exact ⟨rfl, by omega⟩

theorem dec_len_le (n k : Nat) (h : n < 10 ^ (k + 1)) : (decDigits n).length ≤ k + 1 := by
  induction k generalizing n with
  | zero => rw [decDigits, dif_pos (by simpa using h)]; simp
  | succ k ih =>
    rw [decDigits]
    split
    · simp
    · have := ih (n / 10) (by rw [Nat.pow_succ] at h; omega)
      simp; omega

theorem atoi_dec (n : Nat) (h : n < 1000000000000000000) : atoiS (decDigits n) = ((n : Int), false) := by
  have hl : (decDigits n).length ≤ 18 := dec_len_le n 17 (by simpa using h)
  have ha : atoi (decDigits n) = some (n : Int) := by
    have h1 := decNat_dec n
    have h2 := dec_digit n
    cases hd : decDigits n with
    | nil => exact absurd hd (dec_ne n)
    | cons b r =>
      rw [hd] at h1 h2
      have hb := h2 b (by simp)
      have q1 : (b == 45) = false := by simp; rintro rfl; simp at hb
      have q2 : (b == 43) = false := by simp; rintro rfl; simp at hb
      unfold atoi
      simp only [q1, q2, Bool.false_eq_true, if_false, h1]
      rfl
  unfold atoiS
  rw [atoiAll_short _ hl, ha]
  rfl

noncomputable def numS (s : List UInt8) (m : Nat) : Option Nat := by
  classical exact if h : ∃ n, 1 ≤ n ∧ n ≤ m ∧ decDigits n = s then some h.choose else none

theorem numS_some {s : List UInt8} {m n : Nat} : numS s m = some n ↔ 1 ≤ n ∧ n ≤ m ∧ decDigits n = s := by
  unfold numS
  split
  · rename_i h
    have hc := h.choose_spec
    constructor
    · intro e; rw [← Option.some.inj e]; exact hc
    · rintro ⟨_, _, h3⟩
      rw [dec_inj (hc.2.2.trans h3.symm)]
  · rename_i h
    constructor
    · intro e; cases e
    · intro e; exact absurd ⟨n, e⟩ h

theorem numS_none {s : List UInt8} {m : Nat} (h : ∀ n, 1 ≤ n → n ≤ m → decDigits n ≠ s) : numS s m = none := by
  cases e : numS s m with
  | none => rfl
  | some n =>
    obtain ⟨h1, h2, h3⟩ := numS_some.1 e
    exact absurd h3 (h n h1 h2)

end Go.Idl

namespace Go.Idl

open Go

/-! ### The plain reader -/

noncomputable def valS (s : Str) : Option (Str × Str) := (cutS s 32).bind fun p => (numS p.1 2048).bind fun n => if n < p.2.length ∧ p.2.getD n 0 = 10 then some (p.2.take n, p.2.drop (n + 1)) else none

noncomputable def valsS : Nat → Str → Option (List Str × Str)
  | 0, s => some ([], s)
  | n + 1, s => (valS s).bind fun p => (valsS n p.2).map fun q => (p.1 :: q.1, q.2)

noncomputable def attrS (s : Str) : Option (S50 × Str) := (cutS s 32).bind fun p => (cutS p.2 10).bind fun q => (numS q.1 16).bind fun n => (valsS n q.2).map fun r => (⟨p.1, r.1⟩, r.2)

noncomputable def entS : Nat → Str → Option (List S50)
  | 0, s => if s = [] then some [] else none
  | f + 1, s => if s = [] then some [] else (attrS s).bind fun p => (entS f p.2).map (p.1 :: ·)

theorem valS_len {s : Str} {p : Str × Str} (h : valS s = some p) : p.2.length < s.length := by
  obtain ⟨⟨a, b⟩, h1, h⟩ := Option.bind_eq_some_iff.1 h
  obtain ⟨n, h2, h⟩ := Option.bind_eq_some_iff.1 h
  have := cutS_len h1
  split at h
  · cases h; simp; omega
  · cases h

theorem valsS_len {n : Nat} {s : Str} {p : List Str × Str} (h : valsS n s = some p) : p.2.length ≤ s.length ∧ p.1.length = n := by
  induction n generalizing s p with
  | zero => cases h; simp
  | succ n ih =>
    obtain ⟨q, h1, h⟩ := Option.bind_eq_some_iff.1 h
    obtain ⟨r, h2, rfl⟩ := Option.map_eq_some_iff.1 h
    have := valS_len h1
    have := ih h2
    simp; omega

theorem attrS_len {s : Str} {p : S50 × Str} (h : attrS s = some p) : p.2.length < s.length := by
  obtain ⟨⟨a, b⟩, h1, h⟩ := Option.bind_eq_some_iff.1 h
  obtain ⟨⟨c, d⟩, h2, h⟩ := Option.bind_eq_some_iff.1 h
  obtain ⟨n, h3, h⟩ := Option.bind_eq_some_iff.1 h
  obtain ⟨r, h4, rfl⟩ := Option.map_eq_some_iff.1 h
  have := cutS_len h1
  have := cutS_len h2
  have := (valsS_len h4).1
  simp at *; omega

/-! ### The document's reader -/

theorem byte_eq {a c : UInt8} : ((a.toNat : Int) = (c.toNat : Int)) ↔ a = c := by
  constructor
  · intro h; exact UInt8.toNat_inj.1 (by omega)
  · rintro rfl; rfl

theorem byte_num {a : UInt8} {n : Nat} (c : UInt8) (hc : c.toNat = n) : ((a.toNat : Int) = (n : Int)) ↔ a = c := by
  rw [← hc]; exact byte_eq

theorem byte48 {a : UInt8} : ((a.toNat : Int) = 48) ↔ a = 48 := byte_num 48 rfl

theorem byte10 {a : UInt8} : ((a.toNat : Int) = 10) ↔ a = 10 := byte_num 10 rfl

theorem F72_loop (s : Str) (c : UInt8) (hs : s.length ≤ 4294967280) : ∀ (k i : Nat), i + k = s.length → loopO (fun v => F72_b4 s (c.toNat : Int) v) (i : Int) = some (match cutS (s.drop i) c with | some p => .inr (s.take i ++ p.1, p.2, true) | none => .inl ())
  | 0, i, h => by
    rw [List.drop_of_length_le (by omega)]
    refine loopO_done ?_
    simp only [F72_b4]
    rw [if_neg (by omega)]
    rfl
  | k + 1, i, h => by
    have hi : i < s.length := by omega
    have hg : s.getD i 0 = s[i] := by rw [List.getD_eq_getElem?_getD, List.getElem?_eq_getElem hi]; rfl
    have hw : IntKind.i64.wrap ((i : Int) + 1) = ((i + 1 : Nat) : Int) := wrap_nat (by omega)
    rw [List.drop_eq_getElem_cons hi]
    unfold cutS
    by_cases hc : s[i] = c
    · rw [if_pos hc]
      refine loopO_done ?_
      simp only [F72_b4]
      rw [if_pos (by omega), gd_pos (by omega), Int.toNat_natCast, hg, if_pos (byte_eq.2 hc), gd_pos (by omega), gd_pos (by omega), hw, gd_pos (by omega), gd_pos (by omega), Int.toNat_natCast]
      simp
    · rw [if_neg hc]
      rw [loopO_more (s' := ((i + 1 : Nat) : Int)), F72_loop s c hs k (i + 1) (by omega)]
      · cases cutS (s.drop (i + 1)) c with
        | none => rfl
        | some p =>
          simp only [Option.map_some]
          rw [List.take_succ_eq_append_getElem hi]
          simp only [List.append_assoc, List.singleton_append]
      · simp only [F72_b4]
        rw [if_pos (by omega), gd_pos (by omega), Int.toNat_natCast, hg, if_neg (fun e => hc (byte_eq.1 e)), hw]

theorem F72_eq (s : Str) (c : UInt8) (hs : s.length ≤ 4294967280) : F72 s (c.toNat : Int) = some (match cutS s c with | some p => (p.1, p.2, true) | none => ([], [], false)) := by
  unfold F72
  have := F72_loop s c hs s.length 0 (by omega)
  rw [show (((0 : Nat) : Int)) = 0 from rfl, List.drop_zero] at this
  rw [this]
  cases cutS s c with
  | none => rfl
  | some p => simp

theorem F73_loop (s : Str) (hs : s.length ≤ 4) : ∀ (k i acc : Nat), i + k = s.length → acc < 10 ^ i → loopO (fun v : Int × Int => F73_b10 s v.1 v.2) ((acc : Int), (i : Int)) = some (match Lib.decFrom acc (s.drop i) with | some n => .inl (n : Int) | none => .inr 0)
  | 0, i, acc, h, _ => by
    rw [List.drop_of_length_le (by omega)]
    refine loopO_done ?_
    simp only [F73_b10]
    rw [if_neg (by omega)]
    rfl
  | k + 1, i, acc, h, ha => by
    have hi : i < s.length := by omega
    have hg : s.getD i 0 = s[i] := by rw [List.getD_eq_getElem?_getD, List.getElem?_eq_getElem hi]; rfl
    have hp : 10 ^ i ≤ 10 ^ 3 := Nat.pow_le_pow_right (by decide) (by omega)
    have h3 : (10 : Nat) ^ 3 = 1000 := by decide
    have hb : s[i].toNat < 256 := s[i].toNat_lt
    rw [List.drop_eq_getElem_cons hi]
    unfold Lib.decFrom
    by_cases hc : 48 ≤ s[i].toNat ∧ s[i].toNat ≤ 57
    · have hd : Lib.digitVal s[i] = some (s[i].toNat - 48) := digitVal_some.2 ⟨hc.1, hc.2, rfl⟩
      simp only [hd]
      have hw : IntKind.i64.wrap ((i : Int) + 1) = ((i + 1 : Nat) : Int) := wrap_nat (by omega)
      rw [loopO_more (s' := (((acc * 10 + (s[i].toNat - 48) : Nat) : Int), ((i + 1 : Nat) : Int))), F73_loop s hs k (i + 1) _ (by omega) (by rw [Nat.pow_succ]; omega)]
      simp only [F73_b10]
      rw [if_pos (by omega), gd_pos (by omega), Int.toNat_natCast, hg, if_neg (by omega), if_neg (by omega), hw]
      rw [wrap_i64 (n := 10 * (acc : Int)) (by omega) (by omega), wrap_i64 (n := (s[i].toNat : Int)) (by omega) (by omega), wrap_i64 (n := 10 * (acc : Int) + (s[i].toNat : Int)) (by omega) (by omega), wrap_i64 (by omega) (by omega)]
      have : (10 * (acc : Int) + (s[i].toNat : Int) - 48) = ((acc * 10 + (s[i].toNat - 48) : Nat) : Int) := by omega
      rw [this]
    · have hd : Lib.digitVal s[i] = none := by unfold Lib.digitVal; rw [if_neg hc]
      simp only [hd]
      refine loopO_done ?_
      simp only [F73_b10]
      rw [if_pos (by omega), gd_pos (by omega), Int.toNat_natCast, hg]
      by_cases h1 : (s[i].toNat : Int) < 48
      · rw [if_pos h1]
      · rw [if_neg h1, if_pos (by omega)]

theorem F73_eq (s : Str) (m : Nat) (hm : m ≤ 9999) : F73 s (m : Int) = some (((numS s m).getD 0 : Nat) : Int) := by
  have noN : (∀ n, 1 ≤ n → n ≤ m → Lib.decDigits n ≠ s) → (((numS s m).getD 0 : Nat) : Int) = 0 := fun h => by rw [numS_none h]; rfl
  unfold F73
  by_cases h1 : (s.length : Int) < 1
  · rw [if_pos h1, noN]
    intro n _ _ e
    have : s = [] := List.length_eq_zero_iff.1 (by omega)
    exact dec_ne n (e.trans this)
  · rw [if_neg h1]
    by_cases h2 : (4 : Int) < s.length
    · rw [if_pos h2, noN]
      intro n _ hn e
      have := dec_len_le n 3 (by simp; omega)
      rw [e] at this
      omega
    · rw [if_neg h2]
      have hl := F73_loop s (by omega) s.length 0 0 (by omega) (by decide)
      rw [List.drop_zero] at hl
      rw [show ((0 : Int), (0 : Int)) = (((0 : Nat) : Int), ((0 : Nat) : Int)) from rfl, hl]
      cases hd : Lib.decFrom 0 s with
      | none =>
        simp only [Option.bind_some, Sum.elim_inr]
        rw [noN]
        rintro n _ _ rfl
        rw [decFrom_dec] at hd
        cases hd
      | some v =>
        simp only [Option.bind_some, Sum.elim_inl, F73_k10]
        rw [gd_pos (by omega)]
        by_cases h0 : s.getD 0 0 = 48
        · rw [if_pos (by rw [h0]; rfl), noN]
          rintro n hn _ rfl
          exact dec_head n hn h0
        · rw [if_neg (fun e => h0 (byte48.1 e))]
          have hs : s ≠ [] := by rintro rfl; simp at h1
          obtain ⟨q1, q2⟩ := dec_of s.length s v rfl hs h0 hd
          by_cases h3 : (m : Int) < v
          · rw [if_pos h3, noN]
            rintro n _ hn e
            have := dec_inj (q1.trans e.symm)
            omega
          · rw [if_neg h3]
            have : numS s m = some v := numS_some.2 ⟨q2, by omega, q1⟩
            rw [this]
            rfl

/-! ### The program's reader -/

theorem F68_eq (st : S102) (c : UInt8) (hs : st.ftext.fs.length < 4294967281) : F68 st (c.toNat : Int) = some (match cutS st.ftext.fs c with | some p => (p.1, ⟨⟨p.2⟩, st.fbad⟩) | none => (st.ftext.fs, ⟨⟨[]⟩, true⟩)) := by
  have hb := c.toNat_lt
  unfold F68 F96
  rw [gd_pos (by omega), gd_pos (by omega), Int.toNat_natCast, UInt8.ofNat_toNat, cut_one]
  simp only [Option.bind_some]
  cases cutS st.ftext.fs c with
  | none => cases h : st.fbad <;> simp
  | some p => cases h : st.fbad <;> simp

theorem F69_eq (st : S102) (s : Str) (m : Nat) (hm : m ≤ 9999) (hs : s.length ≤ 281474976710656) : F69 st s (m : Int) = some (match numS s m with | some n => ((n : Int), st) | none => (0, ⟨st.ftext, true⟩)) := by
  have noN : (∀ n, 1 ≤ n → n ≤ m → Lib.decDigits n ≠ s) → (match numS s m with | some n => ((n : Int), st) | none => ((0 : Int), (⟨st.ftext, true⟩ : S102))) = (0, ⟨st.ftext, true⟩) := fun h => by rw [numS_none h]
  unfold F69 F97
  rw [gd_pos (by omega)]
  simp only [Option.bind_some]
  have hat : ∀ n, n ≤ m → Lib.decDigits n = s → atoiS s = ((n : Int), false) := fun n hn e => by rw [← e]; exact atoi_dec n (by omega)
  by_cases h1 : (atoiS s).2 = true
  · rw [if_pos h1, noN]
    intro n _ hn e
    rw [hat n hn e] at h1
    cases h1
  · rw [if_neg h1]
    by_cases h2 : (atoiS s).1 < 1
    · rw [if_pos h2, noN]
      intro n h0 hn e
      rw [hat n hn e] at h2
      simp only at h2
      omega
    · rw [if_neg h2]
      by_cases h3 : (m : Int) < (atoiS s).1
      · rw [if_pos h3, noN]
        intro n h0 hn e
        rw [hat n hn e] at h3
        simp only at h3
        omega
      · rw [if_neg h3]
        unfold F66
        rw [gd_pos (by omega)]
        simp only [Option.bind_some]
        obtain ⟨v, hv⟩ : ∃ v : Nat, (atoiS s).1 = v := ⟨(atoiS s).1.toNat, by omega⟩
        rw [hv, itoa_nat]
        by_cases h4 : Lib.decDigits v = s
        · rw [if_neg (by simp [h4]), (numS_some (s := s) (m := m) (n := v)).2 ⟨by omega, by omega, h4⟩]
        · rw [if_pos h4, noN]
          intro n h0 hn e
          rw [hat n hn e] at hv
          simp only at hv
          exact h4 (by rw [show v = n by omega]; exact e)

theorem F70_ex (st : S102) (hs : st.ftext.fs.length < 4294967281) : ∃ x st', F70 st = some (x, st') ∧ st'.ftext.fs.length ≤ st.ftext.fs.length ∧ (st.fbad = true → st'.fbad = true) ∧
    (st.fbad = false → match valS st.ftext.fs with | some p => x = p.1 ∧ st' = ⟨⟨p.2⟩, false⟩ | none => st'.fbad = true) := by
  unfold F70 valS
  have e := F68_eq st 32 hs
  rw [show (((32 : UInt8).toNat : Nat) : Int) = 32 from rfl] at e
  rw [e]
  simp only [Option.bind_some]
  cases hc : cutS st.ftext.fs 32 with
  | none =>
    simp only [Option.bind_none]
    rw [show (2048 : Int) = ((2048 : Nat) : Int) from rfl, F69_eq _ _ 2048 (by omega) (by omega)]
    simp only [Option.bind_some]
    cases numS st.ftext.fs 2048 with
    | none =>
      simp only
      rw [if_pos (by simp)]
      exact ⟨_, _, rfl, by simp, fun _ => rfl, fun _ => rfl⟩
    | some n =>
      simp only
      rw [if_pos (by simp)]
      exact ⟨_, _, rfl, by simp, fun _ => rfl, fun _ => rfl⟩
  | some p =>
    obtain ⟨a, b⟩ := p
    have hl := cutS_len hc
    simp only [Option.bind_some]
    rw [show (2048 : Int) = ((2048 : Nat) : Int) from rfl, F69_eq _ _ 2048 (by omega) (by omega)]
    simp only [Option.bind_some]
    cases hn : numS a 2048 with
    | none =>
      simp only [Option.bind_none]
      refine ⟨[], ⟨⟨b⟩, true⟩, ?_, by simp only; omega, fun _ => rfl, fun _ => rfl⟩
      by_cases hb : (b.length : Int) ≤ 0
      · rw [if_pos hb]
      · rw [if_neg hb, if_pos trivial]
    | some n =>
      have hn2 := (numS_some.1 hn).2.1
      simp only [Option.bind_some]
      by_cases hb : (b.length : Int) ≤ n
      · rw [if_pos hb, if_neg (by omega)]
        exact ⟨_, _, rfl, by simp only; omega, fun _ => rfl, fun _ => rfl⟩
      · rw [if_neg hb]
        cases hbad : st.fbad with
        | true =>
          rw [if_pos (by rfl)]
          exact ⟨_, _, rfl, by simp only; omega, fun _ => rfl, fun e => by cases e⟩
        | false =>
          rw [if_neg (by simp), gd_pos (by omega), Int.toNat_natCast]
          by_cases h10 : b.getD n 0 = 10
          · rw [if_neg (by rw [h10]; simp), gd_pos (by omega), gd_pos (by omega), wrap_nat (by omega), gd_pos (by omega), gd_pos (by omega), Int.toNat_natCast, if_pos ⟨by omega, h10⟩]
            exact ⟨_, _, rfl, by simp; omega, fun e => (by cases e), fun _ => ⟨rfl, rfl⟩⟩
          · rw [if_pos (fun e => h10 (byte10.1 e)), if_neg (fun e => h10 e.2)]
            exact ⟨_, _, rfl, by simp only; omega, fun _ => rfl, fun _ => rfl⟩

end Go.Idl

namespace Go.Idl

open Go

/-! ### The document's -/

theorem F33_inner (s0 : Int) (n : Nat) (es : List S50) (nm : Str) (hn : n ≤ 16) : ∀ (k i : Nat) (s : Str) (acc : List Str), i + k = n → acc.length = i → s.length ≤ 4000000000 →
    loopO (fun v : (List S50) × (List UInt8) × Int × (List UInt8) × (List (List UInt8)) => F33_b33 (n : Int) v.1 v.2.1 v.2.2.1 v.2.2.2.1 v.2.2.2.2) (es, s, (i : Int), nm, acc) =
      some (match valsS k s with | some q => .inl (es, q.2, nm, acc ++ q.1) | none => .inr ([], false))
  | 0, i, s, acc, h, ha, hs => by
    refine loopO_done ?_
    simp only [F33_b33, valsS]
    rw [if_neg (by omega)]
    simp
  | k + 1, i, s, acc, h, ha, hs => by
    have e1 := F72_eq s 32 (by omega)
    rw [show (((32 : UInt8).toNat : Nat) : Int) = 32 from rfl] at e1
    unfold valsS valS
    cases hc : cutS s 32 with
    | none =>
      rw [hc] at e1
      simp only [Option.bind_none]
      have e2 := F73_eq [] 2048 (by omega)
      refine loopO_done ?_
      simp only [F33_b33]
      rw [if_pos (by omega), e1]
      simp only [Option.bind_some]
      rw [show (2048 : Int) = ((2048 : Nat) : Int) from rfl, e2]
      simp only [Option.bind_some]
      rw [if_pos (by simp)]
    | some p =>
      obtain ⟨a, b⟩ := p
      rw [hc] at e1
      have hl := cutS_len hc
      have e2 := F73_eq a 2048 (by omega)
      simp only [Option.bind_some]
      cases hN : numS a 2048 with
      | none =>
        rw [hN] at e2
        simp only [Option.bind_none]
        refine loopO_done ?_
        simp only [F33_b33]
        rw [if_pos (by omega), e1]
        simp only [Option.bind_some]
        rw [show (2048 : Int) = ((2048 : Nat) : Int) from rfl, e2]
        simp only [Option.bind_some, Option.getD_none]
        rw [if_neg (by simp), if_pos (show ((0 : Nat) : Int) = 0 from rfl)]
      | some m =>
        rw [hN] at e2
        obtain ⟨hm1, hm2, _⟩ := numS_some.1 hN
        simp only [Option.bind_some]
        by_cases hb : (b.length : Int) ≤ m
        · rw [if_neg (by omega)]
          simp only [Option.bind_none]
          refine loopO_done ?_
          simp only [F33_b33]
          rw [if_pos (by omega), e1]
          simp only [Option.bind_some]
          rw [show (2048 : Int) = ((2048 : Nat) : Int) from rfl, e2]
          simp only [Option.bind_some, Option.getD_some]
          rw [if_neg (by simp), if_neg (by omega), if_pos hb]
        · by_cases h10 : b.getD m 0 = 10
          · rw [if_pos ⟨by omega, h10⟩]
            simp only [Option.bind_some]
            have hw : IntKind.i64.wrap ((m : Int) + 1) = ((m + 1 : Nat) : Int) := wrap_nat (by omega)
            have hw2 : IntKind.i64.wrap ((i : Int) + 1) = ((i + 1 : Nat) : Int) := wrap_nat (by omega)
            rw [loopO_more (s' := (es, b.drop (m + 1), ((i + 1 : Nat) : Int), nm, acc ++ [b.take m])), F33_inner s0 n es nm hn k (i + 1) _ _ (by omega) (by simp [ha]) (by simp; omega)]
            · cases valsS k (b.drop (m + 1)) with
              | none => rfl
              | some q => simp
            · simp only [F33_b33]
              rw [if_pos (by omega), e1]
              simp only [Option.bind_some]
              rw [show (2048 : Int) = ((2048 : Nat) : Int) from rfl, e2]
              simp only [Option.bind_some, Option.getD_some]
              rw [if_neg (by simp), if_neg (by omega), if_neg hb, gd_pos (by omega), Int.toNat_natCast, if_neg (by rw [h10]; simp), gd_pos (by omega), gd_pos (by omega), gd_pos (by simp only [List.length_cons, List.length_nil]; omega), hw, gd_pos (by omega), gd_pos (by omega), Int.toNat_natCast, hw2]
          · rw [if_neg (fun e => h10 e.2)]
            simp only [Option.bind_none]
            refine loopO_done ?_
            simp only [F33_b33]
            rw [if_pos (by omega), e1]
            simp only [Option.bind_some]
            rw [show (2048 : Int) = ((2048 : Nat) : Int) from rfl, e2]
            simp only [Option.bind_some, Option.getD_some]
            rw [if_neg (by simp), if_neg (by omega), if_neg hb, gd_pos (by omega), Int.toNat_natCast, if_pos (fun e => h10 (byte10.1 e))]

theorem F33_step (s : Str) (acc : List S50) (hs : s.length ≤ 4000000000) (ha : acc.length + s.length ≤ 4000000000) (h0 : s ≠ []) : F33_b3 s acc = some (match attrS s with | some p => .inl (p.2, acc ++ [p.1]) | none => .inr (.inr ([], false))) := by
  have e1 := F72_eq s 32 (by omega)
  rw [show (((32 : UInt8).toNat : Nat) : Int) = 32 from rfl] at e1
  unfold F33_b3 attrS
  rw [if_pos h0, e1]
  have hp : 0 < s.length := List.length_pos_iff.2 h0
  cases hc : cutS s 32 with
  | none =>
    have e2 := F72_eq [] 10 (by simp)
    rw [show (((10 : UInt8).toNat : Nat) : Int) = 10 from rfl] at e2
    simp only [Option.bind_some, Option.bind_none]
    rw [e2]
    simp only [cutS, Option.bind_some]
    rw [show (16 : Int) = ((16 : Nat) : Int) from rfl, F73_eq _ 16 (by omega)]
    simp only [Option.bind_some]
    rw [if_pos (by simp)]
  | some p =>
    obtain ⟨a, b⟩ := p
    have hl := cutS_len hc
    have e2 := F72_eq b 10 (by omega)
    rw [show (((10 : UInt8).toNat : Nat) : Int) = 10 from rfl] at e2
    simp only [Option.bind_some]
    rw [e2]
    cases hd : cutS b 10 with
    | none =>
      simp only [Option.bind_some, Option.bind_none]
      rw [show (16 : Int) = ((16 : Nat) : Int) from rfl, F73_eq _ 16 (by omega)]
      simp only [Option.bind_some]
      rw [if_neg (by simp), if_pos (by simp)]
    | some q =>
      obtain ⟨c, d⟩ := q
      have hl2 := cutS_len hd
      simp only [Option.bind_some]
      rw [show (16 : Int) = ((16 : Nat) : Int) from rfl, F73_eq _ 16 (by omega)]
      simp only [Option.bind_some]
      rw [if_neg (by simp), if_neg (by simp)]
      cases hN : numS c 16 with
      | none =>
        simp only [Option.getD_none, Option.bind_none]
        rw [if_pos (show ((0 : Nat) : Int) = 0 from rfl)]
      | some n =>
        obtain ⟨hn1, hn2, _⟩ := numS_some.1 hN
        simp only [Option.getD_some, Option.bind_some]
        rw [if_neg (by omega)]
        have := F33_inner 0 n acc a hn2 n 0 d [] (by omega) rfl (by omega)
        rw [show ((0 : Nat) : Int) = 0 from rfl] at this
        rw [this]
        cases hv : valsS n d with
        | none => rfl
        | some r =>
          simp only [Option.bind_some, Sum.elim_inl, F33_k33, Option.map_some, List.nil_append]
          rw [gd_pos (by simp only [List.length_cons, List.length_nil]; omega)]

theorem F33_loop : ∀ (f : Nat) (s : Str) (acc : List S50), s.length ≤ f → acc.length + s.length ≤ 4000000000 →
    loopO (fun v : (List UInt8) × (List S50) => F33_b3 v.1 v.2) (s, acc) = some (match entS f s with | some l => .inl (acc ++ l) | none => .inr ([], false)) := by
  intro f
  induction f with
  | zero =>
    intro s acc h ha
    have : s = [] := List.length_eq_zero_iff.1 (by omega)
    subst this
    refine loopO_done ?_
    simp [F33_b3, entS]
  | succ f ih =>
    intro s acc h ha
    unfold entS
    by_cases h0 : s = []
    · subst h0
      refine loopO_done ?_
      simp [F33_b3]
    · rw [if_neg h0]
      have hs := F33_step s acc (by omega) ha h0
      cases ht : attrS s with
      | none =>
        rw [ht] at hs
        simp only [Option.bind_none]
        exact loopO_done hs
      | some p =>
        rw [ht] at hs
        have hl := attrS_len ht
        simp only [Option.bind_some]
        rw [loopO_more (s := (s, acc)) hs, ih p.2 _ (by omega) (by simp; omega)]
        cases entS f p.2 with
        | none => rfl
        | some l => simp

theorem entS_len : ∀ (f : Nat) (s : Str) (l : List S50), entS f s = some l → l.length ≤ s.length := by
  intro f
  induction f with
  | zero => intro s l h; unfold entS at h; split at h <;> cases h; simp
  | succ f ih =>
    intro s l h
    unfold entS at h
    split at h
    · cases h; simp
    · obtain ⟨p, h1, h⟩ := Option.bind_eq_some_iff.1 h
      obtain ⟨m, h2, rfl⟩ := Option.map_eq_some_iff.1 h
      have := attrS_len h1
      have := ih _ _ h2
      simp; omega

theorem F33_eq (s : Str) (hs : s.length ≤ 4000000000) (hz : ∀ l, entS s.length s = some l → SzE l) : F33 s = some (match entS s.length s with | some l => if rightB l = true then (l, true) else ([], false) | none => ([], false)) := by
  unfold F33
  rw [F33_loop s.length s [] (Nat.le_refl _) (by simpa using hs)]
  cases h : entS s.length s with
  | none => rfl
  | some l =>
    simp only [Option.bind_some, Sum.elim_inl, List.nil_append, F33_k3]
    rw [F18_eq l (hz l h)]
    simp only [Option.bind_some]
    cases rightB l <;> simp

/-! ### The program's -/

theorem F31_inner (nst : Int × S102) (n : Nat) (hnst : nst.1 = n) (es : List S50) (nm : Str) (hn : n ≤ 16) : ∀ (k i : Nat) (st : S102) (acc : List Str), i + k = n → acc.length = i → st.ftext.fs.length ≤ 4000000000 →
    ∃ acc' st', loopO (fun v : (List S50) × Int × S102 × (List UInt8) × (List (List UInt8)) => F31_b28 nst v.1 v.2.1 v.2.2.1 v.2.2.2.1 v.2.2.2.2) (es, (i : Int), st, nm, acc) = some (es, st', nm, acc') ∧
      st'.ftext.fs.length ≤ st.ftext.fs.length ∧ (st.fbad = true → st'.fbad = true) ∧ (st.fbad = false → match valsS k st.ftext.fs with | some q => acc' = acc ++ q.1 ∧ st' = ⟨⟨q.2⟩, false⟩ | none => st'.fbad = true)
  | 0, i, st, acc, h, ha, hs => by
    refine ⟨acc, st, loopO_done ?_, Nat.le_refl _, fun e => e, fun e => ?_⟩
    · simp only [F31_b28]
      rw [if_neg (by omega)]
    · simp only [valsS, List.append_nil, true_and]
      rcases st with ⟨⟨x⟩, y⟩
      simp at e
      rw [e]
  | k + 1, i, st, acc, h, ha, hs => by
    obtain ⟨x, st1, q1, q2, q3, q4⟩ := F70_ex st (by omega)
    obtain ⟨acc', st', p1, p2, p3, p4⟩ := F31_inner nst n hnst es nm hn k (i + 1) st1 (acc ++ [x]) (by omega) (by simp [ha]) (by omega)
    refine ⟨acc', st', ?_, by omega, fun e => p3 (q3 e), fun e => ?_⟩
    · rw [loopO_more (s' := (es, ((i + 1 : Nat) : Int), st1, nm, acc ++ [x])), p1]
      simp only [F31_b28]
      rw [if_pos (by omega), q1]
      simp only [Option.bind_some]
      rw [gd_pos (by simp only [List.length_cons, List.length_nil]; omega), wrap_nat (by omega)]
    · have q4 := q4 e
      simp only [valsS]
      cases hv : valS st.ftext.fs with
      | none =>
        rw [hv] at q4
        exact p3 q4
      | some p =>
        rw [hv] at q4
        obtain ⟨rfl, rfl⟩ := q4
        have p4 := p4 rfl
        simp only [Option.bind_some]
        cases hv2 : valsS k p.2 with
        | none => rw [hv2] at p4; exact p4
        | some q =>
          rw [hv2] at p4
          simp only [Option.map_some]
          rw [p4.1]
          exact ⟨by simp, p4.2⟩

theorem until_ex (st : S102) (c : UInt8) (hs : st.ftext.fs.length ≤ 4000000000) : ∃ x st', F68 st (c.toNat : Int) = some (x, st') ∧ st'.ftext.fs.length ≤ st.ftext.fs.length ∧ x.length ≤ st.ftext.fs.length ∧ (st.fbad = true → st'.fbad = true) ∧ (st.fbad = false → match cutS st.ftext.fs c with | some p => x = p.1 ∧ st' = ⟨⟨p.2⟩, false⟩ | none => st'.fbad = true) := by
  rw [F68_eq st c (by omega)]
  cases hc : cutS st.ftext.fs c with
  | none => exact ⟨_, _, rfl, by simp, by simp, fun _ => rfl, fun _ => rfl⟩
  | some p =>
    have := cutS_len (a := p.1) (b := p.2) hc
    exact ⟨_, _, rfl, by simp only; omega, by omega, fun h => h, fun h => ⟨rfl, by rw [h]⟩⟩

theorem number_ex (st : S102) (s : Str) (hs : s.length ≤ 4000000000) : ∃ (n : Nat) (st' : S102), F69 st s 16 = some ((n : Int), st') ∧ n ≤ 16 ∧ st'.ftext.fs.length ≤ st.ftext.fs.length ∧ (st.fbad = true → st'.fbad = true) ∧ (st.fbad = false → match numS s 16 with | some m => n = m ∧ st' = st | none => st'.fbad = true) := by
  have e := F69_eq st s 16 (by omega) (by omega)
  rw [show ((16 : Nat) : Int) = 16 from rfl] at e
  rw [e]
  cases hc : numS s 16 with
  | none => exact ⟨0, _, rfl, by omega, Nat.le_refl _, fun _ => rfl, fun _ => rfl⟩
  | some m => exact ⟨m, _, rfl, (numS_some.1 hc).2.1, Nat.le_refl _, fun h => h, fun _ => ⟨rfl, rfl⟩⟩

theorem F31_step (st : S102) (acc : List S50) (hs : st.ftext.fs.length ≤ 4000000000) (ha : acc.length + st.ftext.fs.length ≤ 4000000000) (h0 : st.ftext.fs ≠ []) (hb : st.fbad = false) :
    ∃ a st', F31_b4 acc st = some (.inl (acc ++ [a], st')) ∧ (match attrS st.ftext.fs with | some p => a = p.1 ∧ st' = ⟨⟨p.2⟩, false⟩ | none => st'.fbad = true) := by
  have hp : 0 < st.ftext.fs.length := List.length_pos_iff.2 h0
  obtain ⟨nm, st1, e1, l1, m1, b1, c1⟩ := until_ex st 32 hs
  obtain ⟨mt, st2, e2, l2, m2, b2, c2⟩ := until_ex st1 10 (Nat.le_trans l1 hs)
  obtain ⟨n, st3, e3, hn, l3, b3, c3⟩ := number_ex st2 mt (Nat.le_trans m2 (Nat.le_trans l1 hs))
  obtain ⟨acc', st4, p1, p2, p3, p4⟩ := F31_inner ((n : Int), st3) n rfl acc nm hn n 0 st3 [] (Nat.zero_add n) rfl (Nat.le_trans l3 (Nat.le_trans l2 (Nat.le_trans l1 hs)))
  rw [show (((32 : UInt8).toNat : Nat) : Int) = 32 from rfl] at e1
  rw [show (((10 : UInt8).toNat : Nat) : Int) = 10 from rfl] at e2
  rw [show ((0 : Nat) : Int) = 0 from rfl] at p1
  have c1 := c1 hb
  refine ⟨⟨nm, acc'⟩, st4, ?_, ?_⟩
  · unfold F31_b4
    rw [if_pos h0, if_pos (by simp [hb]), e1, Option.bind_some, e2, Option.bind_some, e3, Option.bind_some, p1, Option.bind_some]
    unfold F31_k28
    rw [gd_pos (by simp only [List.length_cons, List.length_nil]; omega)]
  · unfold attrS
    cases h1 : cutS st.ftext.fs 32 with
    | none =>
      rw [h1] at c1
      exact p3 (b3 (b2 c1))
    | some p =>
      rw [h1] at c1
      obtain ⟨rfl, rfl⟩ := c1
      have c2 := c2 rfl
      simp only at c2
      simp only [Option.bind_some]
      cases h2 : cutS p.2 10 with
      | none =>
        rw [h2] at c2
        exact p3 (b3 c2)
      | some q =>
        rw [h2] at c2
        obtain ⟨rfl, rfl⟩ := c2
        have c3 := c3 rfl
        simp only [Option.bind_some]
        cases h3 : numS q.1 16 with
        | none =>
          rw [h3] at c3
          exact p3 c3
        | some m =>
          rw [h3] at c3
          obtain ⟨rfl, rfl⟩ := c3
          have p4 := p4 rfl
          simp only at p4
          simp only [Option.bind_some]
          cases h4 : valsS n q.2 with
          | none => rw [h4] at p4; exact p4
          | some r =>
            rw [h4] at p4
            simp only [Option.map_some]
            rw [p4.1]
            exact ⟨by simp, p4.2⟩

theorem F31_loop : ∀ (f : Nat) (st : S102) (acc : List S50), st.ftext.fs.length ≤ f → acc.length + st.ftext.fs.length ≤ 4000000000 → st.fbad = false →
    ∃ e' st', loopO (fun v : (List S50) × S102 => F31_b4 v.1 v.2) (acc, st) = some (e', st') ∧ (match entS f st.ftext.fs with | some l => e' = acc ++ l ∧ st'.fbad = false | none => st'.fbad = true) := by
  intro f
  induction f with
  | zero =>
    intro st acc h ha hb
    have h0 : st.ftext.fs = [] := List.length_eq_zero_iff.1 (by omega)
    refine ⟨acc, st, loopO_done ?_, ?_⟩
    · simp [F31_b4, h0]
    · simp [entS, h0, hb]
  | succ f ih =>
    intro st acc h ha hb
    unfold entS
    by_cases h0 : st.ftext.fs = []
    · refine ⟨acc, st, loopO_done ?_, ?_⟩
      · simp [F31_b4, h0]
      · simp [h0, hb]
    · rw [if_neg h0]
      obtain ⟨a, st', q1, q3⟩ := F31_step st acc (by omega) ha h0 hb
      cases ht : attrS st.ftext.fs with
      | none =>
        rw [ht] at q3
        refine ⟨acc ++ [a], st', ?_, q3⟩
        rw [loopO_more (s := (acc, st)) q1]
        refine loopO_done ?_
        simp [F31_b4, q3]
      | some p =>
        rw [ht] at q3
        obtain ⟨rfl, rfl⟩ := q3
        have hl := attrS_len ht
        obtain ⟨e', st'', r1, r2⟩ := ih ⟨⟨p.2⟩, false⟩ (acc ++ [p.1]) (by simp only; omega) (by simp; omega) rfl
        refine ⟨e', st'', ?_, ?_⟩
        · rw [loopO_more (s := (acc, st)) q1, r1]
        · simp only [Option.bind_some]
          simp only at r2
          cases he : entS f p.2 with
          | none => rw [he] at r2; exact r2
          | some l => rw [he] at r2; simp only [Option.map_some]; rw [r2.1]; exact ⟨by simp, r2.2⟩

theorem F31_eq (s : Str) (hs : s.length ≤ 4000000000) (hz : ∀ l, entS s.length s = some l → SzE l) : F31 s = some (match entS s.length s with | some l => if rightB l = true then (l, 0) else ([], 172) | none => ([], 172)) := by
  unfold F31
  obtain ⟨e', st', q1, q2⟩ := F31_loop s.length ⟨⟨s⟩, false⟩ [] (Nat.le_refl _) (by simpa using hs) rfl
  rw [q1]
  simp only [Option.bind_some, F31_k4]
  simp only at q2
  cases h : entS s.length s with
  | none =>
    rw [h] at q2
    rw [if_pos q2]
  | some l =>
    rw [h] at q2
    obtain ⟨he, q3⟩ := q2
    rw [List.nil_append] at he
    subst he
    rw [if_neg (by simp [q3]), F17_eq _ (hz _ h)]
    simp only [Option.bind_some]
    cases rightB e' <;> simp

end Go.Idl

namespace Go.Idl

open Go Go.Lib

/-! ### The document's text -/

/-! ### What is read of a text -/

theorem entS_sz : ∀ (f : Nat) (s : Str) (l : List S50), entS f s = some l → ∀ a, a ∈ l → a.fName.length ≤ s.length ∧ a.fValues.length ≤ 16 := by
  intro f
  induction f with
  | zero => intro s l h; unfold entS at h; split at h <;> cases h; simp
  | succ f ih =>
    intro s l h
    unfold entS at h
    split at h
    · cases h; simp
    · obtain ⟨p, h1, h⟩ := Option.bind_eq_some_iff.1 h
      obtain ⟨m, h2, rfl⟩ := Option.map_eq_some_iff.1 h
      have hl := attrS_len h1
      intro a ha
      rcases List.mem_cons.1 ha with rfl | ha
      · obtain ⟨⟨x, y⟩, q1, h1⟩ := Option.bind_eq_some_iff.1 h1
        obtain ⟨⟨z, w⟩, q2, h1⟩ := Option.bind_eq_some_iff.1 h1
        obtain ⟨n, q3, h1⟩ := Option.bind_eq_some_iff.1 h1
        obtain ⟨r, q4, rfl⟩ := Option.map_eq_some_iff.1 h1
        have := cutS_len q1
        have := (valsS_len q4).2
        have := (numS_some.1 q3).2.1
        simp only
        omega
      · have := ih _ _ h2 a ha
        omega

theorem F10_eq (s : Str) : F10 s = some true := by
  unfold F10
  rw [F13_eq]
  by_cases h : (3000 : Int) < s.length
  · rw [if_pos h]; rfl
  · rw [if_neg h]
    have hz : ∀ l, entS s.length s = some l → SzE l := fun l hl => ⟨by have := entS_len _ _ _ hl; omega, fun a ha => by have := (entS_sz _ _ _ hl a ha).1; omega, fun a ha => by have := (entS_sz _ _ _ hl a ha).2; omega⟩
    have eA := F31_eq s (by omega) hz
    have eB := F33_eq s (by omega) hz
    cases he : entS s.length s with
    | none =>
      rw [he] at eA eB
      rw [eA, eB]
      simp
    | some l =>
      rw [he] at eA eB
      simp only at eA eB
      by_cases hr : rightB l = true
      · rw [if_pos hr] at eA eB
        rw [eA, eB]
        simp only [Option.bind_some]
        rw [if_neg (by simp), if_pos trivial, F16_eq l l (hz l he)]
        simp
      · rw [if_neg hr] at eA eB
        rw [eA, eB]
        simp

end Go.Idl

namespace Go.Idl

open Go Go.RowKit Go.ChangeShapes Go.WideShapes

def g0 : Gs := { oth := fun _ => False, mu := fun _ => undef, sh := fun _ => none, nx := 0 }

def H0 : IHeap := { next := 0, obj := fun _ => none, sn := [] }

theorem ow0 (b : Nat) : ¬ g0.ow b := by
  rintro (h | ⟨k, h, _⟩)
  · exact h
  · cases h

theorem below_of_mono {w w' : World} {g' : Gs} (m : Mono w g0 w' g') : Below w.heap.size w w' :=
  ⟨m.os, m.tape, m.output, m.size, fun k hk => m.keep k hk fun ⟨i, h, _⟩ => by cases h⟩

variable {P : Program} {w : World} {Hh : Type} {enc : TypeId × Value → Hh}

def Rd (P : Program) (w : World) {Hh : Type} (enc : TypeId × Value → Hh) (t : TypeId) (S : List IV → Prop) : Prop :=
  ∀ (base : Nat) (spare : Nat → Bool) (held : Bool) (fuel : Nat) (cs : List Value) (x : DataW Hh × List MemPlace), DataW.trod enc P w base spare held fuel t cs = some x →
    ∃ is, S is ∧ is.length = cs.length ∧ ∀ (j : Nat) (c : Value) (i : IV), cs[j]? = some c → is[j]? = some i → c.oneCell' = true ∧ R w g0 c i

theorem rd_one {c : Value} {i : IV} (ho : c.oneCell' = true) (hr : R w g0 c i) : ∀ (j : Nat) (c' : Value) (i' : IV), [c][j]? = some c' → [i][j]? = some i' → c'.oneCell' = true ∧ R w g0 c' i' := by
  intro j c' i' h1 h2
  cases j with
  | zero => simp at h1 h2; subst h1; subst h2; exact ⟨ho, hr⟩
  | succ j => simp at h1

theorem Rd_string {t : TypeId} (hu : P.underlying t = some .string) : Rd P w enc t fun is => ∃ s : List UInt8, is = [.v (str s)] := by
  intro base spare held fuel cs x h
  obtain ⟨s, rfl, _, _⟩ := DataW.trod_string hu h
  refine ⟨_, ⟨bytes s, rfl⟩, rfl, rd_one rfl ?_⟩
  rw [show str (bytes s) = .string s by rw [str, mk_bytes]]
  exact .v _

theorem Rd.one {t : TypeId} {v : Value} {d : DataW Hh} {ps : List MemPlace} {S : List IV → Prop} {base : Nat} {spare : Nat → Bool} {held : Bool} (h : Rd P w enc t S) (hv : v.cells = #[v]) (hd : DataW.Trod enc P w base spare held t v d ps) : ∃ i, S [i] ∧ R w g0 v i := by
  obtain ⟨fuel, hf⟩ := hd
  obtain ⟨is, h1, h2, h3⟩ := h _ _ _ _ _ _ hf
  rw [hv] at h2 h3
  match is, h2, h1, h3 with
  | [i], _, h1, h3 => exact ⟨i, h1, (h3 0 v i rfl rfl).2⟩

theorem Rd.agg {t : TypeId} {cs : Array Value} {d : DataW Hh} {ps : List MemPlace} {S : List IV → Prop} {base : Nat} {spare : Nat → Bool} {held : Bool} (h : Rd P w enc t S) (hd : DataW.Trod enc P w base spare held t (.agg cs) d ps) : ∃ is, S is ∧ R w g0 (.agg cs) (.ag is) := by
  obtain ⟨fuel, hf⟩ := hd
  obtain ⟨is, h1, h2, h3⟩ := h _ _ _ _ _ _ hf
  have hcs : (Value.agg cs).cells.toList = cs.toList := rfl
  rw [hcs] at h2 h3
  refine ⟨is, h1, .ag cs is (by simpa using h2.symm) (fun j x hx => ?_) fun j x c hx hc => (h3 j x c (by simpa using hx) hc).2⟩
  have hlt : j < is.length := by
    have := (Array.getElem?_eq_some_iff.1 hx).1
    rw [h2]; simpa using this
  exact (h3 j x is[j] (by simpa using hx) (List.getElem?_eq_getElem hlt)).1

end Go.Idl

namespace Go.Idl

open Go Go.RowKit Go.ChangeShapes Go.WideShapes

variable {P : Program} {w : World} {Hh : Type} {enc : TypeId × Value → Hh}

end Go.Idl

namespace Go.Proofs.YtolkpoeioagibaaGreatDoor

open Go Go.ChangeShapes Go.WideShapes Go.ChangeAt Go.RowKit Go.Idl

theorem ownNone : ownKnob Tryz.prog.godebug = none := by kernel_rfl

theorem laidOutAll : laidOutB Tryz.prog = true := by kernel_rfl

section

variable {w : World} {Hh : Type} {enc : TypeId × Value → Hh}

theorem rd9 : Rd Tryz.prog w enc 9 fun is => ∃ s : List UInt8, is = [.v (str s)] := Rd_string Tryz.underlying9

end

end Go.Proofs.YtolkpoeioagibaaGreatDoor

namespace Go.Idl

open Go Go.RowKit Go.ChangeShapes Go.WideShapes

def HV (vs : List (Nat × Array Value)) : IHeap := { next := 0, obj := fun _ => none, sn := [varsT vs] }

theorem simV (w : World) (vs : List (Nat × Array Value)) (h : ∀ p, p ∈ vs → ∃ el f, w.heap[p.1]? = some (.cells p.2 el f)) : Sim w g0 (HV vs) where
  nx := rfl
  sh := fun _ => rfl
  lt := fun k h => by cases h
  bk := fun k b h => by cases h
  inj := fun k k' b h => by cases h
  obj := fun k o h => by cases h
  old := fun b h => h.elim
  snap := fun p hp i hi => by
    obtain rfl : p = varsT vs := by simpa [HV] using hp
    have hl : i < vs.length := by simpa [varsT] using hi
    obtain ⟨el, f, h1⟩ := h _ (List.getElem_mem hl)
    simp only [varsT, List.getElem?_eq_getElem hl]
    exact .blk _ _ el f _ (ow0 _) h1

theorem of_var {P : Program} {w : World} {name : String} {b : Nat} {xs : Array Value} (hg : P.globalNamed name = some b) (h : w.var? P name = some xs) : ∃ el f, w.heap[b]? = some (.cells xs el f) := by
  unfold World.var? at h
  rw [hg] at h
  simp only [Option.bind_some] at h
  split at h
  · rename_i cs el f hc
    cases h
    exact ⟨el, f, hc⟩
  · cases h

theorem of_cell {w : World} {b i : Nat} {x : Value} (h : w.cell? ⟨b, i, none⟩ = some x) : ∃ xs el f, w.heap[b]? = some (.cells xs el f) ∧ xs[i]? = some x := by
  simp only [World.cell?] at h
  cases hb : w.heap[b]? with
  | none => rw [hb] at h; simp at h
  | some o =>
    rw [hb] at h
    cases o with
    | cells xs el f => exact ⟨xs, el, f, rfl, by simpa using h⟩
    | _ => simp at h

theorem door_laid_shaped {H : Type} {enc : TypeId × Value → H} {a : Assume} {C : Checked} {os : Os} {f : FuncId} {fn : Func} {s : ChangeSpec} {conds : List PathCond} {apart fresh handsOn again : Bool} {X : World → Array Value → Prop}
    (hX : ∀ (w w' : World) (args : Array Value), w.heap = w'.heap → X w args → X w' args)
    (own : ownKnob C.prog.godebug = none) (started : os.Started) (noInit : C.prog.inits.idxOf? f = none) (hfn : C.prog.funcs[f]? = some fn)
    (witness : ∃ (w : World) (tape : Tape) (i : Input), w.os = os ∧ (w.forCall tape i).Shaped C.prog ∧ i.vars = [] ∧ Input.okWide C.prog (w.forCall tape i) .any w.heap.size f i ∧
      ((s.pre enc C.prog fn conds apart (w.forCall tape i).memory i.args ∧ X (w.forCall tape i).memory i.args) ∧ sizedMet enc C.prog fn (OpenSpec.ofChange s) apart (w.forCall tape i).memory i.args) ∧ a.holds C.prog (lone (Frame.enter C.prog f i.args .normal) [] (w.forCall tape i)))
    (contract : ∀ (W : World) (base : Nat) (args : Array Value) (ds gs : List (DataW H)) (before : List MemPlace),
      (∀ (j : Nat) t v, fn.params[j]? = some t → args[j]? = some v → Value.okWide C.prog W .any base t v) →
      DataW.Whole enc C.prog fn.params.toList s.vars apart W args.toList ds gs before →
      (DataW.weightsEach C.prog (fn.params.toList ++ s.plain.varTypes C.prog) (ds ++ gs)).all (· ≤ reachBytes) = true → X W args → W.ShapedOpen C.prog →
      Calls C.prog f args W fun e W' => ∃ v, e = .returned v ∧ s.post enc C.prog fn apart fresh handsOn again W args v W') :
    ReturnsInHanded a C os f .any (fun w args => (s.pre enc C.prog fn conds apart w args ∧ X w args) ∧ sizedMet enc C.prog fn (OpenSpec.ofChange s) apart w args) (s.post enc C.prog fn apart fresh handsOn again) := by
  refine returnsInHanded_of_calls own started noInit witness ?_
  intro w tape i _ shape _ ok pre _
  obtain ⟨_, _, _, fn2, hfn2, _, _, _, _, val⟩ := ok
  have e := Option.some.inj (hfn2.symm.trans hfn)
  subst e
  obtain ⟨⟨⟨ds, gs, before, whole, _⟩, laid⟩, sized⟩ := pre
  refine Calls.mono (contract (w.forCall tape i) w.heap.size i.args ds gs before val (DataW.Whole.of_heap (by rfl) whole) (sized.weights whole) (hX _ _ _ (by rfl) laid) shape) ?_
  rintro _ W' ⟨v, rfl, post⟩
  exact ChangeSpec.post_blind post

end Go.Idl

namespace Go.Proofs

open Go.Shelf

def Tryz.laysM145_ren : Go.Shelf.Ren := ⟨fun | 145 => 96 | 220 => 110 | 219 => 123 | 217 => 145 | 225 => 146 | 224 => 147 | 267 => 148 | 266 => 160 | 314 => 161 | n => n, fun | 9 => 9 | 4 => 4 | 59 => 106 | 3 => 3 | 5 => 5 | 46 => 136 | 146 => 178 | 51 => 160 | n => n, fun | 1 => 1 | n => n⟩

theorem Tryz.laysM145 : Go.Proofs.LaysM.n145 Tryz.prog Tryz.laysM145_ren := {
  mixed := by kernel_rfl
  f145 := Tryz.func96.trans (congrArg some (by kernel_rfl))
  f217 := Tryz.func145.trans (congrArg some (by kernel_rfl))
  f219 := Tryz.func123.trans (congrArg some (by kernel_rfl))
  f220 := Tryz.func110.trans (congrArg some (by kernel_rfl))
  f224 := Tryz.func147.trans (congrArg some (by kernel_rfl))
  f225 := Tryz.func146.trans (congrArg some (by kernel_rfl))
  f266 := Tryz.func160.trans (congrArg some (by kernel_rfl))
  f267 := Tryz.func148.trans (congrArg some (by kernel_rfl))
  f314 := Tryz.func161.trans (congrArg some (by kernel_rfl))
  t3 := Tryz.underlying3
  a3 := Tryz.isAgg3
  z3 := Tryz.sizeOf3
  v3 := Tryz.zeroValue3
  t4 := Tryz.underlying4
  a4 := Tryz.isAgg4
  z4 := Tryz.sizeOf4
  v4 := Tryz.zeroValue4
  t5 := Tryz.underlying5
  a5 := Tryz.isAgg5
  z5 := Tryz.sizeOf5
  v5 := Tryz.zeroValue5
  t9 := Tryz.underlying9
  a9 := Tryz.isAgg9
  z9 := Tryz.sizeOf9
  v9 := Tryz.zeroValue9
  t46 := Tryz.underlying136
  a46 := Tryz.isAgg136
  z46 := Tryz.sizeOf136
  v46 := Tryz.zeroValue136
  t51 := Tryz.underlying160
  a51 := Tryz.isAgg160
  z51 := Tryz.sizeOf160
  v51 := Tryz.zeroValue160
  t59 := Tryz.underlying106
  a59 := Tryz.isAgg106
  z59 := Tryz.sizeOf106
  v59 := Tryz.zeroValue106
  t146 := Tryz.underlying178
  a146 := Tryz.isAgg178
  z146 := Tryz.sizeOf178
  v146 := Tryz.zeroValue178
  g1 := by kernel_rfl
  i3 := by kernel_rfl
  i4 := by kernel_rfl
  i5 := by kernel_rfl
  i9 := by kernel_rfl
  i46 := by kernel_rfl
  i51 := by kernel_rfl
  i59 := by kernel_rfl
  i146 := by kernel_rfl
  m1 := by kernel_rfl
  s1_3 := fun w h => Go.Proofs.cell_of_shapedOpen_int (zero := #[.int .i64 0]) (t := 3) h (of_decide_eq_true (by kernel_rfl)) (by kernel_rfl) rfl (by kernel_rfl) (by kernel_rfl) Tryz.underlying3 }

end Go.Proofs

namespace Go.Proofs.YtolkpoeioagibaaGreatDoor

open Go Go.ChangeShapes Go.WideShapes Go.ChangeAt Go.RowKit Go.Idl

def laidV : List (String × DataW Unit) := Rows.entryTextsRow.laid

theorem door_metV (os : Os) (args : Array Value) : laidMetH Tryz.prog laidV ((World.doorLaid Tryz.prog 400 os).forCall (fun _ _ => 0) ⟨#[], args, []⟩).memory :=
  laidMetH_of_parts3 (fuel := 8) (laidMet_of_run' 8 (by kernel_rfl) (by kernel_rfl)) (by kernel_rfl) (by kernel_rfl)

theorem starE : "*" ++ "errors.errorString" = "*errors.errorString" := by decide

theorem row181 (u : TypeId) (h : Tryz.prog.typeName? 3 u = some "*errors.errorString") : u = 181 :=
  typeName_ptr_named (nm := "errors.errorString") (by rw [starE]; kernel_rfl) (by kernel_rfl) (by decide) u (by rw [starE]; exact h)

theorem cells183 : Tryz.prog.cellsOf 183 = 1 := by kernel_rfl

theorem cellsN9 : Tryz.prog.cellsOf 9 = 1 := by kernel_rfl

theorem gTab : Tryz.prog.globalNamed "internal/strconv.uint64pow10" = some 0 := by kernel_rfl

theorem gMax : Tryz.prog.globalNamed "internal/bytealg.MaxLen" = some 1 := by kernel_rfl

theorem gSyn : Tryz.prog.globalNamed "strconv.ErrSyntax" = some 2 := by kernel_rfl

theorem gRng : Tryz.prog.globalNamed "strconv.ErrRange" = some 3 := by kernel_rfl

theorem vok_laid {W : World} (hL : laidMetH Tryz.prog laidV W) (hs : W.ShapedOpen Tryz.prog) : ∃ vs : List (Nat × Array Value), (∀ p, p ∈ vs → ∃ el f, W.heap[p.1]? = some (.cells p.2 el f)) ∧ VOK Tryz.prog (HV vs) := by
  have h0 : laidMet Tryz.prog laidV W := hL
  have h2 := h0.tail.tail
  have hT : Lib.TabIs Tryz.prog W "internal/strconv.uint64pow10" .u64 Lib.pow10Tab :=
    Lib.tabIs_of_head (t := 163) (e := 138) (n := 20) gTab (by kernel_rfl) Tryz.underlying163 Tryz.underlying138 (by kernel_rfl) (by kernel_rfl) h2
  obtain ⟨a3, s3, hv3, _, _, _⟩ := laid_sentinel h2.tail gRng (by kernel_rfl) Tryz.underlying93 row181 Tryz.underlying181 Tryz.underlying183 rfl rfl Tryz.underlying9 cells183 cellsN9
  obtain ⟨a2, s2, hv2, _, _, _⟩ := laid_sentinel h2.tail.tail gSyn (by kernel_rfl) Tryz.underlying93 row181 Tryz.underlying181 Tryz.underlying183 rfl rfl Tryz.underlying9 cells183 cellsN9
  obtain ⟨m, hm⟩ := Tryz.laysM145.s1_3 W hs
  obtain ⟨x4, el4, f4, hx4, hm4⟩ := of_cell hm
  refine ⟨[(0, (Lib.pow10Tab.map fun z => Value.int .u64 z).toArray), (2, #[.iface 181 (.pointer (some a2))]), (3, #[.iface 181 (.pointer (some a3))]), (1, x4)], ?_, ?_⟩
  · intro p hp
    simp only [List.mem_cons, List.not_mem_nil, or_false] at hp
    rcases hp with rfl | rfl | rfl | rfl
    · exact of_var gTab hT
    · exact of_var gSyn hv2
    · exact of_var gRng hv3
    · exact ⟨el4, f4, hx4⟩
  · exact ⟨0, 2, 3, 1, 181, 181, .pointer (some a2), .pointer (some a3), x4, m, gTab, gSyn, gRng, gMax, hm4, List.mem_singleton.2 rfl⟩

end Go.Proofs.YtolkpoeioagibaaGreatDoor

namespace Go.Proofs.YtolkpoeioagibaaGreatDoor

open Go Go.ChangeShapes Go.WideShapes Go.ChangeAt Go.RowKit Go.Idl

set_option maxRecDepth 100000 in
theorem entryReads_lifted (os : Os) (started : os.Started) (H : Type) (enc : TypeId × Value → H) :
    ReturnsInHanded {} Tryz.checked os 10 .any (fun w args => (Rows.entryReadsSpec.pre enc Tryz.prog Tryz.f10 [] false w args ∧ laidMetH Tryz.prog laidV w) ∧ sizedMet enc Tryz.prog Tryz.f10 (OpenSpec.ofChange Rows.entryReadsSpec) false w args)
      (Rows.entryReadsSpec.post enc Tryz.prog Tryz.f10 false true false false) := by
  refine door_laid_shaped (C := Tryz.checked) (X := fun w _ => laidMetH Tryz.prog laidV w) (fun _ _ _ hh h => h.of_heap hh) ownNone started (by kernel_rfl) Tryz.func10
    (ChangeSpec.witness_shaped (enc := enc) (C := Tryz.checked) (os := os) (X := fun w _ => laidMetH Tryz.prog laidV w) false (World.doorLaid Tryz.prog 400 os) #[.string ⟨#[]⟩] 8 rfl (World.shaped_of_RefB (by kernel_rfl) (by kernel_rfl)) (by kernel_rfl) (by kernel_rfl) (by kernel_rfl) (door_metV os _)) ?_
  intro W base args ds gs before hval0 hW hwt hL hshape
  have hval : ∀ (j : Nat) t v, Tryz.f10.params[j]? = some t → args[j]? = some v → Value.okWide Tryz.prog W .any base t v := hval0
  have hW' := hW
  obtain ⟨p, q, hA0, hV, rfl, hfz, hnd⟩ := hW
  have hA : DataW.TrodAll enc Tryz.prog W 0 (fun _ => true) true Tryz.f10.params.toList args.toList ds p := hA0
  rw [Tryz.params10] at hA hval
  obtain ⟨v0, d0, rfl, rfl, h0⟩ := trodAll_one hA
  obtain ⟨rfl, rfl⟩ := trodVars_none hV
  simp only [List.append_nil] at hW'
  have hlt := hW'.lt
  obtain ⟨s0, rfl⟩ := okWide_string Tryz.underlying9 (hval 0 9 v0 rfl rfl)
  obtain ⟨i0, ⟨x0, e0⟩, r0⟩ := rd9.one rfl h0
  simp only [List.cons.injEq, and_true] at e0
  subst e0
  obtain ⟨vs, hvs, hvok⟩ := vok_laid hL hshape
  have hcall := (F10_ok (H := HV vs) (K := fun e _ => e = .ret (.v (.bool true))) x0 hvok (F10_eq x0) rfl).run W g0 #[.string s0] (simV W vs hvs) ⟨rfl, fun j x i hx hi => by
    match j, hx, hi with
    | 0, hx, hi => simp at hx hi; subst hx; subst hi; exact r0
    | j + 1, hx, hi => simp at hx⟩
  refine hcall.mono ?_
  rintro e W' ⟨ie, g', H', hm, _, hre, rfl⟩
  have hb := below_of_mono hm
  obtain ⟨rfl⟩ : e = .returned (.bool true) := by
    cases hre with
    | ret x i h => rw [h.v_eq]
  refine ⟨_, rfl, ?_⟩
  refine ⟨_, _, _, [], p, [], hW', trodAll_mk1 (shut_bool Tryz.underlying4 _), ?_, ?_, hb.frame _, fun h => by cases h⟩
  · have hl0 : ∀ x ∈ p, x.block < W.heap.size := fun x hx => hlt x (by simp [hx])
    have k0 := Below.trod laidOutAll (by kernel_rfl) (of_decide_eq_true (by kernel_rfl)) h0 hb hl0
    exact ⟨p, [], k0, rfl, by simp⟩
  · rfl

theorem entryReads_row : Rows.EntryReadsSaid :=
  OpenClaim.holds_of_wide 10 Tryz.f10 rfl rfl rfl rfl rfl rfl rfl ⟨rfl, rfl, rfl, rfl, rfl⟩ rfl rfl rfl rfl rfl (by kernel_rfl) Tryz.func10 (by kernel_rfl)
    (of_decide_eq_true (by kernel_rfl)) (by unfold Func.isWrapper; first | (rw [if_pos (by decide +kernel)]; kernel_rfl) | (rw [if_neg (by decide +kernel)]; exact ⟨rfl, rfl⟩))
    (fun os started H enc _ => entryReads_lifted os started H enc)

theorem entryReads_holds : Rows.EntryReadsCardSaid :=
  Claim7.holds_tied_plain_at .later [] [.data, .data, .data, .sentinel, .sentinel] true (true, "50e4754251813c10f565251bd7064b64b9978502f0b8e6034c86890fe2975e00") true
    entryReads_row (fun _ h => by cases h) (by kernel_rfl) (fun _ h => by cases h) entryReads_row_tie rfl ⟨rfl, rfl⟩ (by kernel_rfl) rfl
    (fun f fn hf hfn => by
      obtain rfl : f = 10 := Option.some.inj ((show Tryz.prog.funcNamed "cardcase/cardcaselaw07.EntryReads" = some 10 by kernel_rfl).symm.trans hf) |>.symm
      obtain rfl : fn = Tryz.f10 := (Option.some.inj (Tryz.func10.symm.trans hfn)).symm
      exact ⟨by kernel_rfl, fun j t ht => by
        rw [Tryz.params10] at ht
        have hm : t ∈ [9] := by simpa using Array.mem_of_getElem? ht
        have hall : ([9].all fun u => !Tryz.prog.wantsStandIn u) = true := by kernel_rfl
        exact (show Tryz.prog.wantsStandIn t = false by simpa using List.all_eq_true.1 hall t hm)⟩)
    (by kernel_rfl)

end Go.Proofs.YtolkpoeioagibaaGreatDoor
