/- Copies go on apart; Same tells what is the same Part 6. Conditions: none. -/
import Derived.Test.YtbgebljjmpklkaaGreatDoorPartE
import Derived.Sort.Walk0
import Derived.Lib.AtoiTie
import Derived.ProofKit
import Derived.OpenShut
import Derived.SizedLaws
import Derived.Handed
import Derived.ChangeSame
import Derived.Test.YtbgebljjmpklkaaGreatDoorRows
import Derived.Test.YtbgebljjmpklkaaGreatDoorTie
import Derived.Test.YtbgebljjmpklkaaGreatDoorCards
import Derived.LaidMore
import Derived.Carry
import Derived.Stop.Joined
import Derived.SevenTiedAt
import Derived.Stop.LaidErr
import Derived.Lib.LaidTab
import Derived.JoinedCond
import Derived.ChangeArms
set_option linter.unusedSimpArgs false
set_option linter.unusedVariables false

namespace Go.Idl

set_option maxHeartbeats 8000000

set_option pp.deepTerms false

set_option maxRecDepth 60000

open Go Go.Proofs.Tryz

/-! cardcase/cardcaselaw20.does -/

noncomputable def F13 (a0_0_0 : List (List UInt8 × S39)) (a0_0_1 : List (List UInt8 × (List UInt8))) (a0_1 : Option S33) (a1 : S35) (a2 : S41) : Option (S35 × Bool × (Option S33) × (List (List UInt8 × S39)) × (List (List UInt8 × (List UInt8)))) :=
 gd (a1.fP.fShadow.length = 8) (gd (a2.fPairing.fShadow.length = 8) (if a2.fKind = 1 then ((F38 a1.fL a2.fPairing).bind fun (x10 : (List S39) × Int) => (F29 a0_0_0 a0_0_1 a0_1 a2.fPairing).bind fun (x11 : Int × (List (List UInt8 × S39)) × (List (List UInt8 × (List UInt8)))) => some (((⟨x10.1, a1.fP⟩ : S35), decide (x11.1 = x10.2), a0_1, x11.2.1, x11.2.2))) else (if a2.fKind = 2 then ((F39 a1.fL a2.fPairing.fHref a2.fPairing.fShadow).bind fun (x16 : (List S39) × Int) => (F30 a0_0_0 a0_0_1 a0_1 a2.fPairing.fHref a2.fPairing.fShadow).bind fun (x17 : Int × (List (List UInt8 × S39)) × (List (List UInt8 × (List UInt8)))) => some (((⟨x16.1, a1.fP⟩ : S35), decide (x17.1 = x16.2), a0_1, x17.2.1, x17.2.2))) else (if a2.fKind = 3 then ((F40 a1.fL a2.fPairing.fHref).bind fun (x22 : (List S39) × Int) => (F32 a0_0_0 a0_0_1 a0_1 a2.fPairing.fHref).bind fun (x23 : Int × (List (List UInt8 × S39)) × (List (List UInt8 × (List UInt8)))) => some (((⟨x22.1, a1.fP⟩ : S35), decide (x23.1 = x22.2), a0_1, x23.2.1, x23.2.2))) else (if a2.fKind = 4 then ((F27 a0_0_0 a0_0_1 a0_1 (⟨a2.fPairing.fHref, a2.fPairing.fUuid, a2.fDn, a2.fPairing.fShadow⟩ : S33)).bind fun (x29 : Int × (Option S33)) => (F41 (⟨a2.fPairing.fHref, a2.fPairing.fUuid, a2.fDn, a2.fPairing.fShadow⟩ : S33)).bind fun (x31 : Bool) => if x31 = true then (some (((⟨a1.fL, (⟨a2.fPairing.fHref, a2.fPairing.fUuid, a2.fDn, a2.fPairing.fShadow⟩ : S33)⟩ : S35), decide (x29.1 = 0), x29.2, a0_0_0, a0_0_1))) else (some ((a1, decide (x29.1 = 2), x29.2, a0_0_0, a0_0_1)))) else (if a2.fKind = 5 then ((F28 a0_0_0 a0_0_1 a0_1).bind fun (x38 : Int × (Option S33)) => some (((⟨a1.fL, (⟨[], [], [], [[], [], [], [], [], [], [], []]⟩ : S33)⟩ : S35), decide (x38.1 = 0), x38.2, a0_0_0, a0_0_1))) else (some (a1, true, a0_1, a0_0_0, a0_0_1))))))))

theorem F13_ok {H : IHeap} {K : IEnd → IHeap → Prop} (a0_0_0 : List (List UInt8 × S39)) (a0_0_1 : List (List UInt8 × (List UInt8))) (a0_1 : Option S33) (a1 : S35) (a2 : S41) (ka0 : Nat) (ka0_0_0 : Nat) (ka0_0_1 : Nat) (oka0 : H.obj ka0 = some (.cells ([.mp ka0_0_0, .mp ka0_0_1, optP (fun (x : S33) => .v (str x.fHref) :: .v (str x.fUuid) :: .sl 2 (x.fDn.map fun x => [.v (str x.fType), .v (str x.fValue)]) :: (x.fShadow.map fun x => .sl 1 (x.map fun x => [.v (str x)]))) a0_1]))) (oka0_0_0 : H.obj ka0_0_0 = some (.map (mE (fun (x : S39) => .ag (.v (str x.fHref) :: .v (str x.fUuid) :: (x.fShadow.map fun x => .sl 1 (x.map fun x => [.v (str x)])))) a0_0_0))) (oka0_0_1 : H.obj ka0_0_1 = some (.map (mE (fun (x : List UInt8) => .v (str x)) a0_0_1))) (hd1_2 : ¬ ka0_0_0 = ka0_0_1) {r : S35 × Bool × (Option S33) × (List (List UInt8 × S39)) × (List (List UInt8 × (List UInt8)))} (h : F13 a0_0_0 a0_0_1 a0_1 a1 a2 = some r) (hK : K (.ret (.tu [.ag (.sl 10 (r.1.fL.map fun x => .v (str x.fHref) :: .v (str x.fUuid) :: (x.fShadow.map fun x => .sl 1 (x.map fun x => [.v (str x)]))) :: .v (str r.1.fP.fHref) :: .v (str r.1.fP.fUuid) :: .sl 2 (r.1.fP.fDn.map fun x => [.v (str x.fType), .v (str x.fValue)]) :: (r.1.fP.fShadow.map fun x => .sl 1 (x.map fun x => [.v (str x)]))), .v (.bool r.2.1)])) (setL H [(ka0, .cells ([.mp ka0_0_0, .mp ka0_0_1, optP (fun (x : S33) => .v (str x.fHref) :: .v (str x.fUuid) :: .sl 2 (x.fDn.map fun x => [.v (str x.fType), .v (str x.fValue)]) :: (x.fShadow.map fun x => .sl 1 (x.map fun x => [.v (str x)]))) r.2.2.1])), (ka0_0_0, .map (mE (fun (x : S39) => .ag (.v (str x.fHref) :: .v (str x.fUuid) :: (x.fShadow.map fun x => .sl 1 (x.map fun x => [.v (str x)])))) r.2.2.2.1)), (ka0_0_1, .map (mE (fun (x : List UInt8) => .v (str x)) r.2.2.2.2))])) : ICalls prog 13 [.p ka0 0, .ag (.sl 10 (a1.fL.map fun x => .v (str x.fHref) :: .v (str x.fUuid) :: (x.fShadow.map fun x => .sl 1 (x.map fun x => [.v (str x)]))) :: .v (str a1.fP.fHref) :: .v (str a1.fP.fUuid) :: .sl 2 (a1.fP.fDn.map fun x => [.v (str x.fType), .v (str x.fValue)]) :: (a1.fP.fShadow.map fun x => .sl 1 (x.map fun x => [.v (str x)]))), .ag (.v (.int .i64 a2.fKind) :: .v (str a2.fPairing.fHref) :: .v (str a2.fPairing.fUuid) :: ((a2.fPairing.fShadow.map fun x => .sl 1 (x.map fun x => [.v (str x)])) ++ [.sl 2 (a2.fDn.map fun x => [.v (str x.fType), .v (str x.fValue)])]))] H K := by
 refine ICalls_iwp (N := 99) func13 (by kernel_rfl) rfl (by kernel_rfl) (by kernel_rfl) fun cb hcb hw hbd hnb => ?_
 clear hbd hnb
 subst hcb
 unfold F13 at h
 have hka0 : ka0 < H.next := Nat.lt_of_not_le fun q => by rw [hw _ q] at oka0; cases oka0
 have hka0_0_0 : ka0_0_0 < H.next := Nat.lt_of_not_le fun q => by rw [hw _ q] at oka0_0_0; cases oka0_0_0
 have hka0_0_1 : ka0_0_1 < H.next := Nat.lt_of_not_le fun q => by rw [hw _ q] at oka0_0_1; cases oka0_0_1
 have hd0_1 : ¬ ka0 = ka0_0_0 := fun q => by rw [q] at oka0; rw [oka0] at oka0_0_0; cases oka0_0_0
 have hd1_0 : ¬ ka0_0_0 = ka0 := fun q => hd0_1 q.symm
 have hd0_2 : ¬ ka0 = ka0_0_1 := fun q => by rw [q] at oka0; rw [oka0] at oka0_0_1; cases oka0_0_1
 have hd2_0 : ¬ ka0_0_1 = ka0 := fun q => hd0_2 q.symm
 have hd2_1 : ¬ ka0_0_1 = ka0_0_0 := fun q => hd1_2 q.symm
 obtain ⟨g2, h⟩ := gd_some.1 h
 obtain ⟨g3, h⟩ := gd_some.1 h
 refine wG ?_
 refine wG ?_
 refine IWp_seqF fun cb hc5 => ?_
 refine wF g3 ?_
 refine IWp_block ?_
 refine wG ?_
 refine IWp_cond_i h eA rfl ?_ ?_
 ·intro c8 h
  refine IWp_seqF fun cb hc9 => ?_
  refine vF (nd g2 g3) ?_
  obtain ⟨x10, hx10, h⟩ := bind_some' h
  refine F38_ok a1.fL a2.fPairing hx10 ?_
  refine sF g2 ?_
  subst hc9
  refine vF g3 ?_
  obtain ⟨x11, hx11, h⟩ := bind_some' h
  refine F29_ok a0_0_0 a0_0_1 a0_1 a2.fPairing ka0 ka0_0_0 ka0_0_1 (eF oka0) (eF oka0_0_0) (eF oka0_0_1) (by assumption) hx11 ?_
  refine sG ?_
  subst hc5
  refine wF g2 ?_
  refine vO ?_
  obtain rfl := Option.some.inj h
  refine sF g2 ?_
  refine retG_fzE (J := setL H [(ka0, .cells ([.mp ka0_0_0, .mp ka0_0_1, optP (fun (x : S33) => .v (str x.fHref) :: .v (str x.fUuid) :: .sl 2 (x.fDn.map fun x => [.v (str x.fType), .v (str x.fValue)]) :: (x.fShadow.map fun x => .sl 1 (x.map fun x => [.v (str x)]))) a0_1])), (ka0_0_0, .map (mE (fun (x : S39) => .ag (.v (str x.fHref) :: .v (str x.fUuid) :: (x.fShadow.map fun x => .sl 1 (x.map fun x => [.v (str x)])))) x11.2.1)), (ka0_0_1, .map (mE (fun (x : List UInt8) => .v (str x)) x11.2.2))]) (r' := .tu [.ag (.sl 10 (x10.1.map fun x => .v (str x.fHref) :: .v (str x.fUuid) :: (x.fShadow.map fun x => .sl 1 (x.map fun x => [.v (str x)]))) :: .v (str a1.fP.fHref) :: .v (str a1.fP.fUuid) :: .sl 2 (a1.fP.fDn.map fun x => [.v (str x.fType), .v (str x.fValue)]) :: (a1.fP.fShadow.map fun x => .sl 1 (x.map fun x => [.v (str x)]))), .v (.bool (decide (x11.1 = x10.2)))]) (EndH.ioL [(ka0, .cells ([.mp ka0_0_0, .mp ka0_0_1, optP (fun (x : S33) => .v (str x.fHref) :: .v (str x.fUuid) :: .sl 2 (x.fDn.map fun x => [.v (str x.fType), .v (str x.fValue)]) :: (x.fShadow.map fun x => .sl 1 (x.map fun x => [.v (str x)]))) a0_1])), (ka0_0_0, .map (mE (fun (x : S39) => .ag (.v (str x.fHref) :: .v (str x.fUuid) :: (x.fShadow.map fun x => .sl 1 (x.map fun x => [.v (str x)])))) x11.2.1)), (ka0_0_1, .map (mE (fun (x : List UInt8) => .v (str x)) x11.2.2))] (by simp only [delL_cons, delL_nil]; exact extA (Ext.delB (Ext.delB (Ext.delB (Ext.refl hw) ka0) ka0_0_0) ka0_0_1)) (by intro p hp; simp only [List.mem_cons, List.not_mem_nil, or_false] at hp; (try rcases hp with hp | hp | hp); all_goals (subst hp; refine ⟨by omega, by simp -implicitDefEqProofs (disch := omega) [go_sem, oka0], by first | exact nbLA | exact nboA⟩))) rfl (.same (by exact nbA)) hK
 intro c8 h
 refine wG ?_
 refine IWp_cond_i h eA rfl ?_ ?_
 ·intro c14 h
  refine IWp_seqF fun cb hc15 => ?_
  refine vF (nd g2 g3) ?_
  obtain ⟨x16, hx16, h⟩ := bind_some' h
  refine F39_ok a1.fL a2.fPairing.fHref a2.fPairing.fShadow hx16 ?_
  refine sF g2 ?_
  subst hc15
  refine vF g3 ?_
  obtain ⟨x17, hx17, h⟩ := bind_some' h
  refine F30_ok a0_0_0 a0_0_1 a0_1 a2.fPairing.fHref a2.fPairing.fShadow ka0 ka0_0_0 ka0_0_1 (eF oka0) (eF oka0_0_0) (eF oka0_0_1) (by assumption) hx17 ?_
  refine sG ?_
  subst hc5
  refine wF g2 ?_
  refine vO ?_
  obtain rfl := Option.some.inj h
  refine sF g2 ?_
  refine retG_fzE (J := setL H [(ka0, .cells ([.mp ka0_0_0, .mp ka0_0_1, optP (fun (x : S33) => .v (str x.fHref) :: .v (str x.fUuid) :: .sl 2 (x.fDn.map fun x => [.v (str x.fType), .v (str x.fValue)]) :: (x.fShadow.map fun x => .sl 1 (x.map fun x => [.v (str x)]))) a0_1])), (ka0_0_0, .map (mE (fun (x : S39) => .ag (.v (str x.fHref) :: .v (str x.fUuid) :: (x.fShadow.map fun x => .sl 1 (x.map fun x => [.v (str x)])))) x17.2.1)), (ka0_0_1, .map (mE (fun (x : List UInt8) => .v (str x)) x17.2.2))]) (r' := .tu [.ag (.sl 10 (x16.1.map fun x => .v (str x.fHref) :: .v (str x.fUuid) :: (x.fShadow.map fun x => .sl 1 (x.map fun x => [.v (str x)]))) :: .v (str a1.fP.fHref) :: .v (str a1.fP.fUuid) :: .sl 2 (a1.fP.fDn.map fun x => [.v (str x.fType), .v (str x.fValue)]) :: (a1.fP.fShadow.map fun x => .sl 1 (x.map fun x => [.v (str x)]))), .v (.bool (decide (x17.1 = x16.2)))]) (EndH.ioL [(ka0, .cells ([.mp ka0_0_0, .mp ka0_0_1, optP (fun (x : S33) => .v (str x.fHref) :: .v (str x.fUuid) :: .sl 2 (x.fDn.map fun x => [.v (str x.fType), .v (str x.fValue)]) :: (x.fShadow.map fun x => .sl 1 (x.map fun x => [.v (str x)]))) a0_1])), (ka0_0_0, .map (mE (fun (x : S39) => .ag (.v (str x.fHref) :: .v (str x.fUuid) :: (x.fShadow.map fun x => .sl 1 (x.map fun x => [.v (str x)])))) x17.2.1)), (ka0_0_1, .map (mE (fun (x : List UInt8) => .v (str x)) x17.2.2))] (by simp only [delL_cons, delL_nil]; exact extA (Ext.delB (Ext.delB (Ext.delB (Ext.refl hw) ka0) ka0_0_0) ka0_0_1)) (by intro p hp; simp only [List.mem_cons, List.not_mem_nil, or_false] at hp; (try rcases hp with hp | hp | hp); all_goals (subst hp; refine ⟨by omega, by simp -implicitDefEqProofs (disch := omega) [go_sem, oka0], by first | exact nbLA | exact nboA⟩))) rfl (.same (by exact nbA)) hK
 intro c14 h
 refine wG ?_
 refine IWp_cond_i h eA rfl ?_ ?_
 ·intro c20 h
  refine IWp_seqF fun cb hc21 => ?_
  refine vF (nd g2 g3) ?_
  obtain ⟨x22, hx22, h⟩ := bind_some' h
  refine F40_ok a1.fL a2.fPairing.fHref hx22 ?_
  refine sF g2 ?_
  subst hc21
  refine vF g3 ?_
  obtain ⟨x23, hx23, h⟩ := bind_some' h
  refine F32_ok a0_0_0 a0_0_1 a0_1 a2.fPairing.fHref ka0 ka0_0_0 ka0_0_1 (eF oka0) (eF oka0_0_0) (eF oka0_0_1) (by assumption) hx23 ?_
  refine sG ?_
  subst hc5
  refine wF g2 ?_
  refine vO ?_
  obtain rfl := Option.some.inj h
  refine sF g2 ?_
  refine retG_fzE (J := setL H [(ka0, .cells ([.mp ka0_0_0, .mp ka0_0_1, optP (fun (x : S33) => .v (str x.fHref) :: .v (str x.fUuid) :: .sl 2 (x.fDn.map fun x => [.v (str x.fType), .v (str x.fValue)]) :: (x.fShadow.map fun x => .sl 1 (x.map fun x => [.v (str x)]))) a0_1])), (ka0_0_0, .map (mE (fun (x : S39) => .ag (.v (str x.fHref) :: .v (str x.fUuid) :: (x.fShadow.map fun x => .sl 1 (x.map fun x => [.v (str x)])))) x23.2.1)), (ka0_0_1, .map (mE (fun (x : List UInt8) => .v (str x)) x23.2.2))]) (r' := .tu [.ag (.sl 10 (x22.1.map fun x => .v (str x.fHref) :: .v (str x.fUuid) :: (x.fShadow.map fun x => .sl 1 (x.map fun x => [.v (str x)]))) :: .v (str a1.fP.fHref) :: .v (str a1.fP.fUuid) :: .sl 2 (a1.fP.fDn.map fun x => [.v (str x.fType), .v (str x.fValue)]) :: (a1.fP.fShadow.map fun x => .sl 1 (x.map fun x => [.v (str x)]))), .v (.bool (decide (x23.1 = x22.2)))]) (EndH.ioL [(ka0, .cells ([.mp ka0_0_0, .mp ka0_0_1, optP (fun (x : S33) => .v (str x.fHref) :: .v (str x.fUuid) :: .sl 2 (x.fDn.map fun x => [.v (str x.fType), .v (str x.fValue)]) :: (x.fShadow.map fun x => .sl 1 (x.map fun x => [.v (str x)]))) a0_1])), (ka0_0_0, .map (mE (fun (x : S39) => .ag (.v (str x.fHref) :: .v (str x.fUuid) :: (x.fShadow.map fun x => .sl 1 (x.map fun x => [.v (str x)])))) x23.2.1)), (ka0_0_1, .map (mE (fun (x : List UInt8) => .v (str x)) x23.2.2))] (by simp only [delL_cons, delL_nil]; exact extA (Ext.delB (Ext.delB (Ext.delB (Ext.refl hw) ka0) ka0_0_0) ka0_0_1)) (by intro p hp; simp only [List.mem_cons, List.not_mem_nil, or_false] at hp; (try rcases hp with hp | hp | hp); all_goals (subst hp; refine ⟨by omega, by simp -implicitDefEqProofs (disch := omega) [go_sem, oka0], by first | exact nbLA | exact nboA⟩))) rfl (.same (by exact nbA)) hK
 intro c20 h
 refine wG ?_
 refine IWp_cond_i h eA rfl ?_ ?_
 ·intro c26 h
  refine IWp_seqF fun cb hc27 => ?_
  refine v0 ?_
  simp -implicitDefEqProofs (disch := omega) [go_sem, bdP, g3]
  subst hc27
  refine IWp_seqF fun cb hc28 => ?_
  refine vF g3 ?_
  obtain ⟨x29, hx29, h⟩ := bind_some' h
  refine ICalls.wkL (args' := [.p ka0 0, .ag (.v (str ((⟨a2.fPairing.fHref, a2.fPairing.fUuid, a2.fDn, a2.fPairing.fShadow⟩ : S33).fHref)) :: .v (str ((⟨a2.fPairing.fHref, a2.fPairing.fUuid, a2.fDn, a2.fPairing.fShadow⟩ : S33).fUuid)) :: .sl 2 (((⟨a2.fPairing.fHref, a2.fPairing.fUuid, a2.fDn, a2.fPairing.fShadow⟩ : S33).fDn).map fun x => [.v (str x.fType), .v (str x.fValue)]) :: (((⟨a2.fPairing.fHref, a2.fPairing.fUuid, a2.fDn, a2.fPairing.fShadow⟩ : S33).fShadow).map fun x => .sl 1 (x.map fun x => [.v (str x)])))]) (by repeat (first | exact WkL.nil | refine WkL.cons ?_ ?_ | exact Wk.refl _)) (F27_ok a0_0_0 a0_0_1 a0_1 (⟨a2.fPairing.fHref, a2.fPairing.fUuid, a2.fDn, a2.fPairing.fShadow⟩ : S33) ka0 ka0_0_0 ka0_0_1 (eF oka0) (eF oka0_0_0) (eF oka0_0_1) hx29 ?_)
  refine sG ?_
  subst hc28
  refine IWp_seqF fun cb hc30 => ?_
  refine vF g3 ?_
  obtain ⟨x31, hx31, h⟩ := bind_some' h
  refine ICalls.wkL (args' := [.ag (.v (str ((⟨a2.fPairing.fHref, a2.fPairing.fUuid, a2.fDn, a2.fPairing.fShadow⟩ : S33).fHref)) :: .v (str ((⟨a2.fPairing.fHref, a2.fPairing.fUuid, a2.fDn, a2.fPairing.fShadow⟩ : S33).fUuid)) :: .sl 2 (((⟨a2.fPairing.fHref, a2.fPairing.fUuid, a2.fDn, a2.fPairing.fShadow⟩ : S33).fDn).map fun x => [.v (str x.fType), .v (str x.fValue)]) :: (((⟨a2.fPairing.fHref, a2.fPairing.fUuid, a2.fDn, a2.fPairing.fShadow⟩ : S33).fShadow).map fun x => .sl 1 (x.map fun x => [.v (str x)])))]) (by repeat (first | exact WkL.nil | refine WkL.cons ?_ ?_ | exact Wk.refl _)) (F41_ok (⟨a2.fPairing.fHref, a2.fPairing.fUuid, a2.fDn, a2.fPairing.fShadow⟩ : S33) hx31 ?_)
  refine sG ?_
  subst hc30
  refine IWp_cond_i h eA rfl ?_ ?_
  ·intro c32 h
   refine vF (nd g2 g3) ?_
   subst hc5
   refine wF g3 ?_
   refine vO ?_
   obtain rfl := Option.some.inj h
   refine sF g3 ?_
   refine retG_fzE (J := setL H [(ka0, .cells ([.mp ka0_0_0, .mp ka0_0_1, optP (fun (x : S33) => .v (str x.fHref) :: .v (str x.fUuid) :: .sl 2 (x.fDn.map fun x => [.v (str x.fType), .v (str x.fValue)]) :: (x.fShadow.map fun x => .sl 1 (x.map fun x => [.v (str x)]))) x29.2])), (ka0_0_0, .map (mE (fun (x : S39) => .ag (.v (str x.fHref) :: .v (str x.fUuid) :: (x.fShadow.map fun x => .sl 1 (x.map fun x => [.v (str x)])))) a0_0_0)), (ka0_0_1, .map (mE (fun (x : List UInt8) => .v (str x)) a0_0_1))]) (r' := .tu [.ag (.sl 10 (a1.fL.map fun x => .v (str x.fHref) :: .v (str x.fUuid) :: (x.fShadow.map fun x => .sl 1 (x.map fun x => [.v (str x)]))) :: .v (str a2.fPairing.fHref) :: .v (str a2.fPairing.fUuid) :: .sl 2 (a2.fDn.map fun x => [.v (str x.fType), .v (str x.fValue)]) :: (a2.fPairing.fShadow.map fun x => .sl 1 (x.map fun x => [.v (str x)]))), .v (.bool (decide (x29.1 = 0)))]) (EndH.ioL [(ka0, .cells ([.mp ka0_0_0, .mp ka0_0_1, optP (fun (x : S33) => .v (str x.fHref) :: .v (str x.fUuid) :: .sl 2 (x.fDn.map fun x => [.v (str x.fType), .v (str x.fValue)]) :: (x.fShadow.map fun x => .sl 1 (x.map fun x => [.v (str x)]))) x29.2])), (ka0_0_0, .map (mE (fun (x : S39) => .ag (.v (str x.fHref) :: .v (str x.fUuid) :: (x.fShadow.map fun x => .sl 1 (x.map fun x => [.v (str x)])))) a0_0_0)), (ka0_0_1, .map (mE (fun (x : List UInt8) => .v (str x)) a0_0_1))] (by simp only [delL_cons, delL_nil]; exact extA (Ext.delB (Ext.delB (Ext.delB (Ext.refl hw) ka0) ka0_0_0) ka0_0_1)) (by intro p hp; simp only [List.mem_cons, List.not_mem_nil, or_false] at hp; (try rcases hp with hp | hp | hp); all_goals (subst hp; refine ⟨by omega, by simp -implicitDefEqProofs (disch := omega) [go_sem, oka0_0_0, oka0_0_1], by first | exact nbLA | exact nboA⟩))) rfl (.same (by exact nbA)) hK
  intro c32 h
  simp (disch := omega) at c32
  refine vG ?_
  subst hc5
  refine wF g2 ?_
  refine vO ?_
  obtain rfl := Option.some.inj h
  refine sF g2 ?_
  refine retG_fzE (J := setL H [(ka0, .cells ([.mp ka0_0_0, .mp ka0_0_1, optP (fun (x : S33) => .v (str x.fHref) :: .v (str x.fUuid) :: .sl 2 (x.fDn.map fun x => [.v (str x.fType), .v (str x.fValue)]) :: (x.fShadow.map fun x => .sl 1 (x.map fun x => [.v (str x)]))) x29.2])), (ka0_0_0, .map (mE (fun (x : S39) => .ag (.v (str x.fHref) :: .v (str x.fUuid) :: (x.fShadow.map fun x => .sl 1 (x.map fun x => [.v (str x)])))) a0_0_0)), (ka0_0_1, .map (mE (fun (x : List UInt8) => .v (str x)) a0_0_1))]) (r' := .tu [.ag (.sl 10 (a1.fL.map fun x => .v (str x.fHref) :: .v (str x.fUuid) :: (x.fShadow.map fun x => .sl 1 (x.map fun x => [.v (str x)]))) :: .v (str a1.fP.fHref) :: .v (str a1.fP.fUuid) :: .sl 2 (a1.fP.fDn.map fun x => [.v (str x.fType), .v (str x.fValue)]) :: (a1.fP.fShadow.map fun x => .sl 1 (x.map fun x => [.v (str x)]))), .v (.bool (decide (x29.1 = 2)))]) (EndH.ioL [(ka0, .cells ([.mp ka0_0_0, .mp ka0_0_1, optP (fun (x : S33) => .v (str x.fHref) :: .v (str x.fUuid) :: .sl 2 (x.fDn.map fun x => [.v (str x.fType), .v (str x.fValue)]) :: (x.fShadow.map fun x => .sl 1 (x.map fun x => [.v (str x)]))) x29.2])), (ka0_0_0, .map (mE (fun (x : S39) => .ag (.v (str x.fHref) :: .v (str x.fUuid) :: (x.fShadow.map fun x => .sl 1 (x.map fun x => [.v (str x)])))) a0_0_0)), (ka0_0_1, .map (mE (fun (x : List UInt8) => .v (str x)) a0_0_1))] (by simp only [delL_cons, delL_nil]; exact extA (Ext.delB (Ext.delB (Ext.delB (Ext.refl hw) ka0) ka0_0_0) ka0_0_1)) (by intro p hp; simp only [List.mem_cons, List.not_mem_nil, or_false] at hp; (try rcases hp with hp | hp | hp); all_goals (subst hp; refine ⟨by omega, by simp -implicitDefEqProofs (disch := omega) [go_sem, oka0_0_0, oka0_0_1], by first | exact nbLA | exact nboA⟩))) rfl (.same (by exact nbA)) hK
 intro c26 h
 refine wG ?_
 refine IWp_cond_i h eA rfl ?_ ?_
 ·intro c36 h
  refine IWp_seqF fun cb hc37 => ?_
  refine v0 ?_
  simp -implicitDefEqProofs (disch := omega) [go_sem, bdP, g2]
  subst hc37
  refine vG ?_
  obtain ⟨x38, hx38, h⟩ := bind_some' h
  refine F28_ok a0_0_0 a0_0_1 a0_1 ka0 ka0_0_0 ka0_0_1 (eF oka0) (eF oka0_0_0) (eF oka0_0_1) hx38 ?_
  refine sG ?_
  subst hc5
  refine wG ?_
  refine vO ?_
  obtain rfl := Option.some.inj h
  refine sG ?_
  refine retG_fzE (J := setL H [(ka0, .cells ([.mp ka0_0_0, .mp ka0_0_1, optP (fun (x : S33) => .v (str x.fHref) :: .v (str x.fUuid) :: .sl 2 (x.fDn.map fun x => [.v (str x.fType), .v (str x.fValue)]) :: (x.fShadow.map fun x => .sl 1 (x.map fun x => [.v (str x)]))) x38.2])), (ka0_0_0, .map (mE (fun (x : S39) => .ag (.v (str x.fHref) :: .v (str x.fUuid) :: (x.fShadow.map fun x => .sl 1 (x.map fun x => [.v (str x)])))) a0_0_0)), (ka0_0_1, .map (mE (fun (x : List UInt8) => .v (str x)) a0_0_1))]) (r' := _) (EndH.ioL [(ka0, .cells ([.mp ka0_0_0, .mp ka0_0_1, optP (fun (x : S33) => .v (str x.fHref) :: .v (str x.fUuid) :: .sl 2 (x.fDn.map fun x => [.v (str x.fType), .v (str x.fValue)]) :: (x.fShadow.map fun x => .sl 1 (x.map fun x => [.v (str x)]))) x38.2])), (ka0_0_0, .map (mE (fun (x : S39) => .ag (.v (str x.fHref) :: .v (str x.fUuid) :: (x.fShadow.map fun x => .sl 1 (x.map fun x => [.v (str x)])))) a0_0_0)), (ka0_0_1, .map (mE (fun (x : List UInt8) => .v (str x)) a0_0_1))] (by simp only [delL_cons, delL_nil]; exact extA (Ext.delB (Ext.delB (Ext.delB (Ext.refl hw) ka0) ka0_0_0) ka0_0_1)) (by intro p hp; simp only [List.mem_cons, List.not_mem_nil, or_false] at hp; (try rcases hp with hp | hp | hp); all_goals (subst hp; refine ⟨by omega, by simp -implicitDefEqProofs (disch := omega) [go_sem, oka0_0_0, oka0_0_1], by first | exact nbLA | exact nboA⟩))) eA (.wk _ (.tu [.ag ([.sl 10 (a1.fL.map fun x => .v (str x.fHref) :: .v (str x.fUuid) :: (x.fShadow.map fun x => .sl 1 (x.map fun x => [.v (str x)]))), .v (str []), .v (str []), .sl 2 (([] : List S89).map fun x => [.v (str x.fType), .v (str x.fValue)]), .sl 1 ((([] : List (List UInt8))).map fun x => [.v (str x)]), .sl 1 ((([] : List (List UInt8))).map fun x => [.v (str x)]), .sl 1 ((([] : List (List UInt8))).map fun x => [.v (str x)]), .sl 1 ((([] : List (List UInt8))).map fun x => [.v (str x)]), .sl 1 ((([] : List (List UInt8))).map fun x => [.v (str x)]), .sl 1 ((([] : List (List UInt8))).map fun x => [.v (str x)]), .sl 1 ((([] : List (List UInt8))).map fun x => [.v (str x)]), .sl 1 ((([] : List (List UInt8))).map fun x => [.v (str x)])]), .v (.bool (decide (x38.1 = 0)))]) (by repeat (first | exact WkL.nil | refine WkL.cons ?_ ?_ | exact Wk.refl _ | exact Wk.nil _ | refine Wk.agL ?_ | refine Wk.tuL ?_)) (by exact nbA)) hK
 intro c36 h
 refine vO ?_
 subst hc5
 refine wF g2 ?_
 refine vO ?_
 obtain rfl := Option.some.inj h
 refine sF g2 ?_
 refine retG_fzE (J := setL H [(ka0, .cells ([.mp ka0_0_0, .mp ka0_0_1, optP (fun (x : S33) => .v (str x.fHref) :: .v (str x.fUuid) :: .sl 2 (x.fDn.map fun x => [.v (str x.fType), .v (str x.fValue)]) :: (x.fShadow.map fun x => .sl 1 (x.map fun x => [.v (str x)]))) a0_1])), (ka0_0_0, .map (mE (fun (x : S39) => .ag (.v (str x.fHref) :: .v (str x.fUuid) :: (x.fShadow.map fun x => .sl 1 (x.map fun x => [.v (str x)])))) a0_0_0)), (ka0_0_1, .map (mE (fun (x : List UInt8) => .v (str x)) a0_0_1))]) (r' := .tu [.ag (.sl 10 (a1.fL.map fun x => .v (str x.fHref) :: .v (str x.fUuid) :: (x.fShadow.map fun x => .sl 1 (x.map fun x => [.v (str x)]))) :: .v (str a1.fP.fHref) :: .v (str a1.fP.fUuid) :: .sl 2 (a1.fP.fDn.map fun x => [.v (str x.fType), .v (str x.fValue)]) :: (a1.fP.fShadow.map fun x => .sl 1 (x.map fun x => [.v (str x)]))), .v (.bool true)]) (EndH.ioL [(ka0, .cells ([.mp ka0_0_0, .mp ka0_0_1, optP (fun (x : S33) => .v (str x.fHref) :: .v (str x.fUuid) :: .sl 2 (x.fDn.map fun x => [.v (str x.fType), .v (str x.fValue)]) :: (x.fShadow.map fun x => .sl 1 (x.map fun x => [.v (str x)]))) a0_1])), (ka0_0_0, .map (mE (fun (x : S39) => .ag (.v (str x.fHref) :: .v (str x.fUuid) :: (x.fShadow.map fun x => .sl 1 (x.map fun x => [.v (str x)])))) a0_0_0)), (ka0_0_1, .map (mE (fun (x : List UInt8) => .v (str x)) a0_0_1))] (by simp only [delL_cons, delL_nil]; exact extA (Ext.delB (Ext.delB (Ext.delB (Ext.refl hw) ka0) ka0_0_0) ka0_0_1)) (by intro p hp; simp only [List.mem_cons, List.not_mem_nil, or_false] at hp; (try rcases hp with hp | hp | hp); all_goals (subst hp; refine ⟨by omega, by simp -implicitDefEqProofs (disch := omega) [go_sem, oka0_0_0, oka0_0_1, oka0], by first | exact nbLA | exact nboA⟩))) rfl (.same (by exact nbA)) hK

/-! cardcase/cardcaseref06.Same -/

noncomputable def F51_k8  : Option Bool :=
 some true

noncomputable def F51_b8 (a0 : List S89) (a1 : List S89) (v9 : Int) : Option (Int ⊕ (Unit ⊕ Bool)) :=
 if v9 < (a0.length : Int) then (gd (0 ≤ v9 ∧ v9 < a0.length) (gd (0 ≤ v9 ∧ v9 < a1.length) (if ¬ (((a0.getD v9.toNat S89.zero).fType) = ((a1.getD v9.toNat S89.zero).fType) ∧ ((a0.getD v9.toNat S89.zero).fValue) = ((a1.getD v9.toNat S89.zero).fValue)) then (some (.inr (.inr false))) else (some (.inl (IntKind.i64.wrap (v9 + 1))))))) else (some (.inr (.inl ())))

noncomputable def F51 (a0 : List S89) (a1 : List S89) : Option Bool :=
 if ¬ (a0.length : Int) = (a1.length : Int) then (some false) else ((loopO (fun (s : Int) => F51_b8 a0 a1 s) 0).bind fun y => Sum.elim (fun (e : Unit) => F51_k8) (fun (q : Bool) => some q) y)

theorem F51_ok {H : IHeap} {K : IEnd → IHeap → Prop} (a0 : List S89) (a1 : List S89) {r : Bool} (h : F51 a0 a1 = some r) (hK : K (.ret (.v (.bool r))) H) : ICalls prog 51 [.sl 2 (a0.map fun x => [.v (str x.fType), .v (str x.fValue)]), .sl 2 (a1.map fun x => [.v (str x.fType), .v (str x.fValue)])] H K := by
 refine ICalls_iwp (N := 26) func51 (by kernel_rfl) rfl (by kernel_rfl) (by kernel_rfl) fun cb hcb hw hbd hnb => ?_
 clear hbd hnb
 subst hcb
 unfold F51 at h
 refine wG ?_
 refine IWp_seqF fun cb hc2 => ?_
 refine wG ?_
 refine IWp_cond_i h eA rfl ?_ ?_
 ·intro c4 h
  refine wG ?_
  refine vO ?_
  obtain rfl := Option.some.inj h
  refine sG ?_
  exact retA (.refl hw) hK
 intro c4 h
 simp (disch := omega) at c4
 refine vO ?_
 subst hc2
 refine IWp_seqF fun cb hc6 => ?_
 refine wG ?_
 obtain ⟨y8, hl8q, hk8⟩ := bind_some' h
 refine IWp_tailC (fun tm' H' => .inl () = y8 ∧ H = H') ?_ fun cb hc8 => ?_
 ·rintro tm8e H8e ⟨rfl, rfl⟩
  have h : F51_k8 = some r := hk8
  unfold F51_k8 at h
  simp -implicitDefEqProofs only [go_sem]
  subst hc6
  refine wG ?_
  refine vO ?_
  obtain rfl := Option.some.inj h
  refine sG ?_
  exact retA (.refl hw) hK
 refine IWp_block ?_
 refine IWp_loopF (fun (s : Int) tm' H' => H = H' ∧ tm' 0 = .sl 2 (a0.map fun x => [.v (str x.fType), .v (str x.fValue)]) ∧ tm' 1 = .sl 2 (a1.map fun x => [.v (str x.fType), .v (str x.fValue)]) ∧ tm' 5 = .v (.int .i64 s)) hl8q ?_ ?_
 ·exact sm
 rintro I8 hI8 v9 x8 tm8 H8 ⟨rfl, t0_8, t1_8, t5_8⟩ h hret8
 replace h : F51_b8 a0 a1 v9 = some x8 := h
 unfold F51_b8 at h
 refine IWp_seqF fun cb hc11 => ?_
 refine wF (nd t0_8 t5_8) ?_
 refine IWp_cond_i h eA rfl ?_ ?_
 ·intro c13 h
  refine vO ?_
  subst hc11
  refine IWp_seqF fun cb hc14 => ?_
  refine IWp_block ?_
  refine IWp_seqF fun cb hc15 => ?_
  refine IWp_drawP [] [0, 1, 2, 3, 4, 5, 6, 7, 8] (by kernel_rfl) (by kernel_rfl) (fun _ _ _ _ h => h) ?_
  obtain ⟨g16, h⟩ := gd_some.1 h
  obtain ⟨g17, h⟩ := gd_some.1 h
  refine sF (nd t0_8 (nd t1_8 t5_8)) ?_
  subst hc15
  refine IWp_cond_i h eA rfl ?_ ?_
  ·intro c18 h
   simp (disch := omega) at c18
   refine wG ?_
   refine vO ?_
   obtain rfl := Option.some.inj h
   obtain rfl := hret8 _ rfl
   replace h : some false = some r := hk8
   obtain rfl := Option.some.inj h
   refine sG ?_
   exact retA (.refl hw) hK
  intro c18 h
  simp (disch := omega) at c18
  refine vO ?_
  subst hc14
  refine vF t5_8 ?_
  obtain rfl := Option.some.inj h
  refine loopN_mk hI8 (IntKind.i64.wrap (v9 + 1)) ?_
  exact smF (nd t0_8 t1_8)
 intro c13 h
 simp (disch := omega) at c13
 refine vO ?_
 obtain rfl := Option.some.inj h
 have hy8 := hret8 _ rfl
 refine hc8 _ _ ?_
 refine .same ⟨hy8, rfl⟩

/-! cardcase/cardcaseref20.SamePromise -/

noncomputable def F25 (a0 : S33) (a1 : S33) : Option Bool :=
 gd (a0.fShadow.length = 8) (gd (a1.fShadow.length = 8) (if a0.fHref = a1.fHref then (if a0.fUuid = a1.fUuid then ((F51 a0.fDn a1.fDn).bind fun (x5 : Bool) => if x5 = true then ((F48 a0.fShadow a1.fShadow).bind fun (x6 : Bool) => some x6) else (some false)) else (some false)) else (some false)))

theorem F25_ok {H : IHeap} {K : IEnd → IHeap → Prop} (a0 : S33) (a1 : S33) {r : Bool} (h : F25 a0 a1 = some r) (hK : K (.ret (.v (.bool r))) H) : ICalls prog 25 [.ag (.v (str a0.fHref) :: .v (str a0.fUuid) :: .sl 2 (a0.fDn.map fun x => [.v (str x.fType), .v (str x.fValue)]) :: (a0.fShadow.map fun x => .sl 1 (x.map fun x => [.v (str x)]))), .ag (.v (str a1.fHref) :: .v (str a1.fUuid) :: .sl 2 (a1.fDn.map fun x => [.v (str x.fType), .v (str x.fValue)]) :: (a1.fShadow.map fun x => .sl 1 (x.map fun x => [.v (str x)])))] H K := by
 refine ICalls_iwp (N := 31) func25 (by kernel_rfl) rfl (by kernel_rfl) (by kernel_rfl) fun cb hcb hw hbd hnb => ?_
 clear hbd hnb
 subst hcb
 unfold F25 at h
 obtain ⟨g2, h⟩ := gd_some.1 h
 obtain ⟨g3, h⟩ := gd_some.1 h
 refine wG ?_
 refine IWp_seqF fun cb hc4 => ?_
 refine vF (nd g2 g3) ?_
 refine splitG_f h rfl ?_ ?_
 ·intro c9 h
  refine sF (nd g2 g3) ?_
  refine splitG_f h rfl ?_ ?_
  ·intro c8 h
   refine sF (nd g2 g3) ?_
   obtain ⟨x5, hx5, h⟩ := bind_some' h
   refine F51_ok a0.fDn a1.fDn hx5 ?_
   refine sG ?_
   refine splitG_f h eA ?_ ?_
   ·intro c7 h
    refine sF (nd g2 g3) ?_
    obtain ⟨x6, hx6, h⟩ := bind_some' h
    refine F48_ok a0.fShadow a1.fShadow hx6 ?_
    refine sG ?_
    subst hc4
    refine vO ?_
    obtain rfl := Option.some.inj h
    refine sG ?_
    exact retA (.refl hw) hK
   intro c7 h
   simp (disch := omega) at c7
   refine sG ?_
   subst hc4
   refine vO ?_
   obtain rfl := Option.some.inj h
   refine sG ?_
   exact retA (.refl hw) hK
  intro c8 h
  refine sG ?_
  subst hc4
  refine vO ?_
  obtain rfl := Option.some.inj h
  refine sG ?_
  exact retA (.refl hw) hK
 intro c9 h
 refine sG ?_
 subst hc4
 refine vO ?_
 obtain rfl := Option.some.inj h
 refine sG ?_
 exact retA (.refl hw) hK

/-! cardcase/cardcaseref20.SameOne -/

noncomputable def F19 (a0 : S39) (a1 : S39) : Option Bool :=
 gd (a0.fShadow.length = 8) (gd (a1.fShadow.length = 8) (if a0.fHref = a1.fHref then (if a0.fUuid = a1.fUuid then ((F48 a0.fShadow a1.fShadow).bind fun (x5 : Bool) => some x5) else (some false)) else (some false)))

theorem F19_ok {H : IHeap} {K : IEnd → IHeap → Prop} (a0 : S39) (a1 : S39) {r : Bool} (h : F19 a0 a1 = some r) (hK : K (.ret (.v (.bool r))) H) : ICalls prog 19 [.ag (.v (str a0.fHref) :: .v (str a0.fUuid) :: (a0.fShadow.map fun x => .sl 1 (x.map fun x => [.v (str x)]))), .ag (.v (str a1.fHref) :: .v (str a1.fUuid) :: (a1.fShadow.map fun x => .sl 1 (x.map fun x => [.v (str x)])))] H K := by
 refine ICalls_iwp (N := 24) func19 (by kernel_rfl) rfl (by kernel_rfl) (by kernel_rfl) fun cb hcb hw hbd hnb => ?_
 clear hbd hnb
 subst hcb
 unfold F19 at h
 obtain ⟨g2, h⟩ := gd_some.1 h
 obtain ⟨g3, h⟩ := gd_some.1 h
 refine wG ?_
 refine IWp_seqF fun cb hc4 => ?_
 refine vF (nd g2 g3) ?_
 refine splitG_f h rfl ?_ ?_
 ·intro c7 h
  refine sF (nd g2 g3) ?_
  refine splitG_f h rfl ?_ ?_
  ·intro c6 h
   refine sF (nd g2 g3) ?_
   obtain ⟨x5, hx5, h⟩ := bind_some' h
   refine F48_ok a0.fShadow a1.fShadow hx5 ?_
   refine sG ?_
   subst hc4
   refine vO ?_
   obtain rfl := Option.some.inj h
   refine sG ?_
   exact retA (.refl hw) hK
  intro c6 h
  refine sG ?_
  subst hc4
  refine vO ?_
  obtain rfl := Option.some.inj h
  refine sG ?_
  exact retA (.refl hw) hK
 intro c7 h
 refine sG ?_
 subst hc4
 refine vO ?_
 obtain rfl := Option.some.inj h
 refine sG ?_
 exact retA (.refl hw) hK

/-! cardcase/cardcaselaw20.same -/

noncomputable def F20_k23 (a1 : S35) (v27 : Bool) (v28 : Int) : Option Bool :=
 some (decide (v28 = (a1.fL.length : Int)))

noncomputable def F20_b23 (a1 : S35) (el26 : Int × S39) (v24 : Bool) (v25 : Int) : Option ((Bool × Int) ⊕ ((Bool × Int) ⊕ Bool)) :=
 gd (el26.2.fShadow.length = 8) (if ¬ el26.1 = v25 then (some (.inr (.inr false))) else (if (a1.fL.length : Int) ≤ v25 then (some (.inr (.inr false))) else (gd (0 ≤ v25 ∧ v25 < a1.fL.length) (gd (((a1.fL.getD v25.toNat S39.zero).fShadow).length = 8) ((F19 el26.2 (a1.fL.getD v25.toNat S39.zero)).bind fun (x38 : Bool) => if ¬ (x38 = true) then (some (.inr (.inr false))) else (some (.inl ((v24, IntKind.i64.wrap (v25 + 1))))))))))

noncomputable def F20 (a0_0_0 : List (List UInt8 × S39)) (a0_0_1 : List (List UInt8 × (List UInt8))) (a0_1 : Option S33) (a1 : S35) : Option Bool :=
 gd (a1.fP.fShadow.length = 8) ((F14 a0_0_0 a0_0_1 a0_1).bind fun (x5 : (List S39)) => (F26 a0_0_0 a0_0_1 a0_1).bind fun (x7 : S33 × Bool) => gd (x7.1.fShadow.length = 8) (if ¬ x7.2 = (decide (¬ a1.fP.fHref = [])) then (some false) else ((F25 x7.1 a1.fP).bind fun (x12 : Bool) => if ¬ (x12 = true) then (some false) else ((F34 a0_0_0 a0_0_1 a0_1).bind fun (x17 : Int) => if ¬ x17 = (a1.fL.length : Int) then (some false) else (gd (∀ x, x ∈ x5 → bigC x.fShadow) ((rangeR (ρ := (Bool × Int) ⊕ Bool) (fun (el26 : Int × S39) (s : Bool × Int) => F20_b23 a1 el26 s.1 s.2) (fun (s : Bool × Int) => .inl (s.1, s.2)) (enumI x5) (false, 0)).bind fun y => Sum.elim (fun (e : Bool × Int) => F20_k23 a1 e.1 e.2) (fun (q : Bool) => some q) y))))))

theorem F20_ok {H : IHeap} {K : IEnd → IHeap → Prop} (a0_0_0 : List (List UInt8 × S39)) (a0_0_1 : List (List UInt8 × (List UInt8))) (a0_1 : Option S33) (a1 : S35) (ka0 : Nat) (ka0_0_0 : Nat) (ka0_0_1 : Nat) (oka0 : H.obj ka0 = some (.cells ([.mp ka0_0_0, .mp ka0_0_1, optP (fun (x : S33) => .v (str x.fHref) :: .v (str x.fUuid) :: .sl 2 (x.fDn.map fun x => [.v (str x.fType), .v (str x.fValue)]) :: (x.fShadow.map fun x => .sl 1 (x.map fun x => [.v (str x)]))) a0_1]))) (oka0_0_0 : H.obj ka0_0_0 = some (.map (mE (fun (x : S39) => .ag (.v (str x.fHref) :: .v (str x.fUuid) :: (x.fShadow.map fun x => .sl 1 (x.map fun x => [.v (str x)])))) a0_0_0))) (oka0_0_1 : H.obj ka0_0_1 = some (.map (mE (fun (x : List UInt8) => .v (str x)) a0_0_1))) {r : Bool} (h : F20 a0_0_0 a0_0_1 a0_1 a1 = some r) (hK : K (.ret (.v (.bool r))) H) : ICalls prog 20 [.p ka0 0, .ag (.sl 10 (a1.fL.map fun x => .v (str x.fHref) :: .v (str x.fUuid) :: (x.fShadow.map fun x => .sl 1 (x.map fun x => [.v (str x)]))) :: .v (str a1.fP.fHref) :: .v (str a1.fP.fUuid) :: .sl 2 (a1.fP.fDn.map fun x => [.v (str x.fType), .v (str x.fValue)]) :: (a1.fP.fShadow.map fun x => .sl 1 (x.map fun x => [.v (str x)])))] H K := by
 refine ICalls_iwp (N := 70) func20 (by kernel_rfl) rfl (by kernel_rfl) (by kernel_rfl) fun cb hcb hw hbd hnb => ?_
 clear hbd hnb
 subst hcb
 unfold F20 at h
 have hka0 : ka0 < H.next := Nat.lt_of_not_le fun q => by rw [hw _ q] at oka0; cases oka0
 have hka0_0_0 : ka0_0_0 < H.next := Nat.lt_of_not_le fun q => by rw [hw _ q] at oka0_0_0; cases oka0_0_0
 have hka0_0_1 : ka0_0_1 < H.next := Nat.lt_of_not_le fun q => by rw [hw _ q] at oka0_0_1; cases oka0_0_1
 obtain ⟨g2, h⟩ := gd_some.1 h
 refine wG ?_
 refine wF g2 ?_
 refine IWp_seqF fun cb hc4 => ?_
 refine vG ?_
 obtain ⟨x5, hx5, h⟩ := bind_some' h
 refine F14_ok a0_0_0 a0_0_1 a0_1 ka0 ka0_0_0 ka0_0_1 (eF oka0) (eF oka0_0_0) (eF oka0_0_1) hx5 ?_
 refine sG ?_
 subst hc4
 refine IWp_seqF fun cb hc6 => ?_
 refine vG ?_
 obtain ⟨x7, hx7, h⟩ := bind_some' h
 refine F26_ok a0_0_0 a0_0_1 a0_1 ka0 ka0_0_0 ka0_0_1 (eF oka0) (eF oka0_0_0) (eF oka0_0_1) hx7 ?_
 obtain ⟨g8, h⟩ := gd_some.1 h
 refine sF g8 ?_
 subst hc6
 refine IWp_seqF fun cb hc9 => ?_
 refine IWp_seqF fun cb hc10 => ?_
 refine vF g2 ?_
 refine splitG_f h eA ?_ ?_
 ·intro c43 h
  simp (disch := omega) at c43
  refine sG ?_
  subst hc10
  refine IWp_cond_t eA rfl ?_
  refine wG ?_
  refine vO ?_
  obtain rfl := Option.some.inj h
  refine sG ?_
  exact retA (.refl hw) hK
 intro c43 h
 simp (disch := omega) at c43
 refine sF (nd g2 g8) ?_
 obtain ⟨x12, hx12, h⟩ := bind_some' h
 refine F25_ok x7.1 a1.fP hx12 ?_
 refine sG ?_
 subst hc10
 refine IWp_cond_i h eA rfl ?_ ?_
 ·intro c13 h
  simp (disch := omega) at c13
  refine wG ?_
  refine vO ?_
  obtain rfl := Option.some.inj h
  refine sG ?_
  exact retA (.refl hw) hK
 intro c13 h
 simp (disch := omega) at c13
 refine vO ?_
 subst hc9
 refine IWp_seqF fun cb hc15 => ?_
 refine IWp_seqF fun cb hc16 => ?_
 refine IWp_drawP [] [0, 1, 2, 3, 5, 6, 4, 7, 8] (by kernel_rfl) (by kernel_rfl) (fun _ _ _ _ h => h) ?_
 refine sG ?_
 obtain ⟨x17, hx17, h⟩ := bind_some' h
 refine F34_ok a0_0_0 a0_0_1 a0_1 ka0 ka0_0_0 ka0_0_1 (eF oka0) (eF oka0_0_0) (eF oka0_0_1) hx17 ?_
 refine sG ?_
 subst hc16
 refine IWp_cond_i h eA rfl ?_ ?_
 ·intro c18 h
  refine wG ?_
  refine vO ?_
  obtain rfl := Option.some.inj h
  refine sG ?_
  exact retA (.refl hw) hK
 intro c18 h
 simp (disch := omega) at c18
 refine vO ?_
 subst hc15
 refine wG ?_
 refine IWp_seqF fun cb hc21 => ?_
 refine wG ?_
 obtain ⟨gi23, h⟩ := gd_some.1 h
 obtain ⟨y23, hl23q, hk23⟩ := bind_some' h
 refine IWp_tailC (fun tm' H' => ∃ v27 : Bool, ∃ v28 : Int, .inl (v27, v28) = y23 ∧ Ext H H' ∧ H.next + 5 ≤ H'.next ∧ tm' 4 = .p (H.next + 1) 0 ∧ tm' 5 = .p (H.next + 2) 0 ∧ tm' 9 = .p (H.next + 4) 0 ∧ H'.obj ka0_0_0 = some (.map (mE (fun (x : S39) => .ag (.v (str x.fHref) :: .v (str x.fUuid) :: (x.fShadow.map fun x => .sl 1 (x.map fun x => [.v (str x)])))) a0_0_0)) ∧ H'.obj ka0_0_1 = some (.map (mE (fun (x : List UInt8) => .v (str x)) a0_0_1)) ∧ H'.obj ka0 = some (.cells ([.mp ka0_0_0, .mp ka0_0_1, optP (fun (x : S33) => .v (str x.fHref) :: .v (str x.fUuid) :: .sl 2 (x.fDn.map fun x => [.v (str x.fType), .v (str x.fValue)]) :: (x.fShadow.map fun x => .sl 1 (x.map fun x => [.v (str x)]))) a0_1])) ∧ H'.obj H.next = some (.cells (.sl 10 (a1.fL.map fun x => .v (str x.fHref) :: .v (str x.fUuid) :: (x.fShadow.map fun x => .sl 1 (x.map fun x => [.v (str x)]))) :: .v (str a1.fP.fHref) :: .v (str a1.fP.fUuid) :: .sl 2 (a1.fP.fDn.map fun x => [.v (str x.fType), .v (str x.fValue)]) :: (a1.fP.fShadow.map fun x => .sl 1 (x.map fun x => [.v (str x)])))) ∧ H'.obj (H.next + 1) = some (.cells ([.v (.bool v27)])) ∧ H'.obj (H.next + 2) = some (.cells ([.sl 10 (a1.fL.map fun x => .v (str x.fHref) :: .v (str x.fUuid) :: (x.fShadow.map fun x => .sl 1 (x.map fun x => [.v (str x)])))])) ∧ H'.obj (H.next + 3) = some (.cells (.v (str x7.1.fHref) :: .v (str x7.1.fUuid) :: .sl 2 (x7.1.fDn.map fun x => [.v (str x.fType), .v (str x.fValue)]) :: (x7.1.fShadow.map fun x => .sl 1 (x.map fun x => [.v (str x)])))) ∧ H'.obj (H.next + 4) = some (.cells ([.v (.int .i64 v28)]))) ?_ fun cb hc23 => ?_
 ·rintro tm23e H23e ⟨v27, v28, rfl, he23e, hl23e, t4_23e, t5_23e, t9_23e, ob0_23e, ob1_23e, ob2_23e, ob3_23e, ob4_23e, ob5_23e, ob6_23e, ob7_23e⟩
  have h : F20_k23 a1 v27 v28 = some r := hk23
  unfold F20_k23 at h
  simp -implicitDefEqProofs only [go_sem]
  subst hc21
  refine wF (nd t4_23e (nd t5_23e (nd t9_23e (nd ob4_23e (nd ob5_23e ob7_23e))))) ?_
  refine vO ?_
  obtain rfl := Option.some.inj h
  refine sF t4_23e ?_
  refine retG_pureE (extA he23e) rfl nbA hK
 refine IWp_block ?_
 refine IWp_rangeF (gf := 46) (cap := [.cp [.sl 10 (x5.map fun x => .v (str x.fHref) :: .v (str x.fUuid) :: (x.fShadow.map fun x => .sl 1 (x.map fun x => [.v (str x)])))]]) (C := []) (enc := fun (el26 : Int × S39) => [.v (.int .i64 el26.1), .ag (.v (str el26.2.fHref) :: .v (str el26.2.fUuid) :: (el26.2.fShadow.map fun x => .sl 1 (x.map fun x => [.v (str x)])))]) (fun (s : Bool × Int) _ H' => Ext H H' ∧ H.next + 5 ≤ H'.next ∧ H'.obj ka0_0_0 = some (.map (mE (fun (x : S39) => .ag (.v (str x.fHref) :: .v (str x.fUuid) :: (x.fShadow.map fun x => .sl 1 (x.map fun x => [.v (str x)])))) a0_0_0)) ∧ H'.obj ka0_0_1 = some (.map (mE (fun (x : List UInt8) => .v (str x)) a0_0_1)) ∧ H'.obj ka0 = some (.cells ([.mp ka0_0_0, .mp ka0_0_1, optP (fun (x : S33) => .v (str x.fHref) :: .v (str x.fUuid) :: .sl 2 (x.fDn.map fun x => [.v (str x.fType), .v (str x.fValue)]) :: (x.fShadow.map fun x => .sl 1 (x.map fun x => [.v (str x)]))) a0_1])) ∧ H'.obj H.next = some (.cells (.sl 10 (a1.fL.map fun x => .v (str x.fHref) :: .v (str x.fUuid) :: (x.fShadow.map fun x => .sl 1 (x.map fun x => [.v (str x)]))) :: .v (str a1.fP.fHref) :: .v (str a1.fP.fUuid) :: .sl 2 (a1.fP.fDn.map fun x => [.v (str x.fType), .v (str x.fValue)]) :: (a1.fP.fShadow.map fun x => .sl 1 (x.map fun x => [.v (str x)])))) ∧ H'.obj (H.next + 1) = some (.cells ([.v (.bool s.1)])) ∧ H'.obj (H.next + 2) = some (.cells ([.sl 10 (a1.fL.map fun x => .v (str x.fHref) :: .v (str x.fUuid) :: (x.fShadow.map fun x => .sl 1 (x.map fun x => [.v (str x)])))])) ∧ H'.obj (H.next + 3) = some (.cells (.v (str x7.1.fHref) :: .v (str x7.1.fUuid) :: .sl 2 (x7.1.fDn.map fun x => [.v (str x.fType), .v (str x.fValue)]) :: (x7.1.fShadow.map fun x => .sl 1 (x.map fun x => [.v (str x)])))) ∧ H'.obj (H.next + 4) = some (.cells ([.v (.int .i64 s.2)]))) hl23q (by kernel_rfl) (by rfl) (all46 (x5) gi23) ?_ (fun _ _ _ _ hh => hh) (by intro _ _ _ _ p hp; cases hp) (fun _ => rfl) ?_ ?_
 ·exact ⟨by exact extA (Ext.refl hw), by (simp -implicitDefEqProofs (disch := omega) [go_sem] <;> omega), by (simp -implicitDefEqProofs (disch := omega) [go_sem, oka0_0_0] <;> omega), by (simp -implicitDefEqProofs (disch := omega) [go_sem, oka0_0_1] <;> omega), by (simp -implicitDefEqProofs (disch := omega) [go_sem, oka0] <;> omega), by (simp -implicitDefEqProofs (disch := omega) [go_sem] <;> omega), by (simp -implicitDefEqProofs (disch := omega) [go_sem] <;> omega), by (simp -implicitDefEqProofs (disch := omega) [go_sem] <;> omega), by (simp -implicitDefEqProofs (disch := omega) [go_sem] <;> omega), by (simp -implicitDefEqProofs (disch := omega) [go_sem] <;> omega)⟩
 ·rintro I23 hI23 el26 ⟨v24, v25⟩ x23 H23 ⟨he23, hl23, ob0_23, ob1_23, ob2_23, ob3_23, ob4_23, ob5_23, ob6_23, ob7_23⟩ h hret23
  replace h : F20_b23 a1 el26 v24 v25 = some x23 := h
  unfold F20_b23 at h
  skip
  refine wG ?_
  obtain ⟨g31, h⟩ := gd_some.1 h
  refine vF g31 ?_
  refine IWp_block ?_
  refine IWp_seqF fun cb hc32 => ?_
  refine IWp_seqF fun cb hc33 => ?_
  refine IWp_drawP [15] [0, 1, 2, 3, 4, 5, 6, 7, 8, 9, 10, 11, 12, 13, 14, 15, 16, 17] (by kernel_rfl) (by kernel_rfl) (fun _ _ _ _ h => h) ?_
  refine sF ob7_23 ?_
  refine splitG_f h eA ?_ ?_
  ·intro c42 h
   refine sG ?_
   subst hc33
   refine IWp_cond_t eA rfl ?_
   refine wF ob4_23 ?_
   refine vO ?_
   obtain rfl := Option.some.inj h
   obtain rfl := hret23 _ rfl
   replace h : some false = some r := hk23
   obtain rfl := Option.some.inj h
   refine sG ?_
   refine retG_pureE (extA he23) rfl nbA hK
  intro c42 h
  simp (disch := omega) at c42
  refine sF (nd ob5_23 ob7_23) ?_
  refine splitG_f h rfl ?_ ?_
  ·intro c41 h
   refine sG ?_
   subst hc33
   refine IWp_cond_t eA rfl ?_
   refine wF ob4_23 ?_
   refine vO ?_
   obtain rfl := Option.some.inj h
   obtain rfl := hret23 _ rfl
   replace h : some false = some r := hk23
   obtain rfl := Option.some.inj h
   refine sG ?_
   refine retG_pureE (extA he23) rfl nbA hK
  intro c41 h
  simp (disch := omega) at c41
  obtain ⟨g36, h⟩ := gd_some.1 h
  obtain ⟨g37, h⟩ := gS h
  refine sF (nd ob5_23 (nd ob7_23 (nd g31 g37))) ?_
  obtain ⟨x38, hx38, h⟩ := bind_some' h
  refine PureC.mk _ (fun _ _ hK => ICalls.eqA eA (F19_ok el26.2 (a1.fL.getD v25.toNat S39.zero) hx38 hK)) ?_
  refine sG ?_
  subst hc33
  refine IWp_cond_i h eA rfl ?_ ?_
  ·intro c39 h
   simp (disch := omega) at c39
   refine wF ob4_23 ?_
   refine vO ?_
   obtain rfl := Option.some.inj h
   obtain rfl := hret23 _ rfl
   replace h : some false = some r := hk23
   obtain rfl := Option.some.inj h
   refine sG ?_
   refine retG_pureE (extA he23) rfl nbA hK
  intro c39 h
  simp (disch := omega) at c39
  refine vO ?_
  subst hc32
  refine vF ob7_23 ?_
  obtain rfl := Option.some.inj h
  refine loopN_mk hI23 ((v24, IntKind.i64.wrap (v25 + 1))) ?_
  refine .same ⟨by exact extA he23, by (simp -implicitDefEqProofs (disch := omega) [go_sem] <;> omega), ?_, ?_, ?_, ?_, ?_, ?_, ?_, ?_⟩ <;> (simp -implicitDefEqProofs (disch := omega) [go_sem, ob0_23, ob1_23, ob2_23, ob3_23, ob4_23, ob5_23, ob6_23] <;> omega)
 rintro ⟨v24, v25⟩ H23 ⟨he23, hl23, ob0_23, ob1_23, ob2_23, ob3_23, ob4_23, ob5_23, ob6_23, ob7_23⟩ hy23
 simp -implicitDefEqProofs only [go_sem]
 refine hc23 _ _ ?_
 refine .same ⟨v24, v25, hy23, by exact extA he23, by (simp -implicitDefEqProofs (disch := omega) [go_sem] <;> omega), ?_, ?_, ?_, ?_, ?_, ?_, ?_, ?_, ?_, ?_, ?_⟩ <;> (simp -implicitDefEqProofs (disch := omega) [go_sem, ob0_23, ob1_23, ob2_23, ob3_23, ob4_23, ob5_23, ob6_23, ob7_23] <;> omega)

end Go.Idl

namespace Go.Idl

open Go

theorem wrap_nat {i : Nat} (h : i < 9223372036854775807) : IntKind.i64.wrap ((i : Int) + 1) = ((i + 1 : Nat) : Int) := by
  rw [wrap_i64 (by omega) (by omega)]; rfl

theorem loopO_for {ρ : Type} {step : Int → Option (Int ⊕ ρ)} {Post : ρ → Prop} (n : Nat) (Inv : Nat → Prop) (h0 : Inv 0)
    (hs : ∀ i : Nat, i < n → Inv i → (step i = some (.inl ((i + 1 : Nat) : Int)) ∧ Inv (i + 1)) ∨ ∃ r, step i = some (.inr r) ∧ Post r)
    (hf : Inv n → ∃ r, step n = some (.inr r) ∧ Post r) : ∃ r, loopO step 0 = some r ∧ Post r := by
  refine loopO_inv (fun s : Int => ∃ i : Nat, i ≤ n ∧ s = (i : Int) ∧ Inv i) (fun s : Int => n - s.toNat) ?_ ⟨0, Nat.zero_le _, rfl, h0⟩
  rintro s ⟨i, hi, rfl, hI⟩
  by_cases h : i < n
  · rcases hs i h hI with ⟨h1, h2⟩ | h1
    · exact .inl ⟨_, h1, ⟨i + 1, h, rfl, h2⟩, by simp; omega⟩
    · exact .inr h1
  · have e : i = n := by omega
    subst e
    exact .inr (hf hI)

theorem loopO_for2 {σ ρ : Type} {step : σ × Int → Option ((σ × Int) ⊕ ρ)} {Post : ρ → Prop} (n : Nat) (Inv : Nat → σ → Prop) {a : σ} (h0 : Inv 0 a)
    (hs : ∀ (i : Nat) (a : σ), i < n → Inv i a → (∃ a', step (a, (i : Int)) = some (.inl (a', ((i + 1 : Nat) : Int))) ∧ Inv (i + 1) a') ∨ ∃ r, step (a, (i : Int)) = some (.inr r) ∧ Post r)
    (hf : ∀ a, Inv n a → ∃ r, step (a, (n : Int)) = some (.inr r) ∧ Post r) : ∃ r, loopO step (a, 0) = some r ∧ Post r := by
  refine loopO_inv (fun s : σ × Int => ∃ i : Nat, i ≤ n ∧ s.2 = (i : Int) ∧ Inv i s.1) (fun s : σ × Int => n - s.2.toNat) ?_ ⟨0, Nat.zero_le _, rfl, h0⟩
  rintro ⟨a, s⟩ ⟨i, hi, hs2, hI⟩
  simp only at hs2 hI
  subst hs2
  by_cases h : i < n
  · rcases hs i a h hI with ⟨a', h1, h2⟩ | h1
    · exact .inl ⟨_, h1, ⟨i + 1, h, rfl, h2⟩, by simp; omega⟩
    · exact .inr h1
  · have e : i = n := by omega
    subst e
    exact .inr (hf a hI)

theorem loopO_for3 {σ ρ : Type} {step : Int × σ → Option ((Int × σ) ⊕ ρ)} {Post : ρ → Prop} (n : Nat) (Inv : Nat → σ → Prop) {a : σ} (h0 : Inv 0 a)
    (hs : ∀ (i : Nat) (a : σ), i < n → Inv i a → (∃ a', step ((i : Int), a) = some (.inl (((i + 1 : Nat) : Int), a')) ∧ Inv (i + 1) a') ∨ ∃ r, step ((i : Int), a) = some (.inr r) ∧ Post r)
    (hf : ∀ a, Inv n a → ∃ r, step ((n : Int), a) = some (.inr r) ∧ Post r) : ∃ r, loopO step (0, a) = some r ∧ Post r := by
  refine loopO_inv (fun s : Int × σ => ∃ i : Nat, i ≤ n ∧ s.1 = (i : Int) ∧ Inv i s.2) (fun s : Int × σ => n - s.1.toNat) ?_ ⟨0, Nat.zero_le _, rfl, h0⟩
  rintro ⟨s, a⟩ ⟨i, hi, hs2, hI⟩
  simp only at hs2 hI
  subst hs2
  by_cases h : i < n
  · rcases hs i a h hI with ⟨a', h1, h2⟩ | h1
    · exact .inl ⟨_, h1, ⟨i + 1, h, rfl, h2⟩, by simp; omega⟩
    · exact .inr h1
  · have e : i = n := by omega
    subst e
    exact .inr (hf a hI)

theorem getD_some {α : Type} {l : List α} {i : Nat} (h : i < l.length) (d : α) : l.getD i d = l[i] := by simp [h]

end Go.Idl

namespace Go.Idl

open Go

def findI {α ρ : Type} (f : Nat → α → Option ρ) (d : ρ) : Nat → List α → ρ
  | _, [] => d
  | i, x :: l => match f i x with
    | none => findI f d (i + 1) l
    | some r => r

def runI {α σ ρ : Type} (f : Nat → σ → α → σ ⊕ ρ) (fin : σ → ρ) : Nat → σ → List α → ρ
  | _, a, [] => fin a
  | i, a, x :: l => match f i a x with
    | .inl a' => runI f fin (i + 1) a' l
    | .inr r => r

theorem findI_cons {α ρ : Type} {f : Nat → α → Option ρ} {d : ρ} {i : Nat} {x : α} {l : List α} : findI f d i (x :: l) = match f i x with
    | none => findI f d (i + 1) l
    | some r => r := rfl

theorem runI_cons {α σ ρ : Type} {f : Nat → σ → α → σ ⊕ ρ} {fin : σ → ρ} {i : Nat} {a : σ} {x : α} {l : List α} : runI f fin i a (x :: l) = match f i a x with
    | .inl a' => runI f fin (i + 1) a' l
    | .inr r => r := rfl

theorem loopO_find {α ρ : Type} (l : List α) {step : Int → Option (Int ⊕ ρ)} (f : Nat → α → Option ρ) (d : ρ) (hl : l.length ≤ 1000000000)
    (hs : ∀ (i : Nat) (h : i < l.length), step (i : Int) = some (match f i l[i] with | none => .inl (IntKind.i64.wrap ((i : Int) + 1)) | some r => .inr r))
    (hf : step (l.length : Int) = some (.inr d)) : loopO step 0 = some (findI f d 0 l) := by
  obtain ⟨r, h1, h2⟩ := loopO_for (step := step) (Post := fun r => r = findI f d 0 l) l.length (fun i => findI f d i (l.drop i) = findI f d 0 l) (by simp)
    (fun i hi hI => by
      rw [hs i hi]
      rw [List.drop_eq_getElem_cons hi] at hI
      rw [findI_cons] at hI
      cases hfi : f i l[i] with
      | none =>
        rw [hfi] at hI
        rw [wrap_nat (by omega)]
        exact .inl ⟨rfl, hI⟩
      | some r =>
        rw [hfi] at hI
        exact .inr ⟨r, rfl, hI⟩)
    (fun hI => ⟨d, hf, by rw [List.drop_length] at hI; exact hI⟩)
  rw [h1, h2]

theorem loopO_run {α σ ρ : Type} (l : List α) {step : σ × Int → Option ((σ × Int) ⊕ ρ)} (f : Nat → σ → α → σ ⊕ ρ) (fin : σ → ρ) (Inv : Nat → σ → Prop) {a : σ} (hl : l.length ≤ 1000000000) (h0 : Inv 0 a)
    (hs : ∀ (i : Nat) (h : i < l.length) (a : σ), Inv i a → step (a, (i : Int)) = some (match f i a l[i] with | .inl a' => .inl (a', IntKind.i64.wrap ((i : Int) + 1)) | .inr r => .inr r))
    (hn : ∀ (i : Nat) (h : i < l.length) (a a' : σ), Inv i a → f i a l[i] = .inl a' → Inv (i + 1) a')
    (hf : ∀ a, Inv l.length a → step (a, (l.length : Int)) = some (.inr (fin a))) : loopO step (a, 0) = some (runI f fin 0 a l) := by
  obtain ⟨r, h1, h2⟩ := loopO_for2 (step := step) (Post := fun r => r = runI f fin 0 a l) l.length (fun i a' => Inv i a' ∧ runI f fin i a' (l.drop i) = runI f fin 0 a l) (a := a) ⟨h0, by simp⟩
    (fun i a' hi hI => by
      obtain ⟨hI, hR⟩ := hI
      rw [hs i hi a' hI]
      rw [List.drop_eq_getElem_cons hi] at hR
      rw [runI_cons] at hR
      cases hfi : f i a' l[i] with
      | inl a2 =>
        rw [hfi] at hR
        rw [wrap_nat (by omega)]
        exact .inl ⟨a2, rfl, hn i hi a' a2 hI hfi, hR⟩
      | inr r =>
        rw [hfi] at hR
        exact .inr ⟨r, rfl, hR⟩)
    (fun a' hI => ⟨_, hf a' hI.1, by have := hI.2; rw [List.drop_length] at this; exact this⟩)
  rw [h1, h2]

theorem findI_all {α ρ : Type} (p : α → Bool) (bad good : ρ) : ∀ (l : List α) (i : Nat), findI (fun _ x => if p x = true then none else some bad) good i l = if l.all p = true then good else bad
  | [], _ => by simp [findI]
  | x :: l, i => by
    unfold findI
    by_cases h : p x = true
    · rw [if_pos h]
      simp only [findI_all p bad good l (i + 1), List.all_cons, h, Bool.true_and]
    · rw [if_neg h]
      have : (List.all (x :: l) p) = false := by simp [List.all_cons, Bool.eq_false_iff.2 h]
      simp [this]

end Go.Idl

namespace Go.Idl

open Go

theorem F76_eq (f : Int) : F76 f = some (mostS f) := by
  unfold F76 mostS
  split <;> rfl

def valuesR (f : Int) (l : List Str) : Bool := fieldOk f l && (!decide (f = 0) || decide (l.length = 1))

theorem F47_eq (f : Int) (l : List Str) (hl : l.length ≤ 1000000 ∧ ∀ s, s ∈ l → s.length ≤ 1000000) : F47 f l = some (valuesR f l) := by
  unfold F47
  rw [F76_eq]
  simp only [Option.bind_some]
  by_cases h1 : mostS f < (l.length : Int)
  · rw [if_pos h1]
    have : ¬ ((l.length : Int) ≤ mostS f) := by omega
    simp [valuesR, fieldOk, this]
  · rw [if_neg h1]
    have main : ((!decide (f = 0) || decide (l.length = 1)) = true) → F47_k2 f l = some (valuesR f l) := by
      intro hz
      unfold F47_k2
      obtain ⟨r, q1, q2⟩ := loopO_for (step := fun (s : Int) => F47_b5 f l s) (Post := fun y => (y = .inl () ∧ l.all (valueS f) = true ∧ risesS l = true) ∨ (y = .inr false ∧ (l.all (valueS f) && risesS l) = false)) l.length (fun i => (l.take i).all (valueS f) = true ∧ risesS (l.take i) = true) (by simp [risesS])
        (fun i hi hI => by
          have hw := wrap_nat (i := i) (by omega)
          have hli := hl.2 l[i] (List.getElem_mem _)
          -- the bytes of a value
          have inner : 1 ≤ l[i].length → l[i].length ≤ 200 → F47_k12 f l i = if valueS f l[i] = true then some (.inl ((i + 1 : Nat) : Int)) else some (.inr (.inr false)) := by
            intro hlo hhi
            unfold F47_k12
            obtain ⟨r, p1, p2⟩ := loopO_for (step := fun (s : Int) => F47_b14 f l i s) (Post := fun y => (y = .inl () ∧ l[i].all (byteOk f) = true) ∨ (y = .inr false ∧ l[i].all (byteOk f) = false)) l[i].length (fun j => (l[i].take j).all (byteOk f) = true) (by simp)
              (fun j hj hJ => by
                have hwj := wrap_nat (i := j) (by omega)
                simp only [F47_b14]
                rw [gd_pos (by omega), Int.toNat_natCast, getD_some hi, if_pos (by omega), gd_pos (by omega), Int.toNat_natCast, getD_some hj, hwj]
                have bad : byteOk f l[i][j] = false → l[i].all (byteOk f) = false := fun h => by
                  rw [List.all_eq_false]
                  exact ⟨l[i][j], List.getElem_mem _, by simp [h]⟩
                have good : byteOk f l[i][j] = true → (l[i].take (j + 1)).all (byteOk f) = true := fun h => by
                  rw [List.take_succ_eq_append_getElem hj, List.all_append, hJ]
                  simp [h]
                by_cases b1 : ((l[i][j].toNat : Int)) < 32
                · rw [if_pos b1]
                  by_cases b2 : ((l[i][j].toNat : Int)) = 10
                  · rw [if_neg (by simpa using b2)]
                    by_cases b3 : f = 5
                    · rw [if_neg (by simpa using b3)]
                      exact .inl ⟨rfl, good (by simp [byteOk, b3]; omega)⟩
                    · rw [if_pos b3]
                      exact .inr ⟨_, rfl, .inr ⟨rfl, bad (by simp [byteOk, b3]; omega)⟩⟩
                  · rw [if_pos b2]
                    exact .inr ⟨_, rfl, .inr ⟨rfl, bad (by simp [byteOk]; omega)⟩⟩
                · rw [if_neg b1]
                  exact .inl ⟨rfl, good (by simp [byteOk]; omega)⟩)
              (fun hJ => by
                simp only [F47_b14]
                rw [gd_pos (by omega), Int.toNat_natCast, getD_some hi, if_neg (by omega)]
                rw [List.take_length] at hJ
                exact ⟨_, rfl, .inl ⟨rfl, hJ⟩⟩)
            rw [p1]
            rcases p2 with ⟨rfl, h⟩ | ⟨rfl, h⟩
            · simp [F47_k14, valueS, h, hlo, hhi, hw]
            · simp [valueS, h]
          have badv : valueS f l[i] = false → (l.all (valueS f) && risesS l) = false := fun h => by
            have : l.all (valueS f) = false := by
              rw [List.all_eq_false]
              exact ⟨l[i], List.getElem_mem _, by simp [h]⟩
            rw [this, Bool.false_and]
          have step2 : (i = 0 ∨ risesS (l.take (i + 1)) = true) → 1 ≤ l[i].length → l[i].length ≤ 200 → (F47_k12 f l i = some (.inl ((i + 1 : Nat) : Int)) ∧ ((l.take (i + 1)).all (valueS f) = true ∧ risesS (l.take (i + 1)) = true)) ∨ ∃ r, F47_k12 f l i = some (.inr r) ∧ ((r = .inl () ∧ l.all (valueS f) = true ∧ risesS l = true) ∨ (r = .inr false ∧ (l.all (valueS f) && risesS l) = false)) := by
            intro hr hlo hhi
            rw [inner hlo hhi]
            cases hv : valueS f l[i] with
            | true =>
              refine .inl ⟨rfl, ?_, ?_⟩
              · rw [List.take_succ_eq_append_getElem hi, List.all_append, hI.1]
                simp [hv]
              · rcases hr with rfl | hr
                · cases l with
                  | nil => simp at hi
                  | cons x t => simp [risesS]
                · exact hr
            | false => exact .inr ⟨_, rfl, .inr ⟨rfl, badv hv⟩⟩
          simp only [F47_b5]
          rw [if_pos (by omega), gd_pos (by omega), Int.toNat_natCast, getD_some hi]
          by_cases c1 : (l[i].length : Int) < 1
          · rw [if_pos c1]
            exact .inr ⟨_, rfl, .inr ⟨rfl, badv (by simp [valueS]; omega)⟩⟩
          · rw [if_neg c1]
            by_cases c2 : 200 < (l[i].length : Int)
            · rw [if_pos c2]
              exact .inr ⟨_, rfl, .inr ⟨rfl, badv (by simp [valueS]; omega)⟩⟩
            · rw [if_neg c2]
              by_cases c3 : 0 < (i : Int)
              · have e1 : IntKind.i64.wrap ((i : Int) - 1) = ((i - 1 : Nat) : Int) := by rw [wrap_i64 (by omega) (by omega)]; omega
                have hi1 : i - 1 < l.length := by omega
                have hrt := rises_take l i (by omega) hi
                rw [if_pos c3, e1, gd_pos (by omega), Int.toNat_natCast, getD_some hi1]
                by_cases c4 : Op.bytesLess l[i - 1] l[i] = true
                · rw [if_neg (by simpa using c4)]
                  exact step2 (.inr (by rw [hrt, hI.2, c4]; rfl)) (by omega) (by omega)
                · rw [if_pos c4]
                  refine .inr ⟨_, rfl, .inr ⟨rfl, ?_⟩⟩
                  have : risesS l = false := by
                    cases hh : risesS l with
                    | false => rfl
                    | true =>
                      have := rises_pref l (i + 1) hh
                      rw [hrt] at this
                      simp [c4] at this
                  rw [this, Bool.and_false]
              · rw [if_neg c3]
                exact step2 (.inl (by omega)) (by omega) (by omega))
        (fun hI => by
          simp only [F47_b5]
          rw [if_neg (by omega)]
          rw [List.take_length] at hI
          exact ⟨_, rfl, .inl ⟨rfl, hI⟩⟩)
      rw [q1]
      have hm : (l.length : Int) ≤ mostS f := by omega
      rcases q2 with ⟨rfl, h2, h3⟩ | ⟨rfl, h2⟩
      · have e : (l.any fun s => !valueS f s) = false := by
          rw [List.any_eq_false]
          intro s hs'
          simp [List.all_eq_true.1 h2 s hs']
        simp [F47_k5, valuesR, fieldOk, e, h3, hm, hz]
      · have e : (!(l.any fun s => !valueS f s) && risesS l) = false := by
          rw [← h2]
          congr 1
          rw [Bool.eq_iff_iff]
          simp
        simp only [Option.bind_some, Sum.elim_inr, valuesR, fieldOk, Bool.and_assoc] at e ⊢
        rw [← Bool.and_assoc (!_), e]
        simp
    by_cases h2 : f = 0
    · rw [if_pos h2]
      by_cases h3 : (l.length : Int) = 1
      · rw [if_neg (by simpa using h3)]
        exact main (by simp; omega)
      · rw [if_pos h3]
        have : ¬ l.length = 1 := by omega
        simp [valuesR, h2, this]
    · rw [if_neg h2]
      exact main (by simp [h2])

theorem check_iff (c : List (List Str)) (hc : c.length = 8) : checkS c = true ↔ ∀ (i : Nat) (h : i < c.length), valuesR i c[i] = true := by
  unfold checkS
  simp only [Bool.and_eq_true, List.all_eq_true, decide_eq_true_eq]
  constructor
  · rintro ⟨h1, h2⟩ i hi
    have := h1 (c[i], i) (by rw [List.mem_zipIdx_iff_getElem?]; simp [hi])
    simp only [valuesR, this, Bool.true_and, Bool.or_eq_true, Bool.not_eq_true', decide_eq_false_iff_not, decide_eq_true_eq]
    by_cases e : i = 0
    · subst e
      rw [getD_some hi] at h2
      exact .inr h2
    · exact .inl (by omega)
  · intro h
    refine ⟨fun p hp => ?_, ?_⟩
    · obtain ⟨l, i⟩ := p
      rw [List.mem_zipIdx_iff_getElem?] at hp
      obtain ⟨hi, he⟩ := List.getElem?_eq_some_iff.1 hp
      have := h i hi
      simp only [valuesR, Bool.and_eq_true] at this
      simp only at he
      rw [← he]; exact this.1
    · have h0 : 0 < c.length := by omega
      have := h 0 h0
      simp only [valuesR, Bool.and_eq_true] at this
      rw [getD_some h0]
      simpa using this.2

theorem F17_eq (c : List (List Str)) (hs : bigC c) : F17 c = some (checkS c) := by
  obtain ⟨hc, hs⟩ := hs
  unfold F17
  rw [gd_pos hc]
  obtain ⟨r, h1, h2⟩ := loopO_for (step := fun (s : Int) => F17_b5 c s) (Post := fun y => (y = .inl () ∧ checkS c = true) ∨ (y = .inr false ∧ checkS c = false)) 8 (fun i => ∀ (j : Nat) (h : j < c.length), j < i → valuesR j c[j] = true) (by intro j _ h; omega)
    (fun i hi hI => by
      have hw := wrap_nat (i := i) (by omega)
      have hi' : i < c.length := by omega
      simp only [F17_b5]
      rw [if_pos (by omega), gd_pos (by omega), Int.toNat_natCast, getD_some hi', F47_eq _ _ (hs _ (List.getElem_mem _))]
      simp only [Option.bind_some]
      by_cases h : valuesR i c[i] = true
      · rw [if_neg (by simpa using h), hw]
        refine .inl ⟨rfl, fun j hj hji => ?_⟩
        by_cases e : j = i
        · subst e; exact h
        · exact hI j hj (by omega)
      · rw [if_pos h]
        refine .inr ⟨_, rfl, .inr ⟨rfl, ?_⟩⟩
        rw [Bool.eq_false_iff]
        intro h'
        exact h ((check_iff c hc).1 h' i hi'))
    (fun hI => by
      simp only [F17_b5]
      rw [if_neg (by omega)]
      exact ⟨_, rfl, .inl ⟨rfl, (check_iff c hc).2 fun i hi => hI i hi (by omega)⟩⟩)
  rw [h1]
  rcases h2 with ⟨rfl, h⟩ | ⟨rfl, h⟩
  · simp [F17_k5, h]
  · simp [h]

end Go.Idl

namespace Go.Idl

open Go

theorem loopO_all {α : Type} (l : List α) (p : α → Bool) {step : Int → Option (Int ⊕ (Unit ⊕ Bool))} (hl : l.length ≤ 1000000000)
    (hs : ∀ (i : Nat) (h : i < l.length), step (i : Int) = some (if p l[i] = true then .inl (IntKind.i64.wrap ((i : Int) + 1)) else .inr (.inr false)))
    (hf : step (l.length : Int) = some (.inr (.inl ()))) : loopO step 0 = some (if l.all p = true then .inl () else .inr false) := by
  rw [loopO_find l (fun _ x => if p x = true then none else some (.inr false)) (.inl ()) hl (fun i h => by
    rw [hs i h]
    by_cases hp : p l[i] = true
    · simp [hp]
    · simp [hp]) hf, findI_all]

theorem findI_congr {α ρ : Type} {f g : Nat → α → Option ρ} {d : ρ} : ∀ {l : List α} {k : Nat}, (∀ i x, k ≤ i → f i x = g i x) → findI f d k l = findI g d k l
  | [], _, _ => rfl
  | x :: l, k, h => by
    rw [findI_cons, findI_cons, h k x (Nat.le_refl _)]
    cases g k x with
    | none => exact findI_congr fun i x hi => h i x (by omega)
    | some r => rfl

theorem findI_idx {α : Type} (p : α → Bool) : ∀ (l : List α) (k : Nat), ∃ j : Int, 0 ≤ j ∧ findI (fun i x => if p x = true then none else some (.inr (i : Int))) (.inl ()) k l = (if l.all p = true then (.inl () : Unit ⊕ Int) else .inr j)
  | [], k => ⟨0, by omega, by simp [findI]⟩
  | x :: l, k => by
    rw [findI_cons]
    by_cases h : p x = true
    · obtain ⟨j, h1, h2⟩ := findI_idx p l (k + 1)
      exact ⟨j, h1, by simp only [h, if_true]; rw [h2]; simp [h]⟩
    · exact ⟨k, by omega, by simp [h]⟩

/-! ### Uuids -/

def uuidB (x : UInt8) : Bool := decide (33 ≤ x.toNat ∧ x.toNat ≤ 126)

def uuidS (u : Str) : Bool := u.all uuidB && decide (1 ≤ u.length ∧ u.length ≤ 64)

theorem F53_eq (u : Str) (h : u.length ≤ 1000000) : F53 u = some (uuidS u) := by
  unfold F53
  rw [gd_pos (by omega), loopO_all u uuidB (by omega)
    (fun i hi => by
      simp only [F53_b5]
      rw [if_pos (by omega), gd_pos (by omega), Int.toNat_natCast, getD_some hi]
      simp only [uuidB, decide_eq_true_eq]
      by_cases a : u[i].toNat < 33
      · rw [if_pos (by omega), if_neg (by omega)]
      · rw [if_neg (by omega)]
        by_cases b : 126 < u[i].toNat
        · rw [if_pos (by omega), if_neg (by omega)]
        · rw [if_neg (by omega), if_pos (by omega)])
    (by simp only [F53_b5]; rw [if_neg (by omega)])]
  unfold uuidS
  by_cases h1 : u.all uuidB = true
  · simp only [h1, if_true, Option.bind_some, Sum.elim_inl, F53_k5, Bool.true_and]
    by_cases h2 : (1 : Int) ≤ u.length
    · rw [if_pos h2]; congr 1; rw [decide_eq_decide]; omega
    · rw [if_neg h2, decide_eq_false (by omega)]
  · rw [if_neg h1, Bool.eq_false_iff.2 h1]; simp

theorem F72_eq (u : Str) (h : u.length ≤ 1000000) : F72 u = some (uuidS u) := by
  unfold F72
  rw [loopO_all u uuidB (by omega)
    (fun i hi => by
      simp only [F72_b4]
      rw [if_pos (by omega), gd_pos (by omega), Int.toNat_natCast, getD_some hi]
      simp only [uuidB, decide_eq_true_eq]
      by_cases a : u[i].toNat < 33
      · rw [if_pos (by omega), if_neg (by omega)]
      · rw [if_neg (by omega)]
        by_cases b : 126 < u[i].toNat
        · rw [if_pos (by omega), if_neg (by omega)]
        · rw [if_neg (by omega), if_pos (by omega)])
    (by simp only [F72_b4]; rw [if_neg (by omega)])]
  unfold uuidS
  by_cases h1 : u.all uuidB = true
  · simp only [h1, if_true, Option.bind_some, Sum.elim_inl, F72_k4, Bool.true_and]
    by_cases h2 : (1 : Int) ≤ u.length
    · rw [if_pos h2]; congr 1; rw [decide_eq_decide]; omega
    · rw [if_neg h2, decide_eq_false (by omega)]
  · rw [if_neg h1, Bool.eq_false_iff.2 h1]; simp

/-! ### Hrefs -/

def plainB (x : UInt8) : Bool := decide ((97 ≤ x.toNat ∧ x.toNat ≤ 122) ∨ (65 ≤ x.toNat ∧ x.toNat ≤ 90) ∨ (48 ≤ x.toNat ∧ x.toNat ≤ 57) ∨ x.toNat = 45 ∨ x.toNat = 46 ∨ x.toNat = 95)

set_option maxHeartbeats 4000000 in
theorem F122_eq (x : UInt8) : F122 (x.toNat : Int) = some (plainB x) := by
  unfold F122 plainB
  by_cases h : (97 ≤ x.toNat ∧ x.toNat ≤ 122) ∨ (65 ≤ x.toNat ∧ x.toNat ≤ 90) ∨ (48 ≤ x.toNat ∧ x.toNat ≤ 57) ∨ x.toNat = 45 ∨ x.toNat = 46 ∨ x.toNat = 95
  · rw [decide_eq_true h]
    repeat' split
    all_goals first | rfl | (exfalso; omega) | (congr 1; rw [decide_eq_true_eq]; omega)
  · rw [decide_eq_false h]
    repeat' split
    all_goals first | rfl | (exfalso; omega) | (congr 1; rw [decide_eq_false_iff_not]; omega)

def markS (s : Str) : Bool := s.all plainB && decide (1 ≤ s.length ∧ s.length ≤ 64)

theorem F83_eq (s : Str) (h : s.length ≤ 1000000) : F83 s = some (markS s) := by
  have e : F123 s = some (s.all plainB) := by
    unfold F123
    rw [gd_pos (by omega), loopO_all s plainB (by omega)
      (fun i hi => by
        simp only [F123_b5]
        rw [if_pos (by omega), gd_pos (by omega), Int.toNat_natCast, getD_some hi, F122_eq]
        simp only [Option.bind_some]
        cases plainB s[i] <;> simp)
      (by simp only [F123_b5]; rw [if_neg (by omega)])]
    by_cases h1 : s.all plainB = true
    · simp [h1, F123_k5]
    · rw [if_neg h1, Bool.eq_false_iff.2 h1]; simp
  unfold F83 markS
  rw [e]
  by_cases h2 : (1 : Int) ≤ s.length
  · rw [if_pos h2]
    by_cases h3 : (s.length : Int) ≤ 64
    · rw [if_pos h3, decide_eq_true (by omega)]; simp
    · rw [if_neg h3, decide_eq_false (by omega)]; simp
  · rw [if_neg h2, decide_eq_false (by omega)]; simp

def rootL : Str := [47, 98, 111, 111, 107, 47]

def hrefS (s : Str) : Bool := decide (s.take 6 = rootL) && markS (s.drop 6)

theorem F55_eq (s : Str) (h : s.length ≤ 1000000) : F55 s = some (hrefS s) := by
  have e : F64 s [47, 98, 111, 111, 107, 47] = some (if s.take 6 = rootL then (s.drop 6, true) else (s, false)) := by
    unfold F64 F100 F138
    by_cases h1 : ((([47, 98, 111, 111, 107, 47] : Str).length : Int)) ≤ s.length
    · have h6 : (6 : Int) ≤ s.length := by simpa using h1
      rw [if_pos h1, gd_pos (by simp), gd_pos h1]
      simp only [Option.bind_some, List.length_cons, List.length_nil]
      by_cases h2 : s.take 6 = rootL
      · have h3 : List.take (((0 + 1 + 1 + 1 + 1 + 1 + 1 : Nat) : Int)).toNat s = [47, 98, 111, 111, 107, 47] := h2
        rw [decide_eq_true h3, if_neg (by simp), gd_pos (by omega), gd_pos (by simpa using h6), if_pos h2]
        rfl
      · have h3 : ¬ List.take (((0 + 1 + 1 + 1 + 1 + 1 + 1 : Nat) : Int)).toNat s = [47, 98, 111, 111, 107, 47] := h2
        rw [decide_eq_false h3, if_pos (by simp), if_neg h2]
        rfl
    · rw [if_neg h1]
      have h2 : ¬ s.take 6 = rootL := by
        intro e
        have := congrArg List.length e
        simp [rootL] at this
        simp at h1
        omega
      rw [if_neg h2]
      simp
  unfold F55
  rw [e]
  unfold hrefS
  by_cases h2 : s.take 6 = rootL
  · rw [if_pos h2, decide_eq_true h2]
    simp only [Option.bind_some, if_true]
    rw [F83_eq _ (by rw [List.length_drop]; omega)]
    simp
  · rw [if_neg h2, decide_eq_false h2]
    simp

set_option maxHeartbeats 4000000 in
theorem F71_eq (s : Str) (h : s.length ≤ 1000000) : F71 s = some (hrefS s) := by
  have e : ∀ s : Str, s.length ≤ 1000000 → F113 s = some (markS s) := fun s h => by
    unfold F113
    rw [loopO_all s plainB (by omega)
      (fun i hi => by
        simp only [F113_b4]
        rw [if_pos (by omega), gd_pos (by omega), Int.toNat_natCast, getD_some hi]
        generalize hx : s[i] = x
        unfold plainB
        by_cases h : (97 ≤ x.toNat ∧ x.toNat ≤ 122) ∨ (65 ≤ x.toNat ∧ x.toNat ≤ 90) ∨ (48 ≤ x.toNat ∧ x.toNat ≤ 57) ∨ x.toNat = 45 ∨ x.toNat = 46 ∨ x.toNat = 95
        · rw [decide_eq_true h, if_pos rfl]
          repeat' split
          all_goals first | rfl | (exfalso; omega)
        · rw [decide_eq_false h]
          simp only [Bool.false_eq_true, if_false]
          repeat' split
          all_goals first | rfl | (exfalso; omega))
      (by simp only [F113_b4]; rw [if_neg (by omega)])]
    unfold markS
    by_cases h1 : s.all plainB = true
    · simp only [h1, if_true, Option.bind_some, Sum.elim_inl, F113_k4, Bool.true_and]
      by_cases h2 : (1 : Int) ≤ s.length
      · rw [if_pos h2]; congr 1; rw [decide_eq_decide]; omega
      · rw [if_neg h2, decide_eq_false (by omega)]
    · rw [if_neg h1, Bool.eq_false_iff.2 h1]; simp
  unfold F71 hrefS
  by_cases h1 : (6 : Int) < s.length
  · rw [if_pos h1, gd_pos (by omega), gd_pos (by omega)]
    by_cases h2 : s.take 6 = rootL
    · have h3 : s.take 6 = [47, 98, 111, 111, 107, 47] := h2
      rw [if_pos h3, decide_eq_true h2, e _ (by rw [List.length_drop]; omega)]
      simp
    · have h3 : ¬ s.take 6 = [47, 98, 111, 111, 107, 47] := h2
      rw [if_neg h3, decide_eq_false h2]
      simp
  · rw [if_neg h1]
    have : markS (s.drop 6) = false := by
      rw [List.drop_of_length_le (by omega)]
      rfl
    rw [this]
    simp

/-! ### Names of entries -/

def letB (x : UInt8) : Bool := decide ((97 ≤ x.toNat ∧ x.toNat ≤ 122) ∨ (65 ≤ x.toNat ∧ x.toNat ≤ 90))

def worB (x : UInt8) : Bool := letB x || decide ((48 ≤ x.toNat ∧ x.toNat ≤ 57) ∨ x.toNat = 45)

def nameS (s : Str) : Bool := decide (1 ≤ s.length ∧ s.length ≤ 64) && (match s with | [] => false | c :: _ => letB c) && s.all worB

theorem F119_eq (x : UInt8) (a b : Nat) : F119 (x.toNat : Int) (a : Int) (b : Int) = some (decide (a ≤ x.toNat ∧ x.toNat ≤ b)) := by
  unfold F119
  by_cases h : (a : Int) ≤ x.toNat
  · rw [if_pos h]; congr 1; rw [decide_eq_decide]; omega
  · rw [if_neg h, decide_eq_false (by omega)]

theorem F80_eq (s : Str) (h : s.length ≤ 1000000) : F80 s = some (nameS s) := by
  unfold F80
  rw [gd_pos (by omega), loopO_find s (fun i x => if (letB x || (decide (¬ i = 0) && worB x)) = true then none else some (.inr false)) (.inl ()) (by omega)
    (fun i hi => by
      simp only [F80_b5]
      rw [if_pos (by omega), gd_pos (by omega), Int.toNat_natCast, getD_some hi]
      generalize s[i] = x
      have e1 : F119 (x.toNat : Int) 97 122 = _ := F119_eq x 97 122
      have e2 : F119 (x.toNat : Int) 65 90 = _ := F119_eq x 65 90
      have e3 : F119 (x.toNat : Int) 48 57 = _ := F119_eq x 48 57
      rw [e1, e2, e3]
      simp only [Option.bind_some, decide_eq_true_eq]
      by_cases h1 : 97 ≤ x.toNat ∧ x.toNat ≤ 122
      · have : letB x = true := by simp only [letB, decide_eq_true_eq]; exact .inl h1
        simp [h1, this]
      · by_cases h2 : 65 ≤ x.toNat ∧ x.toNat ≤ 90
        · have : letB x = true := by simp only [letB, decide_eq_true_eq]; exact .inr h2
          simp [h1, h2, this]
        · have hl : letB x = false := by simp only [letB, decide_eq_false_iff_not]; omega
          rw [if_pos h1, if_pos h2]
          by_cases h0 : i = 0
          · subst h0
            simp [hl]
          · have h0' : ¬ ((i : Int) = 0) := by omega
            rw [if_neg h0']
            by_cases h3 : 48 ≤ x.toNat ∧ x.toNat ≤ 57
            · have : worB x = true := by simp only [worB, Bool.or_eq_true, decide_eq_true_eq]; exact .inr (.inl h3)
              simp [h3, this, h0]
            · rw [if_pos h3]
              by_cases h4 : (x.toNat : Int) = 45
              · have : worB x = true := by simp only [worB, Bool.or_eq_true, decide_eq_true_eq]; exact .inr (.inr (by omega))
                simp [h4, this, h0]
              · have : worB x = false := by simp only [worB, Bool.or_eq_false_iff, hl, decide_eq_false_iff_not, true_and]; omega
                rw [if_pos h4]
                simp [this, hl])
    (by simp only [F80_b5]; rw [if_neg (by omega)])]
  unfold nameS
  cases s with
  | nil => simp [findI, F80_k5]
  | cons c t =>
    rw [findI_cons]
    by_cases hc : letB c = true
    · have hw : worB c = true := by simp [worB, hc]
      simp only [hc, Bool.true_or, if_true]
      rw [findI_congr (g := fun _ x => if worB x = true then none else some (.inr false)) (fun i x hi => by
        have : ¬ i = 0 := by omega
        by_cases hx : letB x = true
        · have : worB x = true := by simp [worB, hx]
          simp [hx, this]
        · simp [this, hx]), findI_all]
      by_cases ha : t.all worB = true
      · simp only [ha, if_true, Option.bind_some, Sum.elim_inl, F80_k5, List.all_cons, hw, Bool.and_true]
        by_cases h2 : (1 : Int) ≤ (c :: t).length
        · rw [if_pos h2]; simp; omega
        · simp at h2; omega
      · rw [if_neg ha]
        simp [List.all_cons, Bool.eq_false_iff.2 ha]
    · have hc' : letB c = false := Bool.eq_false_iff.2 hc
      simp [hc']

set_option maxHeartbeats 4000000 in
theorem F114_eq (s : Str) (h : s.length ≤ 1000000) : F114 s = some (nameS s) := by
  have eL : ∀ x : UInt8, F145 (x.toNat : Int) = some (letB x) := fun x => by
    unfold F145 letB
    by_cases h : (97 ≤ x.toNat ∧ x.toNat ≤ 122) ∨ (65 ≤ x.toNat ∧ x.toNat ≤ 90)
    · rw [decide_eq_true h]
      repeat' split
      all_goals first | rfl | (exfalso; omega) | (congr 1; rw [decide_eq_true_eq]; omega)
    · rw [decide_eq_false h]
      repeat' split
      all_goals first | rfl | (exfalso; omega) | (congr 1; rw [decide_eq_false_iff_not]; omega)
  unfold F114 nameS
  by_cases h1 : (s.length : Int) < 1
  · rw [if_pos h1, decide_eq_false (by omega)]; simp
  · rw [if_neg h1]
    by_cases h2 : (64 : Int) < s.length
    · rw [if_pos h2, decide_eq_false (by omega)]; simp
    · rw [if_neg h2, decide_eq_true (by omega), gd_pos (by omega), eL]
      cases s with
      | nil => simp at h1
      | cons c t =>
        simp only [Option.bind_some, List.getD_cons_zero, Bool.true_and]
        by_cases hc : letB c = true
        · rw [hc, if_neg (by simp), loopO_all (c :: t) worB (by omega)
            (fun i hi => by
              simp only [F114_b12]
              rw [if_pos (by omega), gd_pos (by omega), Int.toNat_natCast, getD_some hi, eL]
              generalize (c :: t)[i] = x
              simp only [Option.bind_some]
              by_cases hx : letB x = true
              · have : worB x = true := by simp [worB, hx]
                rw [if_neg (by simpa using hx), if_pos this]
              · have hx' : letB x = false := Bool.eq_false_iff.2 hx
                rw [if_pos hx]
                by_cases hw : (48 ≤ x.toNat ∧ x.toNat ≤ 57) ∨ x.toNat = 45
                · have : worB x = true := by simp only [worB, Bool.or_eq_true, decide_eq_true_eq]; exact .inr hw
                  rw [if_pos this]
                  repeat' split
                  all_goals first | rfl | (exfalso; omega)
                · have : worB x = false := by simp only [worB, Bool.or_eq_false_iff, hx', decide_eq_false_iff_not, true_and]; exact hw
                  rw [this]
                  simp only [Bool.false_eq_true, if_false]
                  repeat' split
                  all_goals first | rfl | (exfalso; omega))
            (by simp only [F114_b12]; rw [if_neg (by omega)])]
          by_cases ha : (c :: t).all worB = true
          · simp only [ha, if_true, Option.bind_some, Sum.elim_inl, F114_k12, Bool.and_true]
          · rw [if_neg ha, Bool.eq_false_iff.2 ha]; simp
        · have hc' : letB c = false := Bool.eq_false_iff.2 hc
          simp [hc']

end Go.Idl

namespace Go.Idl

open Go

/-! ### The order of texts -/

def lt8 (a b : Str) : Prop := Op.bytesLess a b = true

instance (a b : Str) : Decidable (lt8 a b) := inferInstanceAs (Decidable (_ = true))

theorem lt8_iff (a b : Str) : lt8 a b ↔ a < b := by rw [lt8, Go.Proofs.bytesLess_eq, decide_eq_true_eq]

theorem lt8_irrefl (a : Str) : ¬ lt8 a a := by rw [lt8_iff]; exact List.lt_irrefl a

theorem lt8_trans {a b c : Str} (h : lt8 a b) (k : lt8 b c) : lt8 a c := by rw [lt8_iff] at *; exact List.lt_trans h k

theorem lt8_tri {a b : Str} (h : ¬ lt8 a b) (hne : ¬ a = b) : lt8 b a := by
  rw [lt8_iff] at *
  have h1 : b ≤ a := List.not_lt.1 h
  rcases List.le_iff_lt_or_eq.1 h1 with h2 | h2
  · exact h2
  · exact absurd h2.symm hne

abbrev Rise (l : List Str) : Prop := l.Pairwise lt8

theorem rise_uniq : ∀ {l m : List Str}, Rise l → Rise m → (∀ x, x ∈ l ↔ x ∈ m) → l = m
  | [], [], _, _, _ => rfl
  | [], y :: m, _, _, h => by have := (h y).2 (by simp); simp at this
  | x :: l, [], _, _, h => by have := (h x).1 (by simp); simp at this
  | x :: l, y :: m, hl, hm, h => by
    rw [Rise, List.pairwise_cons] at hl hm
    have hxy : x = y := by
      have h1 := (h x).1 (by simp)
      have h2 := (h y).2 (by simp)
      rcases List.mem_cons.1 h1 with h1 | h1
      · exact h1
      · rcases List.mem_cons.1 h2 with h2 | h2
        · exact h2.symm
        · exact absurd (lt8_trans (hm.1 x h1) (hl.1 y h2)) (lt8_irrefl y)
    subst hxy
    rw [rise_uniq hl.2 hm.2 fun z => ?_]
    constructor
    · intro hz
      have := (h z).1 (by simp [hz])
      rcases List.mem_cons.1 this with e | e
      · exact absurd (e ▸ hl.1 z hz) (lt8_irrefl _)
      · exact e
    · intro hz
      have := (h z).2 (by simp [hz])
      rcases List.mem_cons.1 this with e | e
      · exact absurd (e ▸ hm.1 z hz) (lt8_irrefl _)
      · exact e

theorem rise_nodup {l : List Str} (h : Rise l) : l.Nodup := by
  refine h.imp fun {a b} hab e => ?_
  subst e
  exact lt8_irrefl _ hab

theorem sortS_mem (l : List Str) (x : Str) : x ∈ sortS l ↔ x ∈ l := by simp [sortS]

theorem sortS_rise {l : List Str} (h : l.Nodup) : Rise (sortS l) := by
  have hs : (sortS l).Pairwise (fun a b => a ≤ b) := by
    have := List.pairwise_mergeSort (le := fun (x y : Str) => decide (x ≤ y)) (fun a b c h1 h2 => by simp only [decide_eq_true_eq] at *; exact List.le_trans h1 h2) (fun a b => by simp only [Bool.or_eq_true, decide_eq_true_eq]; exact List.le_total a b) l
    exact this.imp fun h => by simpa using h
  have hn : (sortS l).Nodup := (List.mergeSort_perm l _).nodup_iff.2 h
  have hb := List.pairwise_and_iff.2 ⟨hs, hn⟩
  refine hb.imp fun {a b} hab => ?_
  rw [lt8_iff]
  rcases List.le_iff_lt_or_eq.1 hab.1 with h2 | h2
  · exact h2
  · exact absurd h2 hab.2

/-! ### Tables -/

section

variable {κ β : Type} [DecidableEq κ]

theorem mget_set (m : List (κ × β)) (k : κ) (v : β) (n : κ) : mget (mset m k v) n = if n = k then some v else mget m n := by
  induction m with
  | nil =>
    simp only [mset, mget]
    by_cases h : k = n
    · simp [h]
    · rw [if_neg h, if_neg (fun e => h e.symm)]
  | cons p t ih =>
    simp only [mset]
    by_cases h : p.1 = k
    · rw [if_pos h]
      simp only [mget]
      by_cases hn : k = n
      · simp [hn]
      · rw [if_neg hn, if_neg (fun e => hn e.symm), h, if_neg hn]
    · rw [if_neg h]
      simp only [mget]
      by_cases hn : p.1 = n
      · rw [if_pos hn, if_pos hn, if_neg (fun e => h (hn.trans e))]
      · rw [if_neg hn, if_neg hn]
        exact ih

theorem mget_keys {m : List (κ × β)} {n : κ} : n ∈ m.map (·.1) ↔ (mget m n).isSome = true := by
  induction m with
  | nil => simp [mget]
  | cons p t ih =>
    simp only [List.map_cons, List.mem_cons, mget] at ih ⊢
    by_cases h : p.1 = n
    · simp [h]
    · rw [if_neg h, ← ih]
      constructor
      · rintro (e | e)
        · exact absurd e.symm h
        · exact e
      · exact .inr

theorem keys_set {m : List (κ × β)} {k : κ} {v : β} {n : κ} : n ∈ (mset m k v).map (·.1) ↔ n = k ∨ n ∈ m.map (·.1) := by
  rw [mget_keys, mget_set, mget_keys]
  by_cases h : n = k
  · simp [h]
  · simp [h]

theorem nodup_set {m : List (κ × β)} (h : (m.map (·.1)).Nodup) (k : κ) (v : β) : ((mset m k v).map (·.1)).Nodup := by
  induction m with
  | nil => simp [mset]
  | cons p t ih =>
    simp only [List.map_cons, List.nodup_cons] at h
    simp only [mset]
    by_cases hp : p.1 = k
    · rw [if_pos hp]
      simp only [List.map_cons, List.nodup_cons]
      exact ⟨hp ▸ h.1, h.2⟩
    · rw [if_neg hp]
      simp only [List.map_cons, List.nodup_cons]
      refine ⟨fun hm => ?_, ih h.2⟩
      rcases keys_set.1 hm with e | e
      · exact hp e
      · exact h.1 e

theorem mdel_sub {m : List (κ × β)} {k : κ} : (mdel m k).Sublist m := by
  induction m with
  | nil => exact .slnil
  | cons p t ih =>
    simp only [mdel]
    split
    · exact List.sublist_cons_self _ _
    · exact ih.cons_cons _

theorem nodup_del {m : List (κ × β)} (h : (m.map (·.1)).Nodup) (k : κ) : ((mdel m k).map (·.1)).Nodup := h.sublist (mdel_sub.map _)

theorem mget_del {m : List (κ × β)} (hd : (m.map (·.1)).Nodup) (k n : κ) : mget (mdel m k) n = if n = k then none else mget m n := by
  induction m with
  | nil => simp [mdel, mget]
  | cons p t ih =>
    simp only [List.map_cons, List.nodup_cons] at hd
    simp only [mdel]
    by_cases h : p.1 = k
    · rw [if_pos h]
      by_cases hn : n = k
      · subst hn
        rw [if_pos rfl]
        have := hd.1
        rw [h, mget_keys] at this
        simpa using this
      · rw [if_neg hn]
        simp only [mget]
        rw [if_neg (fun e => hn (e.symm.trans h))]
    · rw [if_neg h]
      simp only [mget]
      by_cases hn : p.1 = n
      · rw [if_pos hn, if_pos hn, if_neg (fun e => h (hn.trans e))]
      · rw [if_neg hn, if_neg hn]
        exact ih hd.2

end

/-! ### A list by rising Hrefs, and the tables -/

section

variable {α : Type} {hf uf : α → Str}

structure Tabs (hf uf : α → Str) (m : List (Str × α)) (n : List (Str × Str)) (L : List α) : Prop where
  rise : L.Pairwise fun a b => lt8 (hf a) (hf b)
  mn : (m.map (·.1)).Nodup
  nn : (n.map (·.1)).Nodup
  mg : ∀ h x, mget m h = some x ↔ x ∈ L ∧ hf x = h
  ng : ∀ u h, mget n u = some h ↔ ∃ x, x ∈ L ∧ uf x = u ∧ hf x = h
  uu : L.Pairwise fun a b => ¬ uf a = uf b

variable {m : List (Str × α)} {n : List (Str × Str)} {L : List α}

theorem Tabs.nil : Tabs hf uf [] [] [] := ⟨by simp, by simp, by simp, by simp [mget], by simp [mget], by simp⟩

theorem Tabs.hrise (t : Tabs hf uf m n L) : Rise (L.map hf) := List.pairwise_map.2 t.rise

theorem Tabs.keys (t : Tabs hf uf m n L) (h : Str) : h ∈ m.map (·.1) ↔ h ∈ L.map hf := by
  rw [mget_keys, Option.isSome_iff_exists, List.mem_map]
  exact ⟨fun ⟨x, hx⟩ => ⟨x, (t.mg h x).1 hx⟩, fun ⟨x, hx⟩ => ⟨x, (t.mg h x).2 hx⟩⟩

theorem Tabs.len (t : Tabs hf uf m n L) : m.length = L.length := by
  have := ((List.perm_ext_iff_of_nodup t.mn (rise_nodup t.hrise)).2 t.keys).length_eq
  simpa using this

theorem Tabs.sort (t : Tabs hf uf m n L) : sortS (m.map (·.1)) = L.map hf :=
  rise_uniq (sortS_rise t.mn) t.hrise fun x => by rw [sortS_mem]; exact t.keys x

theorem Tabs.inj (t : Tabs hf uf m n L) {x y : α} (hx : x ∈ L) (hy : y ∈ L) (e : hf x = hf y) : x = y := by
  have h1 := (t.mg (hf x) x).2 ⟨hx, rfl⟩
  have h2 := (t.mg (hf x) y).2 ⟨hy, e.symm⟩
  rw [h1] at h2
  exact Option.some.inj h2

theorem Tabs.injU (t : Tabs hf uf m n L) {x y : α} (hx : x ∈ L) (hy : y ∈ L) (e : uf x = uf y) : x = y := by
  have h1 := (t.ng (uf x) (hf x)).2 ⟨x, hx, rfl, rfl⟩
  have h2 := (t.ng (uf x) (hf y)).2 ⟨y, hy, e.symm, rfl⟩
  rw [h1] at h2
  exact t.inj hx hy (Option.some.inj h2)

theorem Tabs.get (t : Tabs hf uf m n L) {x : α} (hx : x ∈ L) : mget m (hf x) = some x := (t.mg _ _).2 ⟨hx, rfl⟩

theorem Tabs.getU (t : Tabs hf uf m n L) {x : α} (hx : x ∈ L) : mget n (uf x) = some (hf x) := (t.ng _ _).2 ⟨x, hx, rfl, rfl⟩

theorem Tabs.nothing (t : Tabs hf uf m n L) {h : Str} : mget m h = none ↔ ∀ x ∈ L, ¬ hf x = h := by
  rw [Option.eq_none_iff_forall_ne_some]
  exact ⟨fun q x hx e => q x ((t.mg h x).2 ⟨hx, e⟩), fun q x e => q x ((t.mg h x).1 e).1 ((t.mg h x).1 e).2⟩

theorem Tabs.nothingU (t : Tabs hf uf m n L) {u : Str} : mget n u = none ↔ ∀ x ∈ L, ¬ uf x = u := by
  rw [Option.eq_none_iff_forall_ne_some]
  exact ⟨fun q x hx e => q (hf x) ((t.ng u _).2 ⟨x, hx, e, rfl⟩), fun q h e => by obtain ⟨x, h1, h2, _⟩ := (t.ng u h).1 e; exact q x h1 h2⟩

def cutL (hf : α → Str) (h : Str) : List α → Nat
  | [] => 0
  | y :: l => if lt8 (hf y) h then cutL hf h l + 1 else 0

theorem cutL_le (h : Str) : ∀ l : List α, cutL hf h l ≤ l.length
  | [] => Nat.le_refl _
  | y :: l => by
    have := cutL_le h l
    simp only [cutL, List.length_cons]
    split <;> omega

def insL (hf : α → Str) (x : α) (l : List α) : List α := l.take (cutL hf (hf x) l) ++ x :: l.drop (cutL hf (hf x) l)

theorem insL_mem {x y : α} {l : List α} : y ∈ insL hf x l ↔ y = x ∨ y ∈ l := by
  conv => rhs; rw [← List.take_append_drop (cutL hf (hf x) l) l]
  simp only [insL, List.mem_append, List.mem_cons]
  constructor
  · rintro (h | h | h)
    · exact .inr (.inl h)
    · exact .inl h
    · exact .inr (.inr h)
  · rintro (h | h | h)
    · exact .inr (.inl h)
    · exact .inl h
    · exact .inr (.inr h)

theorem insL_len (x : α) (l : List α) : (insL hf x l).length = l.length + 1 := by
  have := cutL_le (hf := hf) (hf x) l
  simp only [insL, List.length_append, List.length_cons, List.length_take, List.length_drop]
  omega

theorem insL_cons (x y : α) (l : List α) : insL hf x (y :: l) = if lt8 (hf y) (hf x) then y :: insL hf x l else x :: y :: l := by
  unfold insL
  simp only [cutL]
  split
  · simp
  · simp

theorem insL_rise {x : α} : ∀ {l : List α}, (l.Pairwise fun a b => lt8 (hf a) (hf b)) → (∀ y ∈ l, ¬ hf y = hf x) → (insL hf x l).Pairwise fun a b => lt8 (hf a) (hf b)
  | [], _, _ => by simp [insL, cutL]
  | y :: l, h, hn => by
    rw [List.pairwise_cons] at h
    rw [insL_cons]
    split
    · rename_i hy
      rw [List.pairwise_cons]
      refine ⟨fun z hz => ?_, insL_rise h.2 fun z hz => hn z (by simp [hz])⟩
      rcases insL_mem.1 hz with e | e
      · exact e ▸ hy
      · exact h.1 z e
    · rename_i hy
      have hxy := lt8_tri hy (hn y (by simp))
      rw [List.pairwise_cons, List.pairwise_cons]
      refine ⟨fun z hz => ?_, h⟩
      rcases List.mem_cons.1 hz with e | e
      · exact e ▸ hxy
      · exact lt8_trans hxy (h.1 z e)

theorem insL_perm (x : α) (l : List α) : (insL hf x l).Perm (x :: l) := by
  conv => rhs; rw [← List.take_append_drop (cutL hf (hf x) l) l]
  exact List.perm_middle

theorem Tabs.add (t : Tabs hf uf m n L) {x : α} (h1 : ∀ y ∈ L, ¬ hf y = hf x) (h2 : ∀ y ∈ L, ¬ uf y = uf x) : Tabs hf uf (mset m (hf x) x) (mset n (uf x) (hf x)) (insL hf x L) := by
  refine ⟨insL_rise t.rise h1, nodup_set t.mn _ _, nodup_set t.nn _ _, fun h y => ?_, fun u h => ?_, ?_⟩
  · rw [mget_set, insL_mem]
    by_cases e : h = hf x
    · rw [if_pos e]
      constructor
      · rintro q; cases q; exact ⟨.inl rfl, e.symm⟩
      · rintro ⟨q | q, q2⟩
        · rw [q]
        · exact absurd (q2.trans e) (h1 y q)
    · rw [if_neg e, t.mg]
      constructor
      · rintro ⟨q, q2⟩; exact ⟨.inr q, q2⟩
      · rintro ⟨q | q, q2⟩
        · subst q; exact absurd q2.symm e
        · exact ⟨q, q2⟩
  · rw [mget_set]
    by_cases e : u = uf x
    · rw [if_pos e]
      constructor
      · rintro q; cases q; exact ⟨x, insL_mem.2 (.inl rfl), e.symm, rfl⟩
      · rintro ⟨y, q, q2, q3⟩
        rcases insL_mem.1 q with q | q
        · subst q; rw [q3]
        · exact absurd (q2.trans e) (h2 y q)
    · rw [if_neg e, t.ng]
      constructor
      · rintro ⟨y, q, q2⟩; exact ⟨y, insL_mem.2 (.inr q), q2⟩
      · rintro ⟨y, q, q2, q3⟩
        rcases insL_mem.1 q with q | q
        · subst q; exact absurd q2.symm e
        · exact ⟨y, q, q2, q3⟩
  · refine (insL_perm x L).pairwise_iff (fun {a b} h e => h e.symm) |>.2 ?_
    rw [List.pairwise_cons]
    exact ⟨fun y hy e => h2 y hy e.symm, t.uu⟩

theorem Tabs.set (t : Tabs hf uf m n L) {k : Nat} (hk : k < L.length) {x : α} (h1 : hf x = hf L[k]) (h2 : uf x = uf L[k]) : Tabs hf uf (mset m (hf x) x) (mset n (uf x) (hf x)) (L.set k x) := by
  have hm : L.map hf = (L.set k x).map hf := by
    rw [List.map_set, h1]
    apply List.ext_getElem
    · simp
    · intro i q q2
      simp only [List.getElem_map, List.getElem_set]
      split
      · rename_i e; subst e; rfl
      · rfl
  have hu : L.map uf = (L.set k x).map uf := by
    rw [List.map_set, h2]
    apply List.ext_getElem
    · simp
    · intro i q q2
      simp only [List.getElem_map, List.getElem_set]
      split
      · rename_i e; subst e; rfl
      · rfl
  have hmem : ∀ y, y ∈ L.set k x ↔ y = x ∨ (y ∈ L ∧ ¬ hf y = hf x) := by
    intro y
    constructor
    · intro hy
      obtain ⟨i, hi, e⟩ := List.getElem_of_mem hy
      simp only [List.length_set] at hi
      rw [List.getElem_set] at e
      split at e
      · exact .inl e.symm
      · rename_i ne
        subst e
        refine .inr ⟨List.getElem_mem _, fun e => ne ?_⟩
        rw [h1] at e
        have := List.getElem_inj (rise_nodup t.hrise) (i := i) (j := k) (h₀ := by simpa using hi) (h₁ := by simpa using hk)
        simp only [List.getElem_map] at this
        exact (this.1 e).symm
    · rintro (e | ⟨q, q2⟩)
      · subst e
        exact List.mem_set hk y
      · obtain ⟨i, hi, e⟩ := List.getElem_of_mem q
        have hne : ¬ k = i := by
          intro e2
          subst e2
          subst e
          exact q2 h1.symm
        have : (L.set k x)[i]'(by simpa using hi) = y := by rw [List.getElem_set, if_neg hne, e]
        rw [← this]
        exact List.getElem_mem _
  have hLk : L[k] ∈ L := List.getElem_mem _
  refine ⟨?_, nodup_set t.mn _ _, nodup_set t.nn _ _, fun h y => ?_, fun u h => ?_, ?_⟩
  · have := t.hrise; rw [hm] at this; exact List.pairwise_map.1 this
  · rw [mget_set, hmem]
    by_cases e : h = hf x
    · rw [if_pos e]
      constructor
      · rintro q; cases q; exact ⟨.inl rfl, e.symm⟩
      · rintro ⟨q | q, q2⟩
        · rw [q]
        · exact absurd (q2.trans e) q.2
    · rw [if_neg e, t.mg]
      constructor
      · rintro ⟨q, q2⟩; exact ⟨.inr ⟨q, fun q3 => e (q2.symm.trans q3)⟩, q2⟩
      · rintro ⟨q | q, q2⟩
        · subst q; exact absurd q2.symm e
        · exact ⟨q.1, q2⟩
  · rw [mget_set]
    by_cases e : u = uf x
    · rw [if_pos e]
      constructor
      · rintro q; cases q; exact ⟨x, (hmem _).2 (.inl rfl), e.symm, rfl⟩
      · rintro ⟨y, q, q2, q3⟩
        rcases (hmem _).1 q with q | q
        · subst q; rw [q3]
        · have := t.injU q.1 hLk (q2.trans (e.trans h2))
          exact absurd (this ▸ h1.symm) q.2
    · rw [if_neg e, t.ng]
      constructor
      · rintro ⟨y, q, q2, q3⟩
        refine ⟨y, (hmem _).2 (.inr ⟨q, fun q4 => e ?_⟩), q2, q3⟩
        have := t.inj q hLk (q4.trans h1)
        subst this
        exact q2.symm.trans h2.symm
      · rintro ⟨y, q, q2, q3⟩
        rcases (hmem _).1 q with q | q
        · subst q; exact absurd q2.symm e
        · exact ⟨y, q.1, q2, q3⟩
  · have h3 : (L.map uf).Pairwise fun a b => ¬ a = b := List.pairwise_map.2 t.uu
    rw [hu] at h3
    exact List.pairwise_map.1 h3

theorem Tabs.drop (t : Tabs hf uf m n L) {k : Nat} (hk : k < L.length) : Tabs hf uf (mdel m (hf L[k])) (mdel n (uf L[k])) (L.take k ++ L.drop (k + 1)) := by
  have hLk : L[k] ∈ L := List.getElem_mem _
  have hs : (L.take k ++ L.drop (k + 1)).Sublist L := by
    conv => rhs; rw [← List.take_append_drop k L, List.drop_eq_getElem_cons hk]
    exact List.Sublist.append_left (List.sublist_cons_self _ _) _
  have hmem : ∀ y, y ∈ L.take k ++ L.drop (k + 1) ↔ (y ∈ L ∧ ¬ hf y = hf L[k]) := by
    intro y
    have hp : L.Perm (L[k] :: (L.take k ++ L.drop (k + 1))) := by
      conv => lhs; rw [← List.take_append_drop k L, List.drop_eq_getElem_cons hk]
      exact List.perm_middle
    have hr : (L[k] :: (L.take k ++ L.drop (k + 1))).Pairwise fun a b => ¬ hf a = hf b := by
      refine (hp.pairwise_iff (fun {a b} h e => h e.symm)).1 ?_
      refine t.rise.imp fun {a b} h e => ?_
      rw [e] at h
      exact lt8_irrefl _ h
    rw [List.pairwise_cons] at hr
    constructor
    · intro hy
      exact ⟨hs.subset hy, fun e => hr.1 y hy e.symm⟩
    · rintro ⟨q, q2⟩
      rcases List.mem_cons.1 (hp.mem_iff.1 q) with e | e
      · exact absurd (by rw [e]) q2
      · exact e
  refine ⟨t.rise.sublist hs, nodup_del t.mn _, nodup_del t.nn _, fun h y => ?_, fun u h => ?_, t.uu.sublist hs⟩
  · rw [mget_del t.mn, hmem]
    by_cases e : h = hf L[k]
    · rw [if_pos e]
      constructor
      · intro q; cases q
      · rintro ⟨q, q2⟩; exact absurd (q2.trans e) q.2
    · rw [if_neg e, t.mg]
      constructor
      · rintro ⟨q, q2⟩; exact ⟨⟨q, fun q3 => e (q2.symm.trans q3)⟩, q2⟩
      · rintro ⟨q, q2⟩; exact ⟨q.1, q2⟩
  · rw [mget_del t.nn]
    by_cases e : u = uf L[k]
    · rw [if_pos e]
      constructor
      · intro q; cases q
      · rintro ⟨y, q, q2, q3⟩
        have := t.injU ((hmem y).1 q).1 hLk (q2.trans e)
        exact absurd (by rw [this]) ((hmem y).1 q).2
    · rw [if_neg e, t.ng]
      constructor
      · rintro ⟨y, q, q2, q3⟩
        refine ⟨y, (hmem _).2 ⟨q, fun q4 => e ?_⟩, q2, q3⟩
        have := t.inj q hLk q4
        subst this
        exact q2.symm
      · rintro ⟨y, q, q2, q3⟩; exact ⟨y, ((hmem y).1 q).1, q2, q3⟩

end

/-! ### Where something stands -/

section

variable {α : Type}

def idxL (p : α → Bool) (l : List α) : Int := match l.findIdx? p with | some i => (i : Int) | none => -1

theorem idxL_cases (p : α → Bool) (l : List α) : (idxL p l = -1 ∧ ∀ x ∈ l, p x = false) ∨ ∃ k : Nat, ∃ h : k < l.length, idxL p l = (k : Int) ∧ p l[k] = true := by
  unfold idxL
  cases hf : l.findIdx? p with
  | none => exact .inl ⟨rfl, List.findIdx?_eq_none_iff.1 hf⟩
  | some k =>
    obtain ⟨h1, h2, _⟩ := List.findIdx?_eq_some_iff_getElem.1 hf
    exact .inr ⟨k, h1, rfl, h2⟩

end

end Go.Idl

namespace Go.Idl

open Go

/-! ### Names of entries -/

def rdnB (x : S89) : Bool := nameS x.fType && decide (x.fType.map lowB = x.fType) && decide (1 ≤ x.fValue.length ∧ x.fValue.length ≤ 200)

def rightD (d : List S89) : Bool := decide (d.length ≤ 16) && d.all rdnB

def bigD (d : List S89) : Prop := d.length ≤ 1000000 ∧ ∀ x, x ∈ d → x.fType.length ≤ 1000000 ∧ x.fValue.length ≤ 1000000

theorem F81_eq (s : Str) (h : s.length ≤ 1000000) : F81 s = some (s.map lowB) := gd_pos (by omega)

theorem F79_eq (x : S89) (h : x.fType.length ≤ 1000000 ∧ x.fValue.length ≤ 1000000) : F79 x = some (rdnB x) := by
  unfold F79 rdnB
  rw [F80_eq _ h.1, F81_eq _ h.1]
  simp only [Option.bind_some]
  by_cases h1 : nameS x.fType = true
  · rw [if_pos h1, h1]
    by_cases h2 : x.fType.map lowB = x.fType
    · rw [if_pos h2, decide_eq_true h2]
      by_cases h3 : (1 : Int) ≤ x.fValue.length
      · rw [if_pos h3]; congr 1; simp only [Bool.true_and]; rw [decide_eq_decide]; omega
      · rw [if_neg h3, decide_eq_false (p := 1 ≤ x.fValue.length ∧ _) (by omega)]; rfl
    · rw [if_neg h2, decide_eq_false h2]; simp
  · rw [if_neg h1, Bool.eq_false_iff.2 h1]; simp

theorem F120_eq (d : List S89) (h : bigD d) : F120 d = some (!d.all rdnB) := by
  unfold F120 F149
  obtain ⟨j, hj, hf⟩ := findI_idx rdnB d 0
  rw [loopO_find d (fun i x => if rdnB x = true then none else some (.inr (i : Int))) (.inl ()) (by have := h.1; omega)
    (fun i hi => by
      simp only [F149_b4, F121]
      rw [if_pos (by omega), gd_pos (by omega), Int.toNat_natCast, getD_some hi, F79_eq _ (h.2 _ (List.getElem_mem _))]
      simp only [Option.bind_some]
      cases rdnB d[i] <;> simp)
    (by simp only [F149_b4]; rw [if_neg (by omega)]), hf]
  by_cases h1 : d.all rdnB = true
  · rw [if_pos h1, h1]; simp [F149_k4]
  · rw [if_neg h1, Bool.eq_false_iff.2 h1]; simp [hj]

theorem F54_eq (d : List S89) (h : bigD d) : F54 d = some (if rightD d = true then 0 else 2) := by
  unfold F54 rightD
  by_cases h1 : (16 : Int) < d.length
  · rw [if_pos h1, decide_eq_false (by omega)]; simp
  · rw [if_neg h1, decide_eq_true (by omega)]
    unfold F82
    rw [F120_eq d h]
    simp only [Option.bind_some, Bool.not_not, Bool.true_and]
    by_cases h2 : d.all rdnB = true
    · rw [if_neg (by simpa using h2), if_pos h2]
    · rw [if_pos h2, if_neg h2]

theorem runI_map {f : UInt8 → UInt8} : ∀ (l acc : Str) (k : Nat), runI (fun _ (a : Str) x => (.inl (a ++ [f x]) : Str ⊕ Str)) id k acc l = acc ++ l.map f
  | [], acc, _ => by simp [runI]
  | x :: l, acc, k => by
    rw [runI_cons]
    simp only
    rw [runI_map l]
    simp

theorem F115_eq (s : Str) (h : s.length ≤ 1000000) : F115 s = some (s.map lowB) := by
  unfold F115
  have key := loopO_run (l := s) (step := fun (s_1 : Str × Int) => F115_b5 s s_1.1 s_1.2) (fun _ (a : Str) x => (.inl (a ++ [lowB x]) : Str ⊕ Str)) id (fun i a => a.length = i) (a := []) (by omega) rfl
    (fun i hi a hI => by
      simp only [F115_b5]
      rw [if_pos (by omega), gd_pos (by omega), Int.toNat_natCast, getD_some hi]
      generalize s[i] = x
      obtain ⟨e1, e2⟩ := lowB_int x
      have hx := x.toNat_lt
      by_cases h1 : (65 : Int) ≤ x.toNat
      · rw [if_pos h1]
        by_cases h2 : (x.toNat : Int) ≤ 90
        · have hw : IntKind.u8.wrap ((x.toNat : Int) + 32) = (x.toNat : Int) + 32 := wrap_u8 (by omega) (by omega)
          have e3 := e1 ⟨h1, h2⟩
          rw [if_pos h2, hw, gd_pos (by omega), gd_pos (by simp; omega)]
          have e4 : ((x.toNat : Int) + 32).toNat = (lowB x).toNat := by omega
          rw [e4, UInt8.ofNat_toNat]
        · rw [if_neg h2, gd_pos (by omega), gd_pos (by simp; omega), Int.toNat_natCast, UInt8.ofNat_toNat, e2 (by omega)]
      · rw [if_neg h1, gd_pos (by omega), gd_pos (by simp; omega), Int.toNat_natCast, UInt8.ofNat_toNat, e2 (by omega)])
    (fun i hi a a' hI e => by cases e; simp [hI])
    (fun a hI => by simp only [F115_b5]; rw [if_neg (by omega)]; rfl)
  rw [key, runI_map]
  simp [F115_k5]

theorem F73_eq (d : List S89) (h : bigD d) : F73 d = some (rightD d) := by
  unfold F73 rightD
  by_cases h1 : (16 : Int) < d.length
  · rw [if_pos h1, decide_eq_false (by omega)]; simp
  · rw [if_neg h1, decide_eq_true (by omega), loopO_all d rdnB (by omega)
      (fun i hi => by
        have hb := h.2 _ (List.getElem_mem hi)
        simp only [F73_b8]
        rw [if_pos (by omega), gd_pos (by omega), Int.toNat_natCast, getD_some hi, F114_eq _ hb.1, F115_eq _ hb.1]
        simp only [Option.bind_some]
        unfold rdnB
        by_cases a1 : nameS d[i].fType = true
        · rw [if_neg (by simpa using a1), a1]
          by_cases a2 : (d[i].fValue.length : Int) < 1
          · rw [if_pos a2, decide_eq_false (p := 1 ≤ d[i].fValue.length ∧ _) (by omega)]; simp
          · rw [if_neg a2]
            by_cases a3 : (200 : Int) < d[i].fValue.length
            · rw [if_pos a3, decide_eq_false (p := 1 ≤ d[i].fValue.length ∧ _) (by omega)]; simp
            · rw [if_neg a3, decide_eq_true (p := 1 ≤ d[i].fValue.length ∧ _) (by omega)]
              by_cases a4 : d[i].fType.map lowB = d[i].fType
              · rw [if_neg (by simpa using a4), decide_eq_true a4]; simp
              · rw [if_pos a4, decide_eq_false a4]; simp
        · rw [if_pos a1, Bool.eq_false_iff.2 a1]; simp)
      (by simp only [F73_b8]; rw [if_neg (by omega)])]
    by_cases h2 : d.all rdnB = true
    · simp [h2, F73_k8]
    · rw [if_neg h2, Bool.eq_false_iff.2 h2]; simp

/-! ### Sameness -/

theorem F51_eq (a b : List S89) (ha : a.length ≤ 1000000) : F51 a b = some (decide (a = b)) := by
  unfold F51
  by_cases hl : (a.length : Int) = b.length
  · rw [if_neg (by simpa using hl)]
    have hl' : a.length = b.length := by omega
    obtain ⟨r, h1, h2⟩ := loopO_for (step := fun (s : Int) => F51_b8 a b s) (Post := fun y => (y = .inl () ∧ a = b) ∨ (y = .inr false ∧ ¬ a = b)) a.length (fun i => a.take i = b.take i) (by simp)
      (fun i hi hI => by
        have hw := wrap_nat (i := i) (by omega)
        have hib : i < b.length := by omega
        simp only [F51_b8]
        rw [if_pos (by omega), gd_pos (by omega), gd_pos (by omega), Int.toNat_natCast, getD_some hi, getD_some hib, hw]
        by_cases e : a[i].fType = b[i].fType ∧ a[i].fValue = b[i].fValue
        · rw [if_neg (by simpa using e)]
          refine .inl ⟨rfl, ?_⟩
          have e' : a[i] = b[i] := by
            cases ha' : a[i] with | mk t v => cases hb' : b[i] with | mk t' v' => rw [ha', hb'] at e; simp at e; rw [e.1, e.2]
          rw [List.take_succ_eq_append_getElem hi, List.take_succ_eq_append_getElem hib, hI, e']
        · rw [if_pos e]
          refine .inr ⟨_, rfl, .inr ⟨rfl, fun q => e ?_⟩⟩
          subst q
          exact ⟨rfl, rfl⟩)
      (fun hI => by
        simp only [F51_b8]
        rw [if_neg (by omega)]
        refine ⟨_, rfl, .inl ⟨rfl, ?_⟩⟩
        rwa [List.take_of_length_le (Nat.le_refl _), List.take_of_length_le (by omega)] at hI)
    rw [h1]
    rcases h2 with ⟨rfl, h⟩ | ⟨rfl, h⟩
    · simp [F51_k8, h]
    · simp [h]
  · rw [if_pos hl, decide_eq_false (fun e => hl (by rw [e]))]

theorem F48_eq (a b : List (List Str)) (ha : a.length = 8) (hb : b.length = 8) : F48 a b = some (decide (a = b)) := gd_pos ⟨ha, hb⟩

theorem F19_eq (a b : S39) (ha : a.fShadow.length = 8) (hb : b.fShadow.length = 8) : F19 a b = some (decide (a = b)) := by
  unfold F19
  rw [gd_pos ha, gd_pos hb, F48_eq _ _ ha hb]
  obtain ⟨h, u, s⟩ := a
  obtain ⟨h', u', s'⟩ := b
  simp only [S39.mk.injEq, Option.bind_some]
  by_cases e1 : h = h'
  · by_cases e2 : u = u'
    · simp [e1, e2]
    · simp [e1, e2]
  · simp [e1]

theorem F25_eq (a b : S33) (ha : a.fShadow.length = 8) (hb : b.fShadow.length = 8) (hd : a.fDn.length ≤ 1000000) : F25 a b = some (decide (a = b)) := by
  unfold F25
  rw [gd_pos ha, gd_pos hb, F48_eq _ _ ha hb, F51_eq _ _ hd]
  obtain ⟨h, u, d, s⟩ := a
  obtain ⟨h', u', d', s'⟩ := b
  simp only [S33.mk.injEq, Option.bind_some]
  by_cases e1 : h = h'
  · by_cases e2 : u = u'
    · by_cases e3 : d = d'
      · simp [e1, e2, e3]
      · simp [e1, e2, e3]
    · simp [e1, e2]
  · simp [e1]

/-! ### Places -/

theorem findI_place {α : Type} (p : α → Bool) : ∀ (l : List α) (k : Nat), findI (fun i x => if p x = true then some (.inr (i : Int)) else none) (.inl ()) k l = (match l.findIdx? p with | some j => (.inr ((k + j : Nat) : Int) : Unit ⊕ Int) | none => .inl ())
  | [], k => by simp [findI]
  | x :: l, k => by
    rw [findI_cons, List.findIdx?_cons]
    by_cases h : p x = true
    · simp [h]
    · simp only [h, if_false, Bool.false_eq_true]
      rw [findI_place p l (k + 1)]
      cases l.findIdx? p with
      | none => rfl
      | some j => simp; omega

def cardI (l : List S39) (h : Str) : Int := idxL (fun x : S39 => decide (x.fHref = h)) l

def entI (l : List S39) (u : Str) : Int := idxL (fun x : S39 => decide (x.fUuid = u)) l

theorem F15_eq (l : List S39) (h : Str) (hl : l.length ≤ 1000000) : F15 l h = some (cardI l h) := by
  unfold F15
  rw [loopO_find l (fun i x => if decide (x.fHref = h) = true then some (.inr (i : Int)) else none) (.inl ()) (by omega)
    (fun i hi => by
      simp only [F15_b4]
      rw [if_pos (by omega), gd_pos (by omega), Int.toNat_natCast, getD_some hi]
      by_cases e : l[i].fHref = h <;> simp [e])
    (by simp only [F15_b4]; rw [if_neg (by omega)]), findI_place]
  unfold cardI idxL
  cases l.findIdx? (fun x : S39 => decide (x.fHref = h)) with
  | none => simp [F15_k4]
  | some j => simp

theorem F16_eq (l : List S39) (u : Str) (hl : l.length ≤ 1000000) : F16 l u = some (entI l u) := by
  unfold F16
  rw [loopO_find l (fun i x => if decide (x.fUuid = u) = true then some (.inr (i : Int)) else none) (.inl ()) (by omega)
    (fun i hi => by
      simp only [F16_b4]
      rw [if_pos (by omega), gd_pos (by omega), Int.toNat_natCast, getD_some hi]
      by_cases e : l[i].fUuid = u <;> simp [e])
    (by simp only [F16_b4]; rw [if_neg (by omega)]), findI_place]
  unfold entI idxL
  cases l.findIdx? (fun x : S39 => decide (x.fUuid = u)) with
  | none => simp [F16_k4]
  | some j => simp

end Go.Idl

namespace Go.Idl

open Go

abbrev Mp := List (Str × S39)

abbrev Np := List (Str × Str)

/-! ### The list's steps -/

def goodB (x : S39) : Bool := hrefS x.fHref && uuidS x.fUuid && checkS x.fShadow

def addD (L : List S39) (x : S39) : List S39 × Int :=
  if goodB x = true then (if 0 ≤ cardI L x.fHref then (L, 300) else if 0 ≤ entI L x.fUuid then (L, 300) else if 64 ≤ (L.length : Int) then (L, 3) else (insL (·.fHref) x L, 0)) else (L, 2)

def setD (L : List S39) (h : Str) (c : List (List Str)) : List S39 × Int :=
  if checkS c = true then (if cardI L h < 0 then (L, 5) else (L.set (cardI L h).toNat ⟨(L.getD (cardI L h).toNat S39.zero).fHref, (L.getD (cardI L h).toNat S39.zero).fUuid, c⟩, 0)) else (L, 2)

def dropD (L : List S39) (h : Str) : List S39 × Int :=
  if cardI L h < 0 then (L, 5) else (L.take (cardI L h).toNat ++ L.drop ((cardI L h).toNat + 1), 0)

def rightPr (y : S33) : Bool := ((uuidS y.fUuid && decide (y.fDn = [])) || (decide (y.fUuid = []) && (decide (¬ y.fDn = []) && rightD y.fDn))) && (hrefS y.fHref && checkS y.fShadow)

def proA (a : S41) : S33 := ⟨a.fPairing.fHref, a.fPairing.fUuid, a.fDn, a.fPairing.fShadow⟩

def stepD (d : S35) (a : S41) : S35 × Int :=
  if a.fKind = 1 then (⟨(addD d.fL a.fPairing).1, d.fP⟩, (addD d.fL a.fPairing).2)
  else if a.fKind = 2 then (⟨(setD d.fL a.fPairing.fHref a.fPairing.fShadow).1, d.fP⟩, (setD d.fL a.fPairing.fHref a.fPairing.fShadow).2)
  else if a.fKind = 3 then (⟨(dropD d.fL a.fPairing.fHref).1, d.fP⟩, (dropD d.fL a.fPairing.fHref).2)
  else if a.fKind = 4 then (if rightPr (proA a) = true then (⟨d.fL, proA a⟩, 0) else (d, 2))
  else if a.fKind = 5 then (⟨d.fL, S33.zero⟩, 0)
  else (d, 0)

/-! ### Bounds -/

def okX (x : S39) : Prop := x.fHref.length ≤ 1000000 ∧ x.fUuid.length ≤ 1000000 ∧ bigC x.fShadow

def okA (a : S41) : Prop := okX a.fPairing ∧ bigD a.fDn

theorem cardI_pos (L : List S39) (h : Str) : (0 ≤ cardI L h ∧ ∃ hk : (cardI L h).toNat < L.length, L[(cardI L h).toNat].fHref = h) ∨ (cardI L h = -1 ∧ ∀ x ∈ L, ¬ x.fHref = h) := by
  unfold cardI
  rcases idxL_cases (fun x : S39 => decide (x.fHref = h)) L with ⟨h1, h2⟩ | ⟨k, hk, h1, h2⟩
  · exact .inr ⟨h1, fun x hx => by simpa using h2 x hx⟩
  · refine .inl ⟨by omega, ?_⟩
    have e : (idxL (fun x : S39 => decide (x.fHref = h)) L).toNat = k := by omega
    simp only [e]
    exact ⟨hk, by simpa using h2⟩

theorem entI_pos (L : List S39) (u : Str) : (0 ≤ entI L u ∧ ∃ hk : (entI L u).toNat < L.length, L[(entI L u).toNat].fUuid = u) ∨ (entI L u = -1 ∧ ∀ x ∈ L, ¬ x.fUuid = u) := by
  unfold entI
  rcases idxL_cases (fun x : S39 => decide (x.fUuid = u)) L with ⟨h1, h2⟩ | ⟨k, hk, h1, h2⟩
  · exact .inr ⟨h1, fun x hx => by simpa using h2 x hx⟩
  · refine .inl ⟨by omega, ?_⟩
    have e : (idxL (fun x : S39 => decide (x.fUuid = u)) L).toNat = k := by omega
    simp only [e]
    exact ⟨hk, by simpa using h2⟩

/-! ### The reference -/

theorem loop_cut (L : List S39) (x : S39) (hl : L.length ≤ 1000000) : loopO (fun (s : Int) => F38_b24 L x s) 0 = some ((cutL (·.fHref) x.fHref L : Nat) : Int) := by
  obtain ⟨r, h1, h2⟩ := loopO_for (step := fun (s : Int) => F38_b24 L x s) (Post := fun y => y = ((cutL (·.fHref) x.fHref L : Nat) : Int)) L.length (fun i => cutL (·.fHref) x.fHref L = i + cutL (·.fHref) x.fHref (L.drop i)) (by simp)
    (fun i hi hI => by
      have hw := wrap_nat (i := i) (by omega)
      simp only [F38_b24]
      rw [if_pos (by omega), gd_pos (by omega), Int.toNat_natCast, getD_some hi, hw]
      rw [List.drop_eq_getElem_cons hi] at hI
      simp only [cutL] at hI
      by_cases h : Op.bytesLess L[i].fHref x.fHref = true
      · rw [if_pos h]
        rw [if_pos (show lt8 L[i].fHref x.fHref from h)] at hI
        exact .inl ⟨rfl, by rw [hI]; omega⟩
      · rw [if_neg h]
        rw [if_neg (show ¬ lt8 L[i].fHref x.fHref from h)] at hI
        exact .inr ⟨_, rfl, by rw [hI]; simp⟩)
    (fun hI => by
      simp only [F38_b24]
      rw [if_neg (by omega)]
      refine ⟨_, rfl, ?_⟩
      rw [hI, List.drop_length]
      simp [cutL])
  rw [h1, h2]

theorem F38_eq (L : List S39) (x : S39) (hl : L.length ≤ 1000000) (hx : okX x) : F38 L x = some (addD L x) := by
  obtain ⟨h1, h2, h3⟩ := hx
  unfold F38 addD goodB
  rw [gd_pos h3.1, F71_eq _ h1, F72_eq _ h2, F17_eq _ h3, F15_eq _ _ hl, F16_eq _ _ hl, loop_cut L x hl]
  simp only [Option.bind_some]
  by_cases a1 : hrefS x.fHref = true
  · rw [if_neg (by simpa using a1)]
    by_cases a2 : uuidS x.fUuid = true
    · rw [if_neg (by simpa using a2)]
      by_cases a3 : checkS x.fShadow = true
      · rw [if_neg (by simpa using a3), if_pos (c := (hrefS x.fHref && uuidS x.fUuid && checkS x.fShadow) = true) (by simp [a1, a2, a3])]
        by_cases a4 : 0 ≤ cardI L x.fHref
        · rw [if_pos a4, if_pos a4]
        · rw [if_neg a4, if_neg a4]
          by_cases a5 : 0 ≤ entI L x.fUuid
          · rw [if_pos a5, if_pos a5]
          · rw [if_neg a5, if_neg a5]
            by_cases a6 : (64 : Int) ≤ L.length
            · rw [if_pos a6, if_pos a6]
            · rw [if_neg a6, if_neg a6]
              have hc := cutL_le (hf := fun x : S39 => x.fHref) x.fHref L
              unfold F38_k24
              rw [gd_pos (by omega), gd_pos (by omega), Int.toNat_natCast, gd_pos (by simp; omega), gd_pos (by simp; omega), gd_pos (by simp; omega)]
              simp [insL]
      · rw [if_pos a3, if_neg (c := (hrefS x.fHref && uuidS x.fUuid && checkS x.fShadow) = true) (by simp [a3])]
    · rw [if_pos a2, if_neg (c := (hrefS x.fHref && uuidS x.fUuid && checkS x.fShadow) = true) (by simp [a2])]
  · rw [if_pos a1, if_neg (c := (hrefS x.fHref && uuidS x.fUuid && checkS x.fShadow) = true) (by simp [a1])]

theorem F39_eq (L : List S39) (h : Str) (c : List (List Str)) (hl : L.length ≤ 1000000) (hL : ∀ x ∈ L, x.fShadow.length = 8) (hc : bigC c) : F39 L h c = some (setD L h c) := by
  unfold F39 setD
  rw [gd_pos hc.1, F15_eq _ _ hl, F17_eq _ hc]
  simp only [Option.bind_some]
  by_cases a1 : checkS c = true
  · rw [if_neg (by simpa using a1), if_pos a1]
    by_cases a2 : cardI L h < 0
    · rw [if_pos a2, if_pos a2]
    · rw [if_neg a2, if_neg a2]
      rcases cardI_pos L h with ⟨q, hk, _⟩ | ⟨q, _⟩
      · rw [gd_pos (by omega), gd_pos (by omega), gd_pos (by rw [getD_some hk]; exact hL _ (List.getElem_mem _))]
      · omega
  · rw [if_pos a1, if_neg a1]

theorem F40_eq' (L : List S39) (h : Str) (hl : L.length ≤ 1000000) : F40 L h = some (dropD L h) := by
  unfold F40 dropD
  rw [F15_eq _ _ hl]
  simp only [Option.bind_some]
  by_cases a2 : cardI L h < 0
  · rw [if_pos a2, if_pos a2]
  · rw [if_neg a2, if_neg a2]
    rcases cardI_pos L h with ⟨q, hk, _⟩ | ⟨q, _⟩
    · have hw : IntKind.i64.wrap (cardI L h + 1) = (((cardI L h).toNat + 1 : Nat) : Int) := by
        rw [wrap_i64 (by omega) (by omega)]; omega
      rw [hw, gd_pos (by omega), gd_pos (by omega), gd_pos (by omega), gd_pos (by omega), Int.toNat_natCast, gd_pos (by simp; omega), gd_pos (by simp; omega)]
    · omega

theorem F41_eq (y : S33) (h1 : y.fHref.length ≤ 1000000) (h2 : y.fUuid.length ≤ 1000000) (hd : bigD y.fDn) (hc : bigC y.fShadow) : F41 y = some (rightPr y) := by
  unfold F41 rightPr
  rw [gd_pos hc.1, F72_eq _ h2, F71_eq _ h1, F17_eq _ hc, F73_eq _ hd]
  simp only [Option.bind_some]
  have hz : ((y.fDn.length : Int) = 0) ↔ y.fDn = [] := by rw [← List.length_eq_zero_iff]; omega
  have hp : ((0 : Int) < y.fDn.length) ↔ ¬ y.fDn = [] := by rw [← List.length_eq_zero_iff]; omega
  by_cases a1 : uuidS y.fUuid = true
  · rw [if_pos a1, a1]
    by_cases a2 : y.fDn = []
    · rw [if_pos (hz.2 a2)]
      by_cases a3 : hrefS y.fHref = true
      · rw [if_pos a3]; simp [a2, a3]
      · rw [if_neg a3]; simp [a2, a3]
    · rw [if_neg (fun e => a2 (hz.1 e))]
      have hu : ¬ y.fUuid = [] := by
        intro e
        rw [e] at a1
        simp [uuidS] at a1
      rw [if_neg hu]
      simp [a2, hu]
  · rw [if_neg a1]
    by_cases a2 : y.fUuid = []
    · rw [if_pos a2]
      by_cases a3 : y.fDn = []
      · rw [if_neg (fun e => hp.1 e a3)]
        simp [a1, a3]
      · rw [if_pos (hp.2 a3)]
        by_cases a4 : rightD y.fDn = true
        · rw [if_pos a4]
          by_cases a5 : hrefS y.fHref = true
          · rw [if_pos a5]; simp [a1, a2, a3, a4, a5]
          · rw [if_neg a5]; simp [a5]
        · rw [if_neg a4]; simp [a1, a4]
    · rw [if_neg a2]; simp [a1, a2]

end Go.Idl

namespace Go.Idl

open Go

def okP (y : S33) : Prop := y.fHref.length ≤ 1000000 ∧ y.fUuid.length ≤ 1000000 ∧ bigD y.fDn ∧ bigC y.fShadow

structure Inv (m : Mp) (n : Np) (pr : Option S33) (d : S35) : Prop where
  tabs : Tabs (fun x : S39 => x.fHref) (fun x : S39 => x.fUuid) m n d.fL
  good : ∀ x ∈ d.fL, goodB x = true ∧ okX x
  len : d.fL.length ≤ 64
  pro : (pr = none ∧ d.fP = S33.zero) ∨ (pr = some d.fP ∧ rightPr d.fP = true ∧ okP d.fP)

theorem Inv.nil : Inv [] [] none ⟨[], S33.zero⟩ := ⟨Tabs.nil, by simp, by simp, .inl ⟨rfl, rfl⟩⟩

variable {m : Mp} {n : Np} {pr : Option S33} {d : S35}

theorem Inv.shape (I : Inv m n pr d) (h : Str) : ((mget m h).getD S39.zero).fShadow.length = 8 := by
  cases e : mget m h with
  | none => rfl
  | some x => exact (I.good x ((I.tabs.mg h x).1 e).1).2.2.2.1

theorem Inv.big (I : Inv m n pr d) (h : Str) : bigC ((mget m h).getD S39.zero).fShadow := by
  cases e : mget m h with
  | none => exact ⟨rfl, by simp [S39.zero]⟩
  | some x => exact (I.good x ((I.tabs.mg h x).1 e).1).2.2.2

theorem Inv.card (I : Inv m n pr d) (h : Str) : (mget m h).isSome = decide (0 ≤ cardI d.fL h) := by
  rcases cardI_pos d.fL h with ⟨q, hk, e⟩ | ⟨q, e⟩
  · rw [decide_eq_true q]
    have := I.tabs.get (List.getElem_mem hk)
    rw [e] at this
    rw [this]; rfl
  · rw [q]
    rw [(I.tabs.nothing (h := h)).2 e]; rfl

theorem Inv.ent (I : Inv m n pr d) (u : Str) : (mget n u).isSome = decide (0 ≤ entI d.fL u) := by
  rcases entI_pos d.fL u with ⟨q, hk, e⟩ | ⟨q, e⟩
  · rw [decide_eq_true q]
    have := I.tabs.getU (List.getElem_mem hk)
    rw [e] at this
    rw [this]; rfl
  · rw [q]
    rw [(I.tabs.nothingU (u := u)).2 e]; rfl

theorem Inv.at_ (I : Inv m n pr d) {h : Str} (q : 0 ≤ cardI d.fL h) : ∃ hk : (cardI d.fL h).toNat < d.fL.length, mget m h = some d.fL[(cardI d.fL h).toNat] ∧ d.fL[(cardI d.fL h).toNat].fHref = h := by
  rcases cardI_pos d.fL h with ⟨_, hk, e⟩ | ⟨q', _⟩
  · have := I.tabs.get (List.getElem_mem hk)
    rw [e] at this
    exact ⟨hk, this, e⟩
  · omega

/-! ### What is asked -/

theorem F14_eq (I : Inv m n pr d) : F14 m n pr = some d.fL := by
  have hl := I.len
  have hm := I.tabs.len
  have hk : ∀ p, p ∈ m → p.1.length ≤ 1000000 := fun p hp => by
    have : p.1 ∈ d.fL.map fun x : S39 => x.fHref := (I.tabs.keys p.1).1 (List.mem_map_of_mem hp)
    obtain ⟨x, hx, e⟩ := List.mem_map.1 this
    rw [← e]
    exact (I.good x hx).2.1
  unfold F14 F42 F43
  rw [gd_pos ⟨by omega, hk⟩, I.tabs.sort]
  simp only [Option.bind_some]
  obtain ⟨r, h1, h2⟩ := loopO_for3 (step := fun (s : Int × List S39) => F14_b9 m (d.fL.map fun x : S39 => x.fHref) s.1 s.2) (Post := fun y => y = d.fL) d.fL.length (fun i a => a = d.fL.take i) (a := []) (by simp)
    (fun i a hi hI => by
      have hw := wrap_nat (i := i) (by omega)
      have hi' : i < (d.fL.map fun x : S39 => x.fHref).length := by simpa using hi
      have hx := List.getElem_mem hi
      simp only [F14_b9]
      rw [if_pos (by simp; omega), gd_pos (by simp; omega), Int.toNat_natCast, getD_some hi', List.getElem_map, I.tabs.get hx]
      simp only [Option.getD_some]
      rw [F45_big _ (I.good _ hx).2.2.2]
      simp only [Option.bind_some]
      have hal : a.length ≤ 64 := by rw [hI]; simp; omega
      rw [gd_pos (I.good _ hx).2.2.2.1, gd_pos (by simp; omega), hw]
      exact .inl ⟨_, rfl, by rw [hI, List.take_succ_eq_append_getElem hi]⟩)
    (fun a hI => by
      simp only [F14_b9]
      rw [if_neg (by simp)]
      exact ⟨_, rfl, by rw [hI, List.take_of_length_le (Nat.le_refl _)]⟩)
  rw [h1, h2]
  rfl

theorem F52_eq (y : S33) (h : okP y) : F52 y = some y := by
  unfold F52 F78 F58
  rw [gd_pos h.2.2.2.1, gd_pos h.2.2.1.1, gd_pos h.2.2.2]
  simp only [Option.bind_some]
  rw [gd_pos h.2.2.2.1]

theorem href_ne {s : Str} (h : hrefS s = true) : ¬ s = [] := by
  rintro rfl
  simp [hrefS, rootL] at h

theorem Inv.prs (I : Inv m n pr d) : pr.isSome = decide (¬ d.fP.fHref = []) := by
  rcases I.pro with ⟨e1, e2⟩ | ⟨e1, e2, e3⟩
  · rw [e1, e2]; rfl
  · rw [e1]
    have : hrefS d.fP.fHref = true := by
      simp only [rightPr, Bool.and_eq_true] at e2
      exact e2.2.1
    simp [href_ne this]

theorem Inv.prbig (I : Inv m n pr d) : okP d.fP := by
  rcases I.pro with ⟨_, e2⟩ | ⟨_, _, e3⟩
  · rw [e2]; exact ⟨by simp [S33.zero], by simp [S33.zero], ⟨by simp [S33.zero], by simp [S33.zero]⟩, ⟨rfl, by simp [S33.zero]⟩⟩
  · exact e3

theorem F26_eq (I : Inv m n pr d) : F26 m n pr = some (d.fP, pr.isSome) := by
  unfold F26 F42
  simp only [Option.bind_some]
  rcases I.pro with ⟨e1, e2⟩ | ⟨e1, e2, e3⟩
  · rw [e1, e2]
    rfl
  · rw [e1]
    simp only [Option.isNone_some, Bool.false_eq_true, if_false, Option.isSome_some, Option.getD_some]
    rw [gd_pos trivial, gd_pos e3.2.2.2.1, F52_eq _ e3]
    simp only [Option.bind_some]
    rw [gd_pos e3.2.2.2.1]

theorem F34_eq (I : Inv m n pr d) : F34 m n pr = some (d.fL.length : Int) := by
  unfold F34 F42
  simp only [Option.bind_some]
  rw [I.tabs.len]

theorem F21_eq (I : Inv m n pr d) (h : Str) : F21 m n pr h = some ((mget m h).getD S39.zero, (mget m h).isSome) := by
  unfold F21 F42
  simp only [Option.bind_some]
  rw [gd_pos (I.shape h), F45_big _ (I.big h)]
  simp only [Option.bind_some]
  rw [gd_pos (I.shape h)]

theorem F18_eq (I : Inv m n pr d) (u : Str) : F18 m n pr u = some ((mget m ((mget n u).getD [])).getD S39.zero, (mget m ((mget n u).getD [])).isSome) := by
  unfold F18 F42
  simp only [Option.bind_some]
  rw [F21_eq I]
  simp only [Option.bind_some]
  rw [gd_pos (I.shape _)]

/-! ### What changes -/

theorem F29_inv (I : Inv m n pr d) (x : S39) (hx : okX x) : ∃ m' n', F29 m n pr x = some ((addD d.fL x).2, m', n') ∧ Inv m' n' pr ⟨(addD d.fL x).1, d.fP⟩ := by
  have hl := I.len
  have hm := I.tabs.len
  unfold F29 F42 F57 F56 addD goodB
  rw [gd_pos hx.2.2.1, F55_eq _ hx.1, F53_eq _ hx.2.1, gd_pos hx.2.2, gd_pos (I.shape _), I.card, I.ent, F45_big _ hx.2.2]
  simp only [Option.bind_some]
  by_cases a1 : hrefS x.fHref = true
  · rw [if_neg (c := ¬ hrefS x.fHref = true) (by simpa using a1)]
    by_cases a2 : uuidS x.fUuid = true
    · rw [if_neg (c := ¬ uuidS x.fUuid = true) (by simpa using a2)]
      by_cases a3 : checkS x.fShadow = true
      · rw [if_pos (c := checkS x.fShadow = true) a3, if_neg (c := ¬ (0 : Int) = 0) (by simp), if_pos (c := (hrefS x.fHref && uuidS x.fUuid && checkS x.fShadow) = true) (by simp [a1, a2, a3])]
        by_cases a4 : 0 ≤ cardI d.fL x.fHref
        · rw [if_pos a4, decide_eq_true a4]
          exact ⟨m, n, by simp, I⟩
        · rw [if_neg a4, decide_eq_false a4]
          by_cases a5 : 0 ≤ entI d.fL x.fUuid
          · rw [if_pos a5, decide_eq_true a5]
            exact ⟨m, n, by simp, I⟩
          · rw [if_neg a5, decide_eq_false a5]
            by_cases a6 : (64 : Int) ≤ d.fL.length
            · rw [if_pos a6]
              exact ⟨m, n, by simp [hm, a6], I⟩
            · rw [if_neg a6]
              refine ⟨mset m x.fHref x, mset n x.fUuid x.fHref, by simp [F49, gd_pos hx.2.2.1, hm]; omega, ?_⟩
              have q1 : ∀ y ∈ d.fL, ¬ y.fHref = x.fHref := by
                rcases cardI_pos d.fL x.fHref with ⟨q, _⟩ | ⟨_, q⟩
                · exact absurd q a4
                · exact q
              have q2 : ∀ y ∈ d.fL, ¬ y.fUuid = x.fUuid := by
                rcases entI_pos d.fL x.fUuid with ⟨q, _⟩ | ⟨_, q⟩
                · exact absurd q a5
                · exact q
              refine ⟨I.tabs.add q1 q2, fun y hy => ?_, by rw [insL_len]; omega, I.pro⟩
              rcases insL_mem.1 hy with e | e
              · subst e
                exact ⟨by simp [goodB, a1, a2, a3], hx⟩
              · exact I.good y e
      · rw [if_neg a3, if_pos (c := ¬ (2 : Int) = 0) (by simp), if_neg (c := (hrefS x.fHref && uuidS x.fUuid && checkS x.fShadow) = true) (by simp [a3])]
        exact ⟨m, n, rfl, I⟩
    · rw [if_pos a2, if_neg (c := (hrefS x.fHref && uuidS x.fUuid && checkS x.fShadow) = true) (by simp [a2])]
      exact ⟨m, n, rfl, I⟩
  · rw [if_pos a1, if_neg (c := (hrefS x.fHref && uuidS x.fUuid && checkS x.fShadow) = true) (by simp [a1])]
    exact ⟨m, n, rfl, I⟩

theorem F30_inv (I : Inv m n pr d) (h : Str) (c : List (List Str)) (hc : bigC c) : ∃ m' n', F30 m n pr h c = some ((setD d.fL h c).2, m', n') ∧ Inv m' n' pr ⟨(setD d.fL h c).1, d.fP⟩ := by
  unfold F30 F42 F56 F58 setD
  rw [gd_pos hc.1, gd_pos hc, gd_pos (I.shape _), gd_pos hc, I.card]
  simp only [Option.bind_some]
  by_cases a1 : checkS c = true
  · rw [if_pos (c := checkS c = true) a1, if_neg (c := ¬ (0 : Int) = 0) (by simp), if_pos a1]
    by_cases a2 : 0 ≤ cardI d.fL h
    · rw [decide_eq_true a2, if_neg (by simp), if_neg (by omega)]
      obtain ⟨hk, e1, e2⟩ := I.at_ a2
      have hg := I.good _ (List.getElem_mem hk)
      rw [e1, getD_some hk]
      simp only [Option.getD_some]
      rw [gd_pos hc.1]
      unfold F49
      rw [gd_pos hc.1]
      refine ⟨_, _, rfl, ?_⟩
      refine ⟨I.tabs.set hk rfl rfl, fun y hy => ?_, by simp; exact I.len, I.pro⟩
      rcases List.mem_or_eq_of_mem_set hy with q | q
      · exact I.good y q
      · subst q
        refine ⟨?_, hg.2.1, hg.2.2.1, hc⟩
        have := hg.1
        simp only [goodB, Bool.and_eq_true] at this ⊢
        exact ⟨this.1, a1⟩
    · rw [decide_eq_false a2, if_pos (by simp), if_pos (by omega)]
      exact ⟨m, n, rfl, I⟩
  · rw [if_neg a1, if_pos (c := ¬ (2 : Int) = 0) (by simp), if_neg a1]
    exact ⟨m, n, rfl, I⟩

theorem F32_inv (I : Inv m n pr d) (h : Str) : ∃ m' n', F32 m n pr h = some ((dropD d.fL h).2, m', n') ∧ Inv m' n' pr ⟨(dropD d.fL h).1, d.fP⟩ := by
  unfold F32 F42 dropD F59
  rw [gd_pos (I.shape _), I.card]
  simp only [Option.bind_some]
  by_cases a2 : 0 ≤ cardI d.fL h
  · rw [decide_eq_true a2, if_neg (by simp), if_neg (by omega)]
    obtain ⟨hk, e1, e2⟩ := I.at_ a2
    rw [e1]
    simp only [Option.getD_some]
    refine ⟨_, _, rfl, ?_⟩
    have ht := I.tabs.drop hk
    rw [e2] at ht
    refine ⟨ht, fun y hy => ?_, by have := I.len; simp; omega, I.pro⟩
    rcases List.mem_append.1 hy with q | q
    · exact I.good y (List.mem_of_mem_take q)
    · exact I.good y (List.mem_of_mem_drop q)
  · rw [decide_eq_false a2, if_pos (by simp), if_pos (by omega)]
    exact ⟨m, n, rfl, I⟩

theorem F27_inv (I : Inv m n pr d) (y : S33) (hy : okP y) : ∃ pr', F27 m n pr y = some (if rightPr y = true then 0 else 2, pr') ∧ Inv m n pr' ⟨d.fL, if rightPr y = true then y else d.fP⟩ := by
  have key : F27 m n pr y = some (if rightPr y = true then (0, some y) else (2, pr)) := by
    have hz : ((y.fDn.length : Int) = 0) ↔ y.fDn = [] := by rw [← List.length_eq_zero_iff]; omega
    have hp : ((0 : Int) < y.fDn.length) ↔ ¬ y.fDn = [] := by rw [← List.length_eq_zero_iff]; omega
    unfold F27 F42 F56 rightPr
    rw [gd_pos hy.2.2.2.1, F53_eq _ hy.2.1, F55_eq _ hy.1, gd_pos hy.2.2.2, F54_eq _ hy.2.2.1, F52_eq _ hy]
    simp only [Option.bind_some]
    have hs : y.fShadow.length = 8 := hy.2.2.2.1
    have hgd : ∀ {α : Type} (z : Option α), gd (y.fShadow.length = 8) z = z := fun z => gd_pos hs
    simp only [hgd]
    by_cases a1 : uuidS y.fUuid = true
    · have hu : ¬ y.fUuid = [] := by
        intro e
        rw [e] at a1
        simp [uuidS] at a1
      by_cases a2 : y.fDn = []
      · by_cases a3 : hrefS y.fHref = true <;> by_cases a4 : checkS y.fShadow = true <;> simp [a1, a2, a3, a4, hu]
      · have q1 : ¬ ((y.fDn.length : Int) = 0) := fun e => a2 (hz.1 e)
        simp [a1, a2, q1, hu]
    · by_cases a2 : y.fUuid = []
      · by_cases a3 : y.fDn = []
        · have hu0 : uuidS [] = false := rfl
          simp [a2, a3, hu0]
        · have hu0 : uuidS [] = false := rfl
          have q1 := hp.2 a3
          by_cases b1 : rightD y.fDn = true <;> by_cases b2 : hrefS y.fHref = true <;> by_cases b3 : checkS y.fShadow = true <;> simp [a2, a3, q1, b1, b2, b3, hu0]
      · simp [a1, a2]
  rw [key]
  by_cases h : rightPr y = true
  · exact ⟨some y, by simp [h], ⟨I.tabs, I.good, I.len, .inr (by simp only [h, if_true]; exact ⟨trivial, trivial, hy⟩)⟩⟩
  · exact ⟨pr, by simp [h], by simp only [h]; exact I⟩

end Go.Idl

namespace Go.Idl

open Go

variable {m : Mp} {n : Np} {pr : Option S33} {d : S35}

/-! ### A step -/

theorem zeroP_eq : (⟨[], [], [], [[], [], [], [], [], [], [], []]⟩ : S33) = S33.zero := rfl

theorem F13_inv (I : Inv m n pr d) (a : S41) (ha : okA a) : ∃ m' n' pr', Inv m' n' pr' (stepD d a).1 ∧ ∀ d0 : S35, d0.fL.length ≤ 1000 → (∀ x ∈ d0.fL, x.fShadow.length = 8) → d0.fP.fShadow.length = 8 →
    F13 m n pr d0 a = some ((stepD d0 a).1, decide ((stepD d a).2 = (stepD d0 a).2), pr', m', n') := by
  have hp : okP (proA a) := ⟨ha.1.1, ha.1.2.1, ha.2, ha.1.2.2⟩
  have h8 : a.fPairing.fShadow.length = 8 := ha.1.2.2.1
  by_cases k1 : a.fKind = 1
  · obtain ⟨m', n', e, I'⟩ := F29_inv I a.fPairing ha.1
    refine ⟨m', n', pr, by simpa [stepD, k1] using I', fun d0 hl hx hq => ?_⟩
    unfold F13
    rw [gd_pos hq, gd_pos h8, if_pos k1, F38_eq _ _ (by omega) ha.1, e]
    simp [stepD, k1]
  by_cases k2 : a.fKind = 2
  · obtain ⟨m', n', e, I'⟩ := F30_inv I a.fPairing.fHref a.fPairing.fShadow ha.1.2.2
    refine ⟨m', n', pr, by simpa [stepD, k2] using I', fun d0 hl hx hq => ?_⟩
    unfold F13
    rw [gd_pos hq, gd_pos h8, if_neg k1, if_pos k2, F39_eq _ _ _ (by omega) hx ha.1.2.2, e]
    simp [stepD, k2]
  by_cases k3 : a.fKind = 3
  · obtain ⟨m', n', e, I'⟩ := F32_inv I a.fPairing.fHref
    refine ⟨m', n', pr, by simpa [stepD, k3] using I', fun d0 hl hx hq => ?_⟩
    unfold F13
    rw [gd_pos hq, gd_pos h8, if_neg k1, if_neg k2, if_pos k3, F40_eq' _ _ (by omega), e]
    simp [stepD, k3]
  by_cases k4 : a.fKind = 4
  · obtain ⟨pr', e, I'⟩ := F27_inv I (proA a) hp
    refine ⟨m, n, pr', ?_, fun d0 hl hx hq => ?_⟩
    · by_cases hr : rightPr (proA a) = true
      · simpa [stepD, k4, hr] using I'
      · simpa [stepD, k4, hr] using I'
    · have e41 : F41 (proA a) = some (rightPr (proA a)) := F41_eq _ hp.1 hp.2.1 hp.2.2.1 hp.2.2.2
      unfold proA at e e41
      unfold F13
      rw [gd_pos hq, gd_pos h8, if_neg k1, if_neg k2, if_neg k3, if_pos k4, e, e41]
      simp only [Option.bind_some]
      by_cases hr : rightPr (proA a) = true
      · have hr' := hr
        unfold proA at hr'
        simp [stepD, k4, hr, hr', proA]
      · have hr' := hr
        unfold proA at hr'
        simp [stepD, k4, hr, hr']
  by_cases k5 : a.fKind = 5
  · refine ⟨m, n, none, ?_, fun d0 hl hx hq => ?_⟩
    · have : Inv m n none ⟨d.fL, S33.zero⟩ := ⟨I.tabs, I.good, I.len, .inl ⟨rfl, rfl⟩⟩
      simpa [stepD, k5] using this
    · unfold F13
      rw [gd_pos hq, gd_pos h8, if_neg k1, if_neg k2, if_neg k3, if_neg k4, if_pos k5]
      simp [F28, F42, stepD, k5, zeroP_eq]
  · refine ⟨m, n, pr, by simpa [stepD, k1, k2, k3, k4, k5] using I, fun d0 hl hx hq => ?_⟩
    unfold F13
    rw [gd_pos hq, gd_pos h8, if_neg k1, if_neg k2, if_neg k3, if_neg k4, if_neg k5]
    simp [stepD, k1, k2, k3, k4, k5]

theorem Inv.sh (I : Inv m n pr d) : ∀ x ∈ d.fL, x.fShadow.length = 8 := fun x hx => (I.good x hx).2.2.2.1

theorem Inv.bigs (I : Inv m n pr d) : ∀ x ∈ d.fL, bigC x.fShadow := fun x hx => (I.good x hx).2.2.2

theorem Inv.psh (I : Inv m n pr d) : d.fP.fShadow.length = 8 := I.prbig.2.2.2.1

/-! ### The same as the document's -/

theorem rangeO_inv {σ ρ α : Type} {step : α → σ → Option (σ ⊕ ρ)} (J : Nat → σ → Prop) : ∀ (l : List α) (k : Nat) (s : σ), J k s → (∀ (i : Nat) (h : i < l.length) (s : σ), J (k + i) s → ∃ s', step l[i] s = some (.inl s') ∧ J (k + i + 1) s') → ∃ s', rangeO step l s = some (.inl s') ∧ J (k + l.length) s'
  | [], k, s, h0, _ => ⟨s, rfl, h0⟩
  | a :: l, k, s, h0, h => by
    obtain ⟨s1, h1, h2⟩ := h 0 (by simp) s (by simpa using h0)
    obtain ⟨s2, h3, h4⟩ := rangeO_inv J l (k + 1) s1 (by simpa using h2) fun i hi s hs => by
      obtain ⟨s', q1, q2⟩ := h (i + 1) (by simpa using hi) s (by rw [show k + (i + 1) = k + 1 + i by omega]; exact hs)
      exact ⟨s', by simpa using q1, by rw [show k + 1 + i + 1 = k + (i + 1) + 1 by omega]; exact q2⟩
    have h1' : step a s = some (.inl s1) := by simpa using h1
    refine ⟨s2, ?_, by rw [List.length_cons, show k + (l.length + 1) = k + 1 + l.length by omega]; exact h4⟩
    rw [rangeO_cons, h1']
    simpa using h3

theorem enumI_el {α : Type} {l : List α} {i : Nat} (h : i < (enumI l).length) : (enumI l)[i] = ((i : Int), l[i]'(by rwa [enumI_length] at h)) := by
  have h' : i < l.length := by rwa [enumI_length] at h
  have := enumI_get h'
  rw [List.getElem?_eq_getElem h] at this
  exact Option.some.inj this

theorem F20_eq (I : Inv m n pr d) : F20 m n pr d = some true := by
  have hl := I.len
  unfold F20
  rw [gd_pos I.psh, F14_eq I, F26_eq I, F34_eq I]
  simp only [Option.bind_some]
  rw [gd_pos I.psh, if_neg (by rw [I.prs]; simp), F25_eq _ _ I.psh I.psh I.prbig.2.2.1.1]
  simp only [Option.bind_some, decide_true]
  rw [if_neg (by simp), if_neg (by simp), gd_pos I.bigs]
  obtain ⟨s', h1, h2⟩ := rangeO_inv (step := fun (el26 : Int × S39) (s : Bool × Int) => F20_b23 d el26 s.1 s.2) (fun k s => s.2 = (k : Int)) (enumI d.fL) 0 (false, 0) rfl
    (fun i hi s hs => by
      have hi' : i < d.fL.length := by rwa [enumI_length] at hi
      have hw := wrap_nat (i := i) (by omega)
      have hx := I.sh _ (List.getElem_mem hi')
      rw [Nat.zero_add] at hs
      rw [enumI_el hi]
      simp only [F20_b23, hs]
      rw [gd_pos hx, if_neg (by simp), if_neg (by omega), gd_pos (by omega), Int.toNat_natCast, getD_some hi', gd_pos hx, F19_eq _ _ hx hx]
      simp only [Option.bind_some, decide_true]
      rw [if_neg (by simp), hw]
      exact ⟨_, rfl, by simp⟩)
  unfold rangeR
  rw [h1]
  simp only [Option.map_some, Sum.elim_inl, Option.bind_some, F20_k23]
  rw [h2, enumI_length]
  simp

/-! ### No more than is done here -/

def memA (a : S41) : Prop := a.fPairing.fShadow.length = 8 ∧ a.fPairing.fHref.length ≤ 1000000000000000 ∧ a.fPairing.fUuid.length ≤ 1000000000000000 ∧ ∀ x ∈ a.fDn, x.fType.length ≤ 1000000000000000 ∧ x.fValue.length ≤ 1000000000000000

def dnA (x : S89) : Bool := decide (x.fType.length + x.fValue.length ≤ 400)

def fieldA (l : List Str) : Bool := decide (l.length ≤ 20) && l.all fun s => decide (s.length ≤ 300)

def fewA (a : S41) : Bool := decide (a.fPairing.fHref.length + a.fPairing.fUuid.length ≤ 400) && decide (a.fDn.length ≤ 20) && a.fDn.all dnA && a.fPairing.fShadow.all fieldA

theorem fewA_ok {a : S41} (h : fewA a = true) (h8 : a.fPairing.fShadow.length = 8) : okA a := by
  simp only [fewA, Bool.and_eq_true, decide_eq_true_eq, List.all_eq_true, dnA, fieldA] at h
  obtain ⟨⟨⟨h1, h2⟩, h3⟩, h4⟩ := h
  refine ⟨⟨by omega, by omega, h8, fun l hl => ⟨by have := (h4 l hl).1; omega, fun s hs => by have := (h4 l hl).2 s hs; omega⟩⟩, by omega, fun x hx => by have := h3 x hx; omega⟩

theorem F10_eq (l : List S41) (most : Int) (hm : most ≤ 1000) (h : ∀ a ∈ l, memA a) : F10 l most = some (decide ((l.length : Int) ≤ most) && l.all fewA) := by
  unfold F10
  by_cases h0 : most < (l.length : Int)
  · rw [if_pos h0, decide_eq_false (by omega)]; rfl
  · rw [if_neg h0, decide_eq_true (by omega), loopO_all l fewA (by omega)
      (fun i hi => by
        obtain ⟨h8, m1, m2, m3⟩ := h _ (List.getElem_mem hi)
        have hg : l.getD i S41.zero = l[i] := getD_some hi _
        have hw : IntKind.i64.wrap ((l[i].fPairing.fHref.length : Int) + (l[i].fPairing.fUuid.length : Int)) = (l[i].fPairing.fHref.length : Int) + (l[i].fPairing.fUuid.length : Int) := wrap_i64 (by omega) (by omega)
        simp only [F10_b8, Int.toNat_natCast, hg]
        rw [if_pos (by omega), gd_pos (by omega), gd_pos h8, hw]
        unfold fewA
        by_cases a1 : (400 : Int) < (l[i].fPairing.fHref.length : Int) + (l[i].fPairing.fUuid.length : Int)
        · rw [if_pos a1, decide_eq_false (p := _ + _ ≤ 400) (by omega)]; simp
        · rw [if_neg a1, decide_eq_true (p := _ + _ ≤ 400) (by omega)]
          by_cases a2 : (20 : Int) < l[i].fDn.length
          · rw [if_pos a2, decide_eq_false (p := l[i].fDn.length ≤ 20) (by omega)]; simp
          · rw [if_neg a2, decide_eq_true (p := l[i].fDn.length ≤ 20) (by omega), loopO_all l[i].fDn dnA (by omega)
              (fun j hj => by
                have hgj : l[i].fDn.getD j S89.zero = l[i].fDn[j] := getD_some hj _
                obtain ⟨q1, q2⟩ := m3 _ (List.getElem_mem hj)
                have hwj : IntKind.i64.wrap ((l[i].fDn[j].fType.length : Int) + (l[i].fDn[j].fValue.length : Int)) = (l[i].fDn[j].fType.length : Int) + (l[i].fDn[j].fValue.length : Int) := wrap_i64 (by omega) (by omega)
                simp only [F10_b25, Int.toNat_natCast, hg, hgj]
                rw [if_pos (by omega), gd_pos (by omega), hwj]
                unfold dnA
                by_cases b1 : (400 : Int) < (l[i].fDn[j].fType.length : Int) + (l[i].fDn[j].fValue.length : Int)
                · rw [if_pos b1, decide_eq_false (by omega)]; simp
                · rw [if_neg b1, decide_eq_true (by omega)]; simp)
              (by simp only [F10_b25, Int.toNat_natCast, hg]; rw [if_neg (by omega)])]
            by_cases a3 : l[i].fDn.all dnA = true
            · rw [if_pos a3, a3]
              simp only [Option.bind_some, Sum.elim_inl, F10_k25]
              rw [loopO_all l[i].fPairing.fShadow fieldA (by omega)
                (fun j hj => by
                  have hgj : l[i].fPairing.fShadow.getD j [] = l[i].fPairing.fShadow[j] := getD_some hj _
                  simp only [F10_b28, Int.toNat_natCast, hg, hgj]
                  rw [if_pos (by omega), gd_pos (by omega)]
                  unfold fieldA
                  generalize hv : l[i].fPairing.fShadow[j] = v at *
                  by_cases b1 : (20 : Int) < v.length
                  · rw [if_pos b1, decide_eq_false (p := v.length ≤ 20) (by omega)]; simp
                  · rw [if_neg b1, decide_eq_true (p := v.length ≤ 20) (by omega), loopO_all v (fun s => decide (s.length ≤ 300)) (by omega)
                      (fun q hq => by
                        have hgq : v.getD q [] = v[q] := getD_some hq _
                        simp only [F10_b40, Int.toNat_natCast, hg, hgj, hgq]
                        rw [if_pos (by omega), gd_pos (by omega)]
                        by_cases c1 : (300 : Int) < v[q].length
                        · rw [if_pos c1, decide_eq_false (by omega)]; simp
                        · rw [if_neg c1, decide_eq_true (by omega)]; simp)
                      (by simp only [F10_b40, Int.toNat_natCast, hg, hgj]; rw [if_neg (by omega)])]
                    by_cases b2 : (v.all fun s => decide (s.length ≤ 300)) = true
                    · simp [b2, F10_k40]
                    · rw [if_neg b2, Bool.eq_false_iff.2 b2]; simp)
                (by simp only [F10_b28]; rw [if_neg (by omega)])]
              by_cases a4 : l[i].fPairing.fShadow.all fieldA = true
              · simp [a4, F10_k28]
              · rw [if_neg a4, Bool.eq_false_iff.2 a4]; simp
            · rw [if_neg a3, Bool.eq_false_iff.2 a3]; simp)
      (by simp only [F10_b8]; rw [if_neg (by omega)])]
    by_cases h1 : l.all fewA = true
    · simp [h1, F10_k8]
    · rw [if_neg h1, Bool.eq_false_iff.2 h1]; simp

end Go.Idl

namespace Go.Idl

set_option maxHeartbeats 8000000

set_option pp.deepTerms false

set_option maxRecDepth 60000

open Go Go.Proofs.Tryz

/-! cardcase/cardcaselaw20.PairsOnce -/

end Go.Idl

namespace Go.Idl

set_option maxHeartbeats 8000000

set_option pp.deepTerms false

set_option maxRecDepth 60000

open Go Go.Proofs.Tryz

/-! cardcase/cardcaselaw20.PairsPlay -/

/-! slices.Equal[[]cardcase/api.Pair,cardcase/api.Pair] -/

noncomputable def F50_k8  : Option Bool :=
 some true

noncomputable def F50_b8 (a0 : List S78) (a1 : List S78) (v9 : Int) : Option (Int ⊕ (Unit ⊕ Bool)) :=
 if v9 < (a0.length : Int) then (gd (0 ≤ v9 ∧ v9 < a0.length) (gd (0 ≤ v9 ∧ v9 < a1.length) (if ¬ (((a0.getD v9.toNat S78.zero).fKey) = ((a1.getD v9.toNat S78.zero).fKey) ∧ ((a0.getD v9.toNat S78.zero).fValue) = ((a1.getD v9.toNat S78.zero).fValue)) then (some (.inr (.inr false))) else (some (.inl (IntKind.i64.wrap (v9 + 1))))))) else (some (.inr (.inl ())))

noncomputable def F50 (a0 : List S78) (a1 : List S78) : Option Bool :=
 if ¬ (a0.length : Int) = (a1.length : Int) then (some false) else ((loopO (fun (s : Int) => F50_b8 a0 a1 s) 0).bind fun y => Sum.elim (fun (e : Unit) => F50_k8) (fun (q : Bool) => some q) y)

theorem F50_ok {H : IHeap} {K : IEnd → IHeap → Prop} (a0 : List S78) (a1 : List S78) {r : Bool} (h : F50 a0 a1 = some r) (hK : K (.ret (.v (.bool r))) H) : ICalls prog 50 [.sl 2 (a0.map fun x => [.v (str x.fKey), .v (str x.fValue)]), .sl 2 (a1.map fun x => [.v (str x.fKey), .v (str x.fValue)])] H K := by
 refine ICalls_iwp (N := 26) func50 (by kernel_rfl) rfl (by kernel_rfl) (by kernel_rfl) fun cb hcb hw hbd hnb => ?_
 clear hbd hnb
 subst hcb
 unfold F50 at h
 refine wG ?_
 refine IWp_seqF fun cb hc2 => ?_
 refine wG ?_
 refine IWp_cond_i h eA rfl ?_ ?_
 ·intro c4 h
  refine wG ?_
  refine vO ?_
  obtain rfl := Option.some.inj h
  refine sG ?_
  exact retA (.refl hw) hK
 intro c4 h
 simp (disch := omega) at c4
 refine vO ?_
 subst hc2
 refine IWp_seqF fun cb hc6 => ?_
 refine wG ?_
 obtain ⟨y8, hl8q, hk8⟩ := bind_some' h
 refine IWp_tailC (fun tm' H' => .inl () = y8 ∧ H = H') ?_ fun cb hc8 => ?_
 ·rintro tm8e H8e ⟨rfl, rfl⟩
  have h : F50_k8 = some r := hk8
  unfold F50_k8 at h
  simp -implicitDefEqProofs only [go_sem]
  subst hc6
  refine wG ?_
  refine vO ?_
  obtain rfl := Option.some.inj h
  refine sG ?_
  exact retA (.refl hw) hK
 refine IWp_block ?_
 refine IWp_loopF (fun (s : Int) tm' H' => H = H' ∧ tm' 0 = .sl 2 (a0.map fun x => [.v (str x.fKey), .v (str x.fValue)]) ∧ tm' 1 = .sl 2 (a1.map fun x => [.v (str x.fKey), .v (str x.fValue)]) ∧ tm' 12 = .v (.int .i64 (a0.length : Int)) ∧ tm' 13 = .v (.int .i64 s)) hl8q ?_ ?_
 ·exact sm
 rintro I8 hI8 v9 x8 tm8 H8 ⟨rfl, t0_8, t1_8, t12_8, t13_8⟩ h hret8
 replace h : F50_b8 a0 a1 v9 = some x8 := h
 unfold F50_b8 at h
 refine wF (nd t12_8 t13_8) ?_
 refine IWp_seqF fun cb hc12 => ?_
 refine IWp_cond_i h eA rfl ?_ ?_
 ·intro c13 h
  refine vO ?_
  subst hc12
  refine IWp_seqF fun cb hc14 => ?_
  refine IWp_block ?_
  refine wF t13_8 ?_
  refine IWp_seqF fun cb hc16 => ?_
  refine IWp_drawP [] [0, 1, 2, 3, 4, 5, 6, 7, 8] (by kernel_rfl) (by kernel_rfl) (fun _ _ _ _ h => h) ?_
  obtain ⟨g17, h⟩ := gd_some.1 h
  obtain ⟨g18, h⟩ := gd_some.1 h
  refine sF (nd t0_8 t1_8) ?_
  subst hc16
  refine IWp_cond_i h eA rfl ?_ ?_
  ·intro c19 h
   simp (disch := omega) at c19
   refine wG ?_
   refine vO ?_
   obtain rfl := Option.some.inj h
   obtain rfl := hret8 _ rfl
   replace h : some false = some r := hk8
   obtain rfl := Option.some.inj h
   refine sG ?_
   exact retA (.refl hw) hK
  intro c19 h
  simp (disch := omega) at c19
  refine vO ?_
  subst hc14
  refine vF t13_8 ?_
  obtain rfl := Option.some.inj h
  refine loopN_mk hI8 (IntKind.i64.wrap (v9 + 1)) ?_
  exact smF (nd t0_8 (nd t1_8 t12_8))
 intro c13 h
 simp (disch := omega) at c13
 refine vO ?_
 obtain rfl := Option.some.inj h
 have hy8 := hret8 _ rfl
 refine hc8 _ _ ?_
 refine .same ⟨hy8, rfl⟩

/-! cardcase/pairs.Same -/

noncomputable def F23 (a0_0_0 : List (List UInt8 × S39)) (a0_0_1 : List (List UInt8 × (List UInt8))) (a0_1 : Option S33) (a1_0_0 : List (List UInt8 × S39)) (a1_0_1 : List (List UInt8 × (List UInt8))) (a1_1 : Option S33) : Option Bool :=
 (F42 a0_0_0 a0_0_1 a0_1).bind fun (x4 : Bool) => (F42 a1_0_0 a1_0_1 a1_1).bind fun (x5 : Bool) => (F33 a0_0_0 a0_0_1 a0_1).bind fun (x7 : (List S78)) => (F33 a1_0_0 a1_0_1 a1_1).bind fun (x8 : (List S78)) => (F50 x7 x8).bind fun (x9 : Bool) => some x9

theorem F23_ok {H : IHeap} {K : IEnd → IHeap → Prop} (a0_0_0 : List (List UInt8 × S39)) (a0_0_1 : List (List UInt8 × (List UInt8))) (a0_1 : Option S33) (a1_0_0 : List (List UInt8 × S39)) (a1_0_1 : List (List UInt8 × (List UInt8))) (a1_1 : Option S33) (ka0 : Nat) (ka0_0_0 : Nat) (ka0_0_1 : Nat) (ka1 : Nat) (ka1_0_0 : Nat) (ka1_0_1 : Nat) (oka0 : H.obj ka0 = some (.cells ([.mp ka0_0_0, .mp ka0_0_1, optP (fun (x : S33) => .v (str x.fHref) :: .v (str x.fUuid) :: .sl 2 (x.fDn.map fun x => [.v (str x.fType), .v (str x.fValue)]) :: (x.fShadow.map fun x => .sl 1 (x.map fun x => [.v (str x)]))) a0_1]))) (oka0_0_0 : H.obj ka0_0_0 = some (.map (mE (fun (x : S39) => .ag (.v (str x.fHref) :: .v (str x.fUuid) :: (x.fShadow.map fun x => .sl 1 (x.map fun x => [.v (str x)])))) a0_0_0))) (oka0_0_1 : H.obj ka0_0_1 = some (.map (mE (fun (x : List UInt8) => .v (str x)) a0_0_1))) (oka1 : H.obj ka1 = some (.cells ([.mp ka1_0_0, .mp ka1_0_1, optP (fun (x : S33) => .v (str x.fHref) :: .v (str x.fUuid) :: .sl 2 (x.fDn.map fun x => [.v (str x.fType), .v (str x.fValue)]) :: (x.fShadow.map fun x => .sl 1 (x.map fun x => [.v (str x)]))) a1_1]))) (oka1_0_0 : H.obj ka1_0_0 = some (.map (mE (fun (x : S39) => .ag (.v (str x.fHref) :: .v (str x.fUuid) :: (x.fShadow.map fun x => .sl 1 (x.map fun x => [.v (str x)])))) a1_0_0))) (oka1_0_1 : H.obj ka1_0_1 = some (.map (mE (fun (x : List UInt8) => .v (str x)) a1_0_1))) (hV : TOK prog H) {r : Bool} (h : F23 a0_0_0 a0_0_1 a0_1 a1_0_0 a1_0_1 a1_1 = some r) (hK : K (.ret (.v (.bool r))) H) : ICalls prog 23 [.p ka0 0, .p ka1 0] H K := by
 refine ICalls_iwp (N := 22) func23 (by kernel_rfl) rfl (by kernel_rfl) (by kernel_rfl) fun cb hcb hw hbd hnb => ?_
 clear hbd hnb
 subst hcb
 unfold F23 at h
 have hka0 : ka0 < H.next := Nat.lt_of_not_le fun q => by rw [hw _ q] at oka0; cases oka0
 have hka0_0_0 : ka0_0_0 < H.next := Nat.lt_of_not_le fun q => by rw [hw _ q] at oka0_0_0; cases oka0_0_0
 have hka0_0_1 : ka0_0_1 < H.next := Nat.lt_of_not_le fun q => by rw [hw _ q] at oka0_0_1; cases oka0_0_1
 have hka1 : ka1 < H.next := Nat.lt_of_not_le fun q => by rw [hw _ q] at oka1; cases oka1
 have hka1_0_0 : ka1_0_0 < H.next := Nat.lt_of_not_le fun q => by rw [hw _ q] at oka1_0_0; cases oka1_0_0
 have hka1_0_1 : ka1_0_1 < H.next := Nat.lt_of_not_le fun q => by rw [hw _ q] at oka1_0_1; cases oka1_0_1
 refine wG ?_
 refine IWp_seqF fun cb hc2 => ?_
 refine IWp_seqF fun cb hc3 => ?_
 refine vG ?_
 obtain ⟨x4, hx4, h⟩ := bind_some' h
 cases (show some false = some x4 from hx4)
 refine F42_ok a0_0_0 a0_0_1 a0_1 ka0 ka0_0_0 ka0_0_1 (by assumption) (by assumption) (by assumption) hx4 ?_
 refine sG ?_
 obtain ⟨x5, hx5, h⟩ := bind_some' h
 cases (show some false = some x5 from hx5)
 refine F42_ok a1_0_0 a1_0_1 a1_1 ka1 ka1_0_0 ka1_0_1 (by assumption) (by assumption) (by assumption) hx5 ?_
 refine sG ?_
 subst hc3
 refine IWp_cond_f eA rfl ?_
 refine vO ?_
 subst hc2
 refine IWp_seqF fun cb hc6 => ?_
 refine vG ?_
 obtain ⟨x7, hx7, h⟩ := bind_some' h
 refine F33_ok a0_0_0 a0_0_1 a0_1 ka0 ka0_0_0 ka0_0_1 (by assumption) (by assumption) (by assumption) (by exact hV.of rfl) hx7 ?_
 refine sG ?_
 obtain ⟨x8, hx8, h⟩ := bind_some' h
 refine F33_ok a1_0_0 a1_0_1 a1_1 ka1 ka1_0_0 ka1_0_1 (by assumption) (by assumption) (by assumption) (by exact hV.of rfl) hx8 ?_
 refine sG ?_
 obtain ⟨x9, hx9, h⟩ := bind_some' h
 refine F50_ok x7 x8 hx9 ?_
 refine sG ?_
 subst hc6
 refine vO ?_
 obtain rfl := Option.some.inj h
 refine sG ?_
 exact retA (.refl hw) hK

/-! cardcase/cardcaseref20.Same -/

noncomputable def F24_k8  : Option Bool :=
 some true

noncomputable def F24_b8 (a0 : List S39) (a1 : List S39) (v9 : Int) : Option (Int ⊕ (Unit ⊕ Bool)) :=
 if v9 < (a0.length : Int) then (gd (0 ≤ v9 ∧ v9 < a0.length) (gd (((a0.getD v9.toNat S39.zero).fShadow).length = 8) (gd (0 ≤ v9 ∧ v9 < a1.length) (gd (((a1.getD v9.toNat S39.zero).fShadow).length = 8) ((F19 (a0.getD v9.toNat S39.zero) (a1.getD v9.toNat S39.zero)).bind fun (x20 : Bool) => if ¬ (x20 = true) then (some (.inr (.inr false))) else (some (.inl (IntKind.i64.wrap (v9 + 1))))))))) else (some (.inr (.inl ())))

noncomputable def F24 (a0 : List S39) (a1 : List S39) : Option Bool :=
 if ¬ (a0.length : Int) = (a1.length : Int) then (some false) else ((loopO (fun (s : Int) => F24_b8 a0 a1 s) 0).bind fun y => Sum.elim (fun (e : Unit) => F24_k8) (fun (q : Bool) => some q) y)

theorem F24_ok {H : IHeap} {K : IEnd → IHeap → Prop} (a0 : List S39) (a1 : List S39) {r : Bool} (h : F24 a0 a1 = some r) (hK : K (.ret (.v (.bool r))) H) : ICalls prog 24 [.sl 10 (a0.map fun x => .v (str x.fHref) :: .v (str x.fUuid) :: (x.fShadow.map fun x => .sl 1 (x.map fun x => [.v (str x)]))), .sl 10 (a1.map fun x => .v (str x.fHref) :: .v (str x.fUuid) :: (x.fShadow.map fun x => .sl 1 (x.map fun x => [.v (str x)])))] H K := by
 refine ICalls_iwp (N := 27) func24 (by kernel_rfl) rfl (by kernel_rfl) (by kernel_rfl) fun cb hcb hw hbd hnb => ?_
 clear hbd hnb
 subst hcb
 unfold F24 at h
 refine wG ?_
 refine IWp_seqF fun cb hc2 => ?_
 refine wG ?_
 refine IWp_cond_i h eA rfl ?_ ?_
 ·intro c4 h
  refine wG ?_
  refine vO ?_
  obtain rfl := Option.some.inj h
  refine sG ?_
  exact retA (.refl hw) hK
 intro c4 h
 simp (disch := omega) at c4
 refine vO ?_
 subst hc2
 refine IWp_seqF fun cb hc6 => ?_
 refine wG ?_
 obtain ⟨y8, hl8q, hk8⟩ := bind_some' h
 refine IWp_tailC (fun tm' H' => .inl () = y8 ∧ H = H') ?_ fun cb hc8 => ?_
 ·rintro tm8e H8e ⟨rfl, rfl⟩
  have h : F24_k8 = some r := hk8
  unfold F24_k8 at h
  simp -implicitDefEqProofs only [go_sem]
  subst hc6
  refine wG ?_
  refine vO ?_
  obtain rfl := Option.some.inj h
  refine sG ?_
  exact retA (.refl hw) hK
 refine IWp_block ?_
 refine IWp_loopF (fun (s : Int) tm' H' => H = H' ∧ tm' 0 = .sl 10 (a0.map fun x => .v (str x.fHref) :: .v (str x.fUuid) :: (x.fShadow.map fun x => .sl 1 (x.map fun x => [.v (str x)]))) ∧ tm' 1 = .sl 10 (a1.map fun x => .v (str x.fHref) :: .v (str x.fUuid) :: (x.fShadow.map fun x => .sl 1 (x.map fun x => [.v (str x)]))) ∧ tm' 5 = .v (.int .i64 s)) hl8q ?_ ?_
 ·exact sm
 rintro I8 hI8 v9 x8 tm8 H8 ⟨rfl, t0_8, t1_8, t5_8⟩ h hret8
 replace h : F24_b8 a0 a1 v9 = some x8 := h
 unfold F24_b8 at h
 refine IWp_seqF fun cb hc11 => ?_
 refine wF (nd t0_8 t5_8) ?_
 refine IWp_cond_i h eA rfl ?_ ?_
 ·intro c13 h
  refine vO ?_
  subst hc11
  refine IWp_seqF fun cb hc14 => ?_
  refine IWp_block ?_
  refine IWp_seqF fun cb hc15 => ?_
  refine IWp_drawP [8] [0, 1, 2, 3, 4, 5, 6, 7, 8, 9] (by kernel_rfl) (by kernel_rfl) (fun _ _ _ _ h => h) ?_
  obtain ⟨g16, h⟩ := gd_some.1 h
  obtain ⟨g17, h⟩ := gS h
  obtain ⟨g18, h⟩ := gd_some.1 h
  obtain ⟨g19, h⟩ := gS h
  refine sF (nd t0_8 (nd t1_8 (nd t5_8 (nd g17 g19)))) ?_
  obtain ⟨x20, hx20, h⟩ := bind_some' h
  refine PureC.mk _ (fun _ _ hK => ICalls.eqA eA (F19_ok (a0.getD v9.toNat S39.zero) (a1.getD v9.toNat S39.zero) hx20 hK)) ?_
  refine sG ?_
  subst hc15
  refine IWp_cond_i h eA rfl ?_ ?_
  ·intro c21 h
   simp (disch := omega) at c21
   refine wG ?_
   refine vO ?_
   obtain rfl := Option.some.inj h
   obtain rfl := hret8 _ rfl
   replace h : some false = some r := hk8
   obtain rfl := Option.some.inj h
   refine sG ?_
   exact retA (.refl hw) hK
  intro c21 h
  simp (disch := omega) at c21
  refine vO ?_
  subst hc14
  refine vF t5_8 ?_
  obtain rfl := Option.some.inj h
  refine loopN_mk hI8 (IntKind.i64.wrap (v9 + 1)) ?_
  exact smF (nd t0_8 t1_8)
 intro c13 h
 simp (disch := omega) at c13
 refine vO ?_
 obtain rfl := Option.some.inj h
 have hy8 := hret8 _ rfl
 refine hc8 _ _ ?_
 refine .same ⟨hy8, rfl⟩

end Go.Idl

namespace Go.Idl

set_option maxHeartbeats 8000000

set_option pp.deepTerms false

set_option maxRecDepth 60000

open Go Go.Proofs.Tryz

/-! cardcase/cardcaselaw20.PairsCopies -/

noncomputable def F5_k31 (v21 : Option S33) (v22 : List (List UInt8 × S39)) (v23 : List (List UInt8 × (List UInt8))) (v24 : S35) (v37 : Option S33) (v38 : List (List UInt8 × S39)) (v39 : List (List UInt8 × (List UInt8))) (v40 : S35) : Option Bool :=
 (F20 v22 v23 v21 v24).bind fun (x42 : Bool) => if x42 = true then (gd (v40.fP.fShadow.length = 8) ((F20 v38 v39 v37 v40).bind fun (x44 : Bool) => if x44 = true then ((F23 v22 v23 v21 v38 v39 v37).bind fun (x45 : Bool) => (F24 v24.fL v40.fL).bind fun (x46 : Bool) => if x46 = true then ((F25 v24.fP v40.fP).bind fun (x47 : Bool) => if x45 = x47 then ((F23 v38 v39 v37 v38 v39 v37).bind fun (x48 : Bool) => if x48 = true then ((F11 ).bind fun (x49 : Bool) => some x49) else (some false)) else (some false)) else (if x45 = false then ((F23 v38 v39 v37 v38 v39 v37).bind fun (x52 : Bool) => if x52 = true then ((F11 ).bind fun (x53 : Bool) => some x53) else (some false)) else (some false))) else (some false))) else (some false)

noncomputable def F5_b31 (a1 : List S41) (v32 : Int) (v33 : Option S33) (v34 : List (List UInt8 × S39)) (v35 : List (List UInt8 × (List UInt8))) (v36 : S35) : Option ((Int × (Option S33) × (List (List UInt8 × S39)) × (List (List UInt8 × (List UInt8))) × S35) ⊕ ((Option S33) × (List (List UInt8 × S39)) × (List (List UInt8 × (List UInt8))) × S35)) :=
 if v32 < (a1.length : Int) then (gd (v36.fP.fShadow.length = 8) (gd (0 ≤ v32 ∧ v32 < a1.length) (gd ((((a1.getD v32.toNat S41.zero).fPairing).fShadow).length = 8) ((F13 v34 v35 v33 v36 (a1.getD v32.toNat S41.zero)).bind fun (x66 : S35 × Bool × (Option S33) × (List (List UInt8 × S39)) × (List (List UInt8 × (List UInt8)))) => gd (x66.1.fP.fShadow.length = 8) (some (.inl ((IntKind.i64.wrap (v32 + 1), x66.2.2.1, x66.2.2.2.1, x66.2.2.2.2, x66.1)))))))) else (some (.inr (v33, v34, v35, v36)))

noncomputable def F5_k15 (a1 : List S41) (v21 : Option S33) (v22 : List (List UInt8 × S39)) (v23 : List (List UInt8 × (List UInt8))) (v24 : S35) : Option Bool :=
 (F22 v22 v23 v21).bind fun (x26 : (List (List UInt8 × S39)) × (List (List UInt8 × (List UInt8))) × (Option S33)) => gd (v24.fP.fShadow.length = 8) ((loopO (fun (s : Int × (Option S33) × (List (List UInt8 × S39)) × (List (List UInt8 × (List UInt8))) × S35) => F5_b31 a1 s.1 s.2.1 s.2.2.1 s.2.2.2.1 s.2.2.2.2) (0, x26.2.2, x26.1, x26.2.1, v24)).bind fun (e : (Option S33) × (List (List UInt8 × S39)) × (List (List UInt8 × (List UInt8))) × S35) => F5_k31 v21 v22 v23 v24 e.1 e.2.1 e.2.2.1 e.2.2.2)

noncomputable def F5_b15 (a0 : List S41) (v16 : Int) (v17 : Option S33) (v18 : List (List UInt8 × S39)) (v19 : List (List UInt8 × (List UInt8))) (v20 : S35) : Option ((Int × (Option S33) × (List (List UInt8 × S39)) × (List (List UInt8 × (List UInt8))) × S35) ⊕ ((Option S33) × (List (List UInt8 × S39)) × (List (List UInt8 × (List UInt8))) × S35)) :=
 if v16 < (a0.length : Int) then (gd (v20.fP.fShadow.length = 8) (gd (0 ≤ v16 ∧ v16 < a0.length) (gd ((((a0.getD v16.toNat S41.zero).fPairing).fShadow).length = 8) ((F13 v18 v19 v17 v20 (a0.getD v16.toNat S41.zero)).bind fun (x75 : S35 × Bool × (Option S33) × (List (List UInt8 × S39)) × (List (List UInt8 × (List UInt8)))) => gd (x75.1.fP.fShadow.length = 8) (some (.inl ((IntKind.i64.wrap (v16 + 1), x75.2.2.1, x75.2.2.2.1, x75.2.2.2.2, x75.1)))))))) else (some (.inr (v17, v18, v19, v20)))

noncomputable def F5 (a0 : List S41) (a1 : List S41) : Option Bool :=
 gd (a0.length * 256 ≤ 140737488355328) (gd ((a0.length + a1.length) * 256 ≤ 140737488355328) ((F10 (a0 ++ a1) 40).bind fun (x6 : Bool) => if ¬ (x6 = true) then ((F11 ).bind fun (x9 : Bool) => some x9) else ((F12 ).bind fun (x11 : (List (List UInt8 × S39)) × (List (List UInt8 × (List UInt8))) × (Option S33)) => (loopO (fun (s : Int × (Option S33) × (List (List UInt8 × S39)) × (List (List UInt8 × (List UInt8))) × S35) => F5_b15 a0 s.1 s.2.1 s.2.2.1 s.2.2.2.1 s.2.2.2.2) (0, x11.2.2, x11.1, x11.2.1, ((⟨[], (⟨[], [], [], [[], [], [], [], [], [], [], []]⟩ : S33)⟩ : S35)))).bind fun (e : (Option S33) × (List (List UInt8 × S39)) × (List (List UInt8 × (List UInt8))) × S35) => F5_k15 a1 e.1 e.2.1 e.2.2.1 e.2.2.2)))

theorem F5_ok {H : IHeap} {K : IEnd → IHeap → Prop} (a0 : List S41) (a1 : List S41) (hV : TOK prog H) {r : Bool} (h : F5 a0 a1 = some r) (hK : K (.ret (.v (.bool r))) H) : ICalls prog 5 [.sl 12 (a0.map fun x => .v (.int .i64 x.fKind) :: .v (str x.fPairing.fHref) :: .v (str x.fPairing.fUuid) :: ((x.fPairing.fShadow.map fun x => .sl 1 (x.map fun x => [.v (str x)])) ++ [.sl 2 (x.fDn.map fun x => [.v (str x.fType), .v (str x.fValue)])])), .sl 12 (a1.map fun x => .v (.int .i64 x.fKind) :: .v (str x.fPairing.fHref) :: .v (str x.fPairing.fUuid) :: ((x.fPairing.fShadow.map fun x => .sl 1 (x.map fun x => [.v (str x)])) ++ [.sl 2 (x.fDn.map fun x => [.v (str x.fType), .v (str x.fValue)])]))] H K := by
 refine ICalls_iwp (N := 88) func5 (by kernel_rfl) rfl (by kernel_rfl) (by kernel_rfl) fun cb hcb hw hbd hnb => ?_
 clear hbd hnb
 subst hcb
 unfold F5 at h
 refine wG ?_
 refine IWp_seqF fun cb hc2 => ?_
 refine IWp_seqF fun cb hc3 => ?_
 obtain ⟨g4, h⟩ := gd_some.1 h
 obtain ⟨g5, h⟩ := gd_some.1 h
 refine vG ?_
 refine ICalls.fz (k := H.next) (args' := [.sl 12 ((a0 ++ a1).map fun x => .v (.int .i64 x.fKind) :: .v (str x.fPairing.fHref) :: .v (str x.fPairing.fUuid) :: ((x.fPairing.fShadow.map fun x => .sl 1 (x.map fun x => [.v (str x)])) ++ [.sl 2 (x.fDn.map fun x => [.v (str x.fType), .v (str x.fValue)])])), .v (.int .i64 40)]) (by repeat (first | exact FzKL.nil | refine FzKL.cons ?_ ?_ | exact FzK.row _ _ _ eA (by simp) | exact FzK.same _)) ?_
 obtain ⟨x6, hx6, h⟩ := bind_some' h
 refine F10_ok (a0 ++ a1) 40 hx6 ?_
 refine sG ?_
 subst hc3
 refine IWp_cond_i h eA rfl ?_ ?_
 ·intro c7 h
  simp (disch := omega) at c7
  refine IWp_seqF fun cb hc8 => ?_
  refine vG ?_
  obtain ⟨x9, hx9, h⟩ := bind_some' h
  refine F11_ok  (by exact hV.of rfl) hx9 ?_
  refine sG ?_
  subst hc8
  refine vO ?_
  obtain rfl := Option.some.inj h
  refine sG ?_
  exact retA (.refl hw) hK
 intro c7 h
 simp (disch := omega) at c7
 refine vO ?_
 subst hc2
 refine IWp_seqF fun cb hc10 => ?_
 refine vG ?_
 obtain ⟨x11, hx11, h⟩ := bind_some' h
 refine F12_ok  hx11 ?_
 refine sG ?_
 subst hc10
 refine wG ?_
 refine IWp_seqF fun cb hc13 => ?_
 refine wG ?_
 obtain ⟨y15, hl15q, hk15⟩ := bind_some' h
 refine IWp_tailC (fun tm' H' => ∃ v21 : Option S33, ∃ v22 : List (List UInt8 × S39), ∃ v23 : List (List UInt8 × (List UInt8)), ∃ v24 : S35, (v21, v22, v23, v24) = y15 ∧ Ext H H' ∧ H.next + 5 ≤ H'.next ∧ tm' 1 = .sl 12 (a1.map fun x => .v (.int .i64 x.fKind) :: .v (str x.fPairing.fHref) :: .v (str x.fPairing.fUuid) :: ((x.fPairing.fShadow.map fun x => .sl 1 (x.map fun x => [.v (str x)])) ++ [.sl 2 (x.fDn.map fun x => [.v (str x.fType), .v (str x.fValue)])])) ∧ tm' 5 = .p (H.next + 1) 0 ∧ tm' 6 = .p (H.next + 4) 0 ∧ H'.obj (H.next + 1) = some (.cells ([.mp (H.next + 2), .mp (H.next + 3), optP (fun (x : S33) => .v (str x.fHref) :: .v (str x.fUuid) :: .sl 2 (x.fDn.map fun x => [.v (str x.fType), .v (str x.fValue)]) :: (x.fShadow.map fun x => .sl 1 (x.map fun x => [.v (str x)]))) v21])) ∧ H'.obj (H.next + 2) = some (.map (mE (fun (x : S39) => .ag (.v (str x.fHref) :: .v (str x.fUuid) :: (x.fShadow.map fun x => .sl 1 (x.map fun x => [.v (str x)])))) v22)) ∧ H'.obj (H.next + 3) = some (.map (mE (fun (x : List UInt8) => .v (str x)) v23)) ∧ H'.obj (H.next + 4) = some (.cells (.sl 10 (v24.fL.map fun x => .v (str x.fHref) :: .v (str x.fUuid) :: (x.fShadow.map fun x => .sl 1 (x.map fun x => [.v (str x)]))) :: .v (str v24.fP.fHref) :: .v (str v24.fP.fUuid) :: .sl 2 (v24.fP.fDn.map fun x => [.v (str x.fType), .v (str x.fValue)]) :: (v24.fP.fShadow.map fun x => .sl 1 (x.map fun x => [.v (str x)]))))) ?_ fun cb hc15 => ?_
 ·rintro tm15e H15e ⟨v21, v22, v23, v24, rfl, he15e, hl15e, t1_15e, t5_15e, t6_15e, ob0_15e, ob1_15e, ob2_15e, ob3_15e⟩
  have h : F5_k15 a1 v21 v22 v23 v24 = some r := hk15
  unfold F5_k15 at h
  simp -implicitDefEqProofs only [go_sem]
  subst hc13
  refine IWp_seqF fun cb hc25 => ?_
  refine vF t5_15e ?_
  obtain ⟨x26, hx26, h⟩ := bind_some' h
  refine F22_ok v22 v23 v21 (H.next + 1) (H.next + 2) (H.next + 3) (by assumption) (by assumption) (by assumption) hx26 ?_
  refine sG ?_
  subst hc25
  obtain ⟨g28, h⟩ := gd_some.1 h
  refine wF (nd t6_15e (nd ob3_15e g28)) ?_
  refine IWp_seqF fun cb hc29 => ?_
  refine wG ?_
  obtain ⟨y31, hl31q, hk31⟩ := bind_some' h
  refine IWp_tailC (fun tm' H' => ∃ v37 : Option S33, ∃ v38 : List (List UInt8 × S39), ∃ v39 : List (List UInt8 × (List UInt8)), ∃ v40 : S35, (v37, v38, v39, v40) = y31 ∧ Ext H H' ∧ H15e.next + 4 ≤ H'.next ∧ tm' 5 = .p (H.next + 1) 0 ∧ tm' 6 = .p (H.next + 4) 0 ∧ tm' 8 = .p H15e.next 0 ∧ tm' 9 = .p (H15e.next + 3) 0 ∧ H'.obj (H.next + 1) = some (.cells ([.mp (H.next + 2), .mp (H.next + 3), optP (fun (x : S33) => .v (str x.fHref) :: .v (str x.fUuid) :: .sl 2 (x.fDn.map fun x => [.v (str x.fType), .v (str x.fValue)]) :: (x.fShadow.map fun x => .sl 1 (x.map fun x => [.v (str x)]))) v21])) ∧ H'.obj (H.next + 2) = some (.map (mE (fun (x : S39) => .ag (.v (str x.fHref) :: .v (str x.fUuid) :: (x.fShadow.map fun x => .sl 1 (x.map fun x => [.v (str x)])))) v22)) ∧ H'.obj (H.next + 3) = some (.map (mE (fun (x : List UInt8) => .v (str x)) v23)) ∧ H'.obj (H.next + 4) = some (.cells (.sl 10 (v24.fL.map fun x => .v (str x.fHref) :: .v (str x.fUuid) :: (x.fShadow.map fun x => .sl 1 (x.map fun x => [.v (str x)]))) :: .v (str v24.fP.fHref) :: .v (str v24.fP.fUuid) :: .sl 2 (v24.fP.fDn.map fun x => [.v (str x.fType), .v (str x.fValue)]) :: (v24.fP.fShadow.map fun x => .sl 1 (x.map fun x => [.v (str x)])))) ∧ H'.obj H15e.next = some (.cells ([.mp (H15e.next + 1), .mp (H15e.next + 2), optP (fun (x : S33) => .v (str x.fHref) :: .v (str x.fUuid) :: .sl 2 (x.fDn.map fun x => [.v (str x.fType), .v (str x.fValue)]) :: (x.fShadow.map fun x => .sl 1 (x.map fun x => [.v (str x)]))) v37])) ∧ H'.obj (H15e.next + 1) = some (.map (mE (fun (x : S39) => .ag (.v (str x.fHref) :: .v (str x.fUuid) :: (x.fShadow.map fun x => .sl 1 (x.map fun x => [.v (str x)])))) v38)) ∧ H'.obj (H15e.next + 2) = some (.map (mE (fun (x : List UInt8) => .v (str x)) v39)) ∧ H'.obj (H15e.next + 3) = some (.cells (.sl 10 (v40.fL.map fun x => .v (str x.fHref) :: .v (str x.fUuid) :: (x.fShadow.map fun x => .sl 1 (x.map fun x => [.v (str x)]))) :: .v (str v40.fP.fHref) :: .v (str v40.fP.fUuid) :: .sl 2 (v40.fP.fDn.map fun x => [.v (str x.fType), .v (str x.fValue)]) :: (v40.fP.fShadow.map fun x => .sl 1 (x.map fun x => [.v (str x)]))))) ?_ fun cb hc31 => ?_
  ·rintro tm31e H31e ⟨v37, v38, v39, v40, rfl, he31e, hl31e, t5_31e, t6_31e, t8_31e, t9_31e, ob0_31e, ob1_31e, ob2_31e, ob3_31e, ob4_31e, ob5_31e, ob6_31e, ob7_31e⟩
   have h : F5_k31 v21 v22 v23 v24 v37 v38 v39 v40 = some r := hk31
   unfold F5_k31 at h
   simp -implicitDefEqProofs only [go_sem]
   subst hc29
   refine IWp_seqF fun cb hc41 => ?_
   refine IWp_drawP [16, 22, 32] [0, 1, 2, 3, 4, 5, 6, 7, 8, 9, 10, 12, 13, 14, 15, 11, 16, 17, 18, 19, 20, 21, 22, 23, 24, 25, 26, 27, 28, 29, 30, 31, 32, 33, 34] (by kernel_rfl) (by kernel_rfl) (fun _ _ _ _ h => h) ?_
   refine sF (nd t5_31e (nd t6_31e (nd g28 ob3_31e))) ?_
   obtain ⟨x42, hx42, h⟩ := bind_some' h
   refine F20_ok v22 v23 v21 v24 (H.next + 1) (H.next + 2) (H.next + 3) (by assumption) (by assumption) (by assumption) hx42 ?_
   refine sF (nd g28 ob3_31e) ?_
   refine splitG_f h eA ?_ ?_
   ·intro c58 h
    obtain ⟨g43, h⟩ := gd_some.1 h
    refine sF (nd t8_31e (nd t9_31e (nd ob7_31e g43))) ?_
    obtain ⟨x44, hx44, h⟩ := bind_some' h
    refine F20_ok v38 v39 v37 v40 H15e.next (H15e.next + 1) (H15e.next + 2) (by assumption) (by assumption) (by assumption) hx44 ?_
    refine sF (nd g28 (nd ob3_31e (nd ob7_31e g43))) ?_
    refine splitG_f h eA ?_ ?_
    ·intro c57 h
     refine sF (nd t5_31e (nd t6_31e (nd t8_31e (nd t9_31e (nd g28 (nd ob3_31e (nd ob7_31e g43))))))) ?_
     obtain ⟨x45, hx45, h⟩ := bind_some' h
     refine F23_ok v22 v23 v21 v38 v39 v37 (H.next + 1) (H.next + 2) (H.next + 3) H15e.next (H15e.next + 1) (H15e.next + 2) (by assumption) (by assumption) (by assumption) (by assumption) (by assumption) (by assumption) (by exact hV.of (he31e).sn) hx45 ?_
     refine sF (nd g28 (nd ob3_31e (nd ob7_31e g43))) ?_
     obtain ⟨x46, hx46, h⟩ := bind_some' h
     refine PureC.mk _ (fun _ _ hK => F24_ok v24.fL v40.fL hx46 hK) ?_
     refine splitG_f h eA ?_ ?_
     ·intro c56 h
      refine sF (nd t6_31e (nd t9_31e (nd g28 (nd ob3_31e (nd ob7_31e g43))))) ?_
      obtain ⟨x47, hx47, h⟩ := bind_some' h
      refine PureC.mk _ (fun _ _ hK => F25_ok v24.fP v40.fP hx47 hK) ?_
      refine sG ?_
      refine splitG_f h rfl ?_ ?_
      ·intro c51 h
       refine sF t8_31e ?_
       obtain ⟨x48, hx48, h⟩ := bind_some' h
       refine F23_ok v38 v39 v37 v38 v39 v37 H15e.next (H15e.next + 1) (H15e.next + 2) H15e.next (H15e.next + 1) (H15e.next + 2) (by assumption) (by assumption) (by assumption) (by assumption) (by assumption) (by assumption) (by exact hV.of (he31e).sn) hx48 ?_
       refine sF (nd g28 (nd ob3_31e (nd ob7_31e g43))) ?_
       refine splitG_f h eA ?_ ?_
       ·intro c50 h
        refine sG ?_
        obtain ⟨x49, hx49, h⟩ := bind_some' h
        refine PureC.mkT (fun H0 => TOK prog H0) _ (by exact hV.of (he31e).sn) (fun H0 K0 hT hK => F11_ok  hT hx49 hK) ?_
        subst hc41
        refine vO ?_
        obtain rfl := Option.some.inj h
        refine sG ?_
        refine retG_pureE (extA he31e) rfl nbA hK
       intro c50 h
       simp (disch := omega) at c50
       refine sG ?_
       subst hc41
       refine vO ?_
       obtain rfl := Option.some.inj h
       refine sG ?_
       refine retG_pureE (extA he31e) rfl nbA hK
      intro c51 h
      refine sG ?_
      subst hc41
      refine vO ?_
      obtain rfl := Option.some.inj h
      refine sG ?_
      refine retG_pureE (extA he31e) rfl nbA hK
     intro c56 h
     simp (disch := omega) at c56
     refine sG ?_
     refine splitG_f h eA ?_ ?_
     ·intro c55 h
      refine sF t8_31e ?_
      obtain ⟨x52, hx52, h⟩ := bind_some' h
      refine F23_ok v38 v39 v37 v38 v39 v37 H15e.next (H15e.next + 1) (H15e.next + 2) H15e.next (H15e.next + 1) (H15e.next + 2) (by assumption) (by assumption) (by assumption) (by assumption) (by assumption) (by assumption) (by exact hV.of (he31e).sn) hx52 ?_
      refine sF (nd g28 (nd ob3_31e (nd ob7_31e g43))) ?_
      refine splitG_f h eA ?_ ?_
      ·intro c54 h
       refine sG ?_
       obtain ⟨x53, hx53, h⟩ := bind_some' h
       refine PureC.mkT (fun H0 => TOK prog H0) _ (by exact hV.of (he31e).sn) (fun H0 K0 hT hK => F11_ok  hT hx53 hK) ?_
       subst hc41
       refine vO ?_
       obtain rfl := Option.some.inj h
       refine sG ?_
       refine retG_pureE (extA he31e) rfl nbA hK
      intro c54 h
      simp (disch := omega) at c54
      refine sG ?_
      subst hc41
      refine vO ?_
      obtain rfl := Option.some.inj h
      refine sG ?_
      refine retG_pureE (extA he31e) rfl nbA hK
     intro c55 h
     simp (disch := omega) at c55
     refine sG ?_
     subst hc41
     refine vO ?_
     obtain rfl := Option.some.inj h
     refine sG ?_
     refine retG_pureE (extA he31e) rfl nbA hK
    intro c57 h
    simp (disch := omega) at c57
    refine sG ?_
    subst hc41
    refine vO ?_
    obtain rfl := Option.some.inj h
    refine sG ?_
    refine retG_pureE (extA he31e) rfl nbA hK
   intro c58 h
   simp (disch := omega) at c58
   refine sG ?_
   subst hc41
   refine vO ?_
   obtain rfl := Option.some.inj h
   refine sG ?_
   refine retG_pureE (extA he31e) rfl nbA hK
  refine IWp_block ?_
  refine IWp_loopF (fun (s : Int × (Option S33) × (List (List UInt8 × S39)) × (List (List UInt8 × (List UInt8))) × S35) tm' H' => Ext H H' ∧ H15e.next + 4 ≤ H'.next ∧ tm' 1 = .sl 12 (a1.map fun x => .v (.int .i64 x.fKind) :: .v (str x.fPairing.fHref) :: .v (str x.fPairing.fUuid) :: ((x.fPairing.fShadow.map fun x => .sl 1 (x.map fun x => [.v (str x)])) ++ [.sl 2 (x.fDn.map fun x => [.v (str x.fType), .v (str x.fValue)])])) ∧ tm' 5 = .p (H.next + 1) 0 ∧ tm' 6 = .p (H.next + 4) 0 ∧ tm' 8 = .p H15e.next 0 ∧ tm' 9 = .p (H15e.next + 3) 0 ∧ tm' 10 = .v (.int .i64 s.1) ∧ H'.obj (H.next + 1) = some (.cells ([.mp (H.next + 2), .mp (H.next + 3), optP (fun (x : S33) => .v (str x.fHref) :: .v (str x.fUuid) :: .sl 2 (x.fDn.map fun x => [.v (str x.fType), .v (str x.fValue)]) :: (x.fShadow.map fun x => .sl 1 (x.map fun x => [.v (str x)]))) v21])) ∧ H'.obj (H.next + 2) = some (.map (mE (fun (x : S39) => .ag (.v (str x.fHref) :: .v (str x.fUuid) :: (x.fShadow.map fun x => .sl 1 (x.map fun x => [.v (str x)])))) v22)) ∧ H'.obj (H.next + 3) = some (.map (mE (fun (x : List UInt8) => .v (str x)) v23)) ∧ H'.obj (H.next + 4) = some (.cells (.sl 10 (v24.fL.map fun x => .v (str x.fHref) :: .v (str x.fUuid) :: (x.fShadow.map fun x => .sl 1 (x.map fun x => [.v (str x)]))) :: .v (str v24.fP.fHref) :: .v (str v24.fP.fUuid) :: .sl 2 (v24.fP.fDn.map fun x => [.v (str x.fType), .v (str x.fValue)]) :: (v24.fP.fShadow.map fun x => .sl 1 (x.map fun x => [.v (str x)])))) ∧ H'.obj H15e.next = some (.cells ([.mp (H15e.next + 1), .mp (H15e.next + 2), optP (fun (x : S33) => .v (str x.fHref) :: .v (str x.fUuid) :: .sl 2 (x.fDn.map fun x => [.v (str x.fType), .v (str x.fValue)]) :: (x.fShadow.map fun x => .sl 1 (x.map fun x => [.v (str x)]))) s.2.1])) ∧ H'.obj (H15e.next + 1) = some (.map (mE (fun (x : S39) => .ag (.v (str x.fHref) :: .v (str x.fUuid) :: (x.fShadow.map fun x => .sl 1 (x.map fun x => [.v (str x)])))) s.2.2.1)) ∧ H'.obj (H15e.next + 2) = some (.map (mE (fun (x : List UInt8) => .v (str x)) s.2.2.2.1)) ∧ H'.obj (H15e.next + 3) = some (.cells (.sl 10 (s.2.2.2.2.fL.map fun x => .v (str x.fHref) :: .v (str x.fUuid) :: (x.fShadow.map fun x => .sl 1 (x.map fun x => [.v (str x)]))) :: .v (str s.2.2.2.2.fP.fHref) :: .v (str s.2.2.2.2.fP.fUuid) :: .sl 2 (s.2.2.2.2.fP.fDn.map fun x => [.v (str x.fType), .v (str x.fValue)]) :: (s.2.2.2.2.fP.fShadow.map fun x => .sl 1 (x.map fun x => [.v (str x)]))))) hl31q ?_ ?_
  ·refine .same ⟨by exact extA he15e, by (simp -implicitDefEqProofs (disch := omega) [go_sem] <;> omega), ?_, ?_, ?_, ?_, ?_, ?_, ?_, ?_, ?_, ?_, ?_, ?_, ?_, ?_⟩ <;> (simp -implicitDefEqProofs (disch := omega) [go_sem, t1_15e, t5_15e, t6_15e, ob0_15e, ob1_15e, ob2_15e, ob3_15e] <;> omega)
  rintro I31 hI31 ⟨v32, v33, v34, v35, v36⟩ x31 tm31 H31 ⟨he31, hl31, t1_31, t5_31, t6_31, t8_31, t9_31, t10_31, ob0_31, ob1_31, ob2_31, ob3_31, ob4_31, ob5_31, ob6_31, ob7_31⟩ h hret31
  replace h : F5_b31 a1 v32 v33 v34 v35 v36 = some x31 := h
  unfold F5_b31 at h
  refine IWp_seqF fun cb hc59 => ?_
  refine wF (nd t1_31 t10_31) ?_
  refine IWp_cond_i h eA rfl ?_ ?_
  ·intro c61 h
   refine vO ?_
   subst hc59
   refine IWp_seqF fun cb hc62 => ?_
   refine IWp_block ?_
   refine IWp_drawP [] [0, 1, 2, 3, 4, 5, 6, 7, 8, 9, 10] (by kernel_rfl) (by kernel_rfl) (fun _ _ _ _ h => h) ?_
   obtain ⟨g63, h⟩ := gd_some.1 h
   obtain ⟨g64, h⟩ := gd_some.1 h
   obtain ⟨g65, h⟩ := gS h
   refine sF (nd t1_31 (nd t8_31 (nd t9_31 (nd t10_31 (nd ob7_31 (nd g63 g65)))))) ?_
   obtain ⟨x66, hx66, h⟩ := bind_some' h
   refine ICalls.eqA eA (F13_ok v34 v35 v33 v36 (a1.getD v32.toNat S41.zero) H15e.next (H15e.next + 1) (H15e.next + 2) (by assumption) (by assumption) (by assumption) (by omega) hx66 ?_)
   obtain ⟨g67, h⟩ := gd_some.1 h
   refine sF (nd t9_31 (nd ob7_31 (nd g63 g67))) ?_
   subst hc62
   refine vF t10_31 ?_
   obtain rfl := Option.some.inj h
   refine loopN_mk hI31 ((IntKind.i64.wrap (v32 + 1), x66.2.2.1, x66.2.2.2.1, x66.2.2.2.2, x66.1)) ?_
   refine .same ⟨by exact extA he31, by (simp -implicitDefEqProofs (disch := omega) [go_sem] <;> omega), ?_, ?_, ?_, ?_, ?_, ?_, ?_, ?_, ?_, ?_, ?_, ?_, ?_, ?_⟩ <;> (simp -implicitDefEqProofs (disch := omega) [go_sem, t1_31, t5_31, t6_31, t8_31, t9_31, ob0_31, ob1_31, ob2_31, ob3_31] <;> omega)
  intro c61 h
  simp (disch := omega) at c61
  refine vO ?_
  obtain rfl := Option.some.inj h
  have hy31 := hret31 _ rfl
  refine hc31 _ _ ?_
  refine .same ⟨v33, v34, v35, v36, hy31, by exact extA he31, by with_reducible assumption, ?_, ?_, ?_, ?_, ?_, ?_, ?_, ?_, ?_, ?_, ?_, ?_⟩ <;> first | with_reducible assumption | (simp -implicitDefEqProofs (disch := omega) [go_sem, t5_31, t6_31, t8_31, t9_31] <;> omega)
 refine IWp_block ?_
 refine IWp_loopF (fun (s : Int × (Option S33) × (List (List UInt8 × S39)) × (List (List UInt8 × (List UInt8))) × S35) tm' H' => Ext H H' ∧ H.next + 5 ≤ H'.next ∧ tm' 0 = .sl 12 (a0.map fun x => .v (.int .i64 x.fKind) :: .v (str x.fPairing.fHref) :: .v (str x.fPairing.fUuid) :: ((x.fPairing.fShadow.map fun x => .sl 1 (x.map fun x => [.v (str x)])) ++ [.sl 2 (x.fDn.map fun x => [.v (str x.fType), .v (str x.fValue)])])) ∧ tm' 1 = .sl 12 (a1.map fun x => .v (.int .i64 x.fKind) :: .v (str x.fPairing.fHref) :: .v (str x.fPairing.fUuid) :: ((x.fPairing.fShadow.map fun x => .sl 1 (x.map fun x => [.v (str x)])) ++ [.sl 2 (x.fDn.map fun x => [.v (str x.fType), .v (str x.fValue)])])) ∧ tm' 5 = .p (H.next + 1) 0 ∧ tm' 6 = .p (H.next + 4) 0 ∧ tm' 7 = .v (.int .i64 s.1) ∧ H'.obj (H.next + 1) = some (.cells ([.mp (H.next + 2), .mp (H.next + 3), optP (fun (x : S33) => .v (str x.fHref) :: .v (str x.fUuid) :: .sl 2 (x.fDn.map fun x => [.v (str x.fType), .v (str x.fValue)]) :: (x.fShadow.map fun x => .sl 1 (x.map fun x => [.v (str x)]))) s.2.1])) ∧ H'.obj (H.next + 2) = some (.map (mE (fun (x : S39) => .ag (.v (str x.fHref) :: .v (str x.fUuid) :: (x.fShadow.map fun x => .sl 1 (x.map fun x => [.v (str x)])))) s.2.2.1)) ∧ H'.obj (H.next + 3) = some (.map (mE (fun (x : List UInt8) => .v (str x)) s.2.2.2.1)) ∧ H'.obj (H.next + 4) = some (.cells (.sl 10 (s.2.2.2.2.fL.map fun x => .v (str x.fHref) :: .v (str x.fUuid) :: (x.fShadow.map fun x => .sl 1 (x.map fun x => [.v (str x)]))) :: .v (str s.2.2.2.2.fP.fHref) :: .v (str s.2.2.2.2.fP.fUuid) :: .sl 2 (s.2.2.2.2.fP.fDn.map fun x => [.v (str x.fType), .v (str x.fValue)]) :: (s.2.2.2.2.fP.fShadow.map fun x => .sl 1 (x.map fun x => [.v (str x)]))))) hl15q ?_ ?_
 ·refine UpI.gh (Gh.wkBox (kb := H.next + 4) (cs := [.v (.slice none 0 0), .v (str []), .v (str []), .v (.slice none 0 0), .v (.slice none 0 0), .v (.slice none 0 0), .v (.slice none 0 0), .v (.slice none 0 0), .v (.slice none 0 0), .v (.slice none 0 0), .v (.slice none 0 0), .v (.slice none 0 0)]) (cs' := [.sl 10 (([] : List S39).map fun x => .v (str x.fHref) :: .v (str x.fUuid) :: (x.fShadow.map fun x => .sl 1 (x.map fun x => [.v (str x)]))), .v (str []), .v (str []), .sl 2 (([] : List S89).map fun x => [.v (str x.fType), .v (str x.fValue)]), .sl 1 ((([] : List (List UInt8))).map fun x => [.v (str x)]), .sl 1 ((([] : List (List UInt8))).map fun x => [.v (str x)]), .sl 1 ((([] : List (List UInt8))).map fun x => [.v (str x)]), .sl 1 ((([] : List (List UInt8))).map fun x => [.v (str x)]), .sl 1 ((([] : List (List UInt8))).map fun x => [.v (str x)]), .sl 1 ((([] : List (List UInt8))).map fun x => [.v (str x)]), .sl 1 ((([] : List (List UInt8))).map fun x => [.v (str x)]), .sl 1 ((([] : List (List UInt8))).map fun x => [.v (str x)])]) eA (by repeat (first | exact WkL.nil | refine WkL.cons ?_ ?_ | exact Wk.refl _ | exact Wk.nil _))) ?_
  refine .same ⟨by exact extA (Ext.refl hw), by (simp -implicitDefEqProofs (disch := omega) [go_sem] <;> omega), ?_, ?_, ?_, ?_, ?_, ?_, ?_, ?_, ?_⟩ <;> (simp -implicitDefEqProofs (disch := omega) [go_sem] <;> omega)
 rintro I15 hI15 ⟨v16, v17, v18, v19, v20⟩ x15 tm15 H15 ⟨he15, hl15, t0_15, t1_15, t5_15, t6_15, t7_15, ob0_15, ob1_15, ob2_15, ob3_15⟩ h hret15
 replace h : F5_b15 a0 v16 v17 v18 v19 v20 = some x15 := h
 unfold F5_b15 at h
 refine IWp_seqF fun cb hc68 => ?_
 refine wF (nd t0_15 t7_15) ?_
 refine IWp_cond_i h eA rfl ?_ ?_
 ·intro c70 h
  refine vO ?_
  subst hc68
  refine IWp_seqF fun cb hc71 => ?_
  refine IWp_block ?_
  refine IWp_drawP [] [0, 1, 2, 3, 4, 5, 6, 7, 8, 9, 10] (by kernel_rfl) (by kernel_rfl) (fun _ _ _ _ h => h) ?_
  obtain ⟨g72, h⟩ := gd_some.1 h
  obtain ⟨g73, h⟩ := gd_some.1 h
  obtain ⟨g74, h⟩ := gS h
  refine sF (nd t0_15 (nd t5_15 (nd t6_15 (nd t7_15 (nd ob3_15 (nd g72 g74)))))) ?_
  obtain ⟨x75, hx75, h⟩ := bind_some' h
  refine ICalls.eqA eA (F13_ok v18 v19 v17 v20 (a0.getD v16.toNat S41.zero) (H.next + 1) (H.next + 2) (H.next + 3) (by assumption) (by assumption) (by assumption) (by omega) hx75 ?_)
  obtain ⟨g76, h⟩ := gd_some.1 h
  refine sF (nd t6_15 (nd ob3_15 (nd g72 g76))) ?_
  subst hc71
  refine vF t7_15 ?_
  obtain rfl := Option.some.inj h
  refine loopN_mk hI15 ((IntKind.i64.wrap (v16 + 1), x75.2.2.1, x75.2.2.2.1, x75.2.2.2.2, x75.1)) ?_
  refine .same ⟨by exact extA he15, by (simp -implicitDefEqProofs (disch := omega) [go_sem] <;> omega), ?_, ?_, ?_, ?_, ?_, ?_, ?_, ?_, ?_⟩ <;> (simp -implicitDefEqProofs (disch := omega) [go_sem, t0_15, t1_15, t5_15, t6_15] <;> omega)
 intro c70 h
 simp (disch := omega) at c70
 refine vO ?_
 obtain rfl := Option.some.inj h
 have hy15 := hret15 _ rfl
 refine hc15 _ _ ?_
 refine .same ⟨v17, v18, v19, v20, hy15, by exact extA he15, by with_reducible assumption, ?_, ?_, ?_, ?_, ?_, ?_, ?_⟩ <;> first | with_reducible assumption | (simp -implicitDefEqProofs (disch := omega) [go_sem, t1_15, t5_15, t6_15] <;> omega)

/-! (*cardcase/pairs.Pairs).none -/

/-! (*cardcase/pairs.Pairs).Card -/

/-! (*cardcase/pairs.Pairs).none -/

/-! (*cardcase/pairs.Pairs).Entry -/

/-! (*cardcase/pairs.Pairs).Promised -/

/-! (*cardcase/pairs.Pairs).All -/

/-! (*cardcase/pairs.Pairs).Promise -/

/-! (*cardcase/pairs.Pairs).Clear -/

/-! (*cardcase/pairs.Pairs).Add -/

/-! (*cardcase/pairs.Pairs).Set -/

/-! (*cardcase/pairs.Pairs).Drop -/

/-! (*cardcase/pairs.Pairs).Promised -/

/-! (*cardcase/pairs.Pairs).All -/

end Go.Idl

namespace Go.Idl

set_option maxHeartbeats 8000000

set_option pp.deepTerms false

set_option maxRecDepth 60000

open Go Go.Proofs.Tryz

/-! (*cardcase/pairs.Pairs).Rows -/

/-! (*cardcase/pairs.Pairs).Len -/

/-! (*cardcase/pairs.Pairs).Copy -/

/-! cardcase/pairs.Same -/

/-! cardcase/pairs.Same -/

/-! cardcase/cardcaselaw20.PairsNil -/

end Go.Idl

namespace Go.Idl

open Go

variable {m : Mp} {n : Np} {pr : Option S33} {d : S35}

/-! ### The pair that is known -/

def annE : List (List Str) := [[[65, 110, 110]], [], [], [], [], [], [], []]

def oneE : S39 := ⟨[47, 98, 111, 111, 107, 47, 97], [117, 49], annE⟩

def twoE : S39 := ⟨[47, 98, 111, 111, 107, 47, 98], [117, 49], annE⟩

theorem bigE : bigC annE := by decide

theorem okE1 : okX oneE := ⟨by decide, by decide, bigE⟩

theorem okE2 : okX twoE := ⟨by decide, by decide, bigE⟩

theorem checkE : checkS annE = true := by decide

theorem add1 : addD [] oneE = ([oneE], 0) := by
  have h : goodB oneE = true := by decide
  unfold addD
  rw [if_pos h]
  rfl

theorem add2 : addD [oneE] twoE = ([oneE], 300) := by
  have h : goodB twoE = true := by decide
  have e1 : cardI [oneE] twoE.fHref = -1 := by decide
  have e2 : entI [oneE] twoE.fUuid = 0 := by decide
  unfold addD
  rw [if_pos h, e1, e2]
  rfl

theorem textE : textS annE = [102, 117, 108, 108, 32, 49, 10, 51, 32, 65, 110, 110, 10] := by
  have d1 : Lib.decDigits 1 = [49] := by unfold Lib.decDigits; rfl
  have d3 : Lib.decDigits 3 = [51] := by unfold Lib.decDigits; rfl
  have e : textS annE = (namesS.getD 0 [] ++ 32 :: Lib.decDigits 1 ++ [10]) ++ (Lib.decDigits 3 ++ 32 :: [65, 110, 110] ++ [10]) := by
    simp [textS, fieldT, annE]
  rw [e, d1, d3]
  rfl

theorem F11_eq : F11 = some true := by
  obtain ⟨m1, n1, e1, I1⟩ := F29_inv Inv.nil oneE okE1
  rw [show (⟨[], S33.zero⟩ : S35).fL = [] from rfl, add1] at e1 I1
  obtain ⟨m2, n2, e2, I2⟩ := F29_inv I1 twoE okE2
  rw [show (⟨[oneE], S33.zero⟩ : S35).fL = [oneE] from rfl, add2] at e2 I2
  have h31 : F31 = some annE := rfl
  have h8 : annE.length = 8 := rfl
  have g1 : mget n2 [117, 49] = some oneE.fHref := I2.tabs.getU (x := oneE) (by simp)
  have g2 : mget m2 oneE.fHref = some oneE := I2.tabs.get (x := oneE) (by simp)
  have h18 : F18 m2 n2 none [117, 49] = some (oneE, true) := by
    rw [F18_eq I2, g1]
    simp only [Option.getD_some]
    rw [g2]; rfl
  have h61 : F61 annE = some (textS annE, 0) := by
    unfold F61
    rw [gd_pos (by decide), if_pos checkE, if_pos checkE]
  have h33 : F33 m2 n2 none = some [(⟨[112] ++ oneE.fHref, (oneE.fUuid ++ [10]) ++ textS annE⟩ : S78)] := by
    unfold F33
    rw [F26_eq I2]
    simp only [Option.bind_some, Option.isSome_none, Bool.false_eq_true, if_false]
    rw [gd_pos I2.psh]
    unfold F33_k3
    rw [F14_eq I2]
    simp only [Option.bind_some]
    rw [gd_pos I2.bigs]
    unfold rangeR
    have hen : enumI [oneE] = [((0 : Int), oneE)] := rfl
    rw [hen, rangeO_cons]
    have hs : F33_b9 ((0 : Int), oneE) [] = some (.inl [(⟨[112] ++ oneE.fHref, (oneE.fUuid ++ [10]) ++ textS annE⟩ : S78)]) := by
      unfold F33_b9
      rw [gd_pos (show ((0 : Int), oneE).2.fShadow.length = 8 from rfl), show ((0 : Int), oneE).2.fShadow = annE from rfl, h61]
      simp only [Option.bind_some]
      rw [textE]
      rw [gd_pos (by decide), gd_pos (by decide), gd_pos (by decide), gd_pos (by decide)]
      rfl
    rw [hs]
    rfl
  unfold F11
  rw [show F12 = some ([], [], none) from rfl, h31]
  simp only [Option.bind_some]
  rw [gd_pos h8, show (⟨[47, 98, 111, 111, 107, 47, 97], [117, 49], annE⟩ : S39) = oneE from rfl, e1]
  simp only [Option.bind_some]
  rw [gd_pos h8, show (⟨[47, 98, 111, 111, 107, 47, 98], [117, 49], annE⟩ : S39) = twoE from rfl, e2]
  simp only [Option.bind_some]
  rw [h18]
  simp only [Option.bind_some]
  rw [gd_pos (show oneE.fShadow.length = 8 from rfl), h33, textE]
  rfl

/-! ### Any calls -/

end Go.Idl

namespace Go.Idl

open Go

variable {m : Mp} {n : Np} {pr : Option S33} {d : S35}

/-! ### Pairs that are not there -/

end Go.Idl

namespace Go.Idl

open Go Go.Lib

/-! ### Up to a byte -/

def cutS : List UInt8 → UInt8 → Option (List UInt8 × List UInt8)
  | [], _ => none
  | b :: s, x => if b = x then some ([], s) else (cutS s x).map fun p => (b :: p.1, p.2)

theorem cutS_some {x : UInt8} : ∀ {s a b : List UInt8}, cutS s x = some (a, b) ↔ s = a ++ x :: b ∧ x ∉ a
  | [], a, b => by simp [cutS]
  | c :: s, a, b => by
    unfold cutS
    by_cases h : c = x
    · subst h
      rw [if_pos rfl]
      constructor
      · rintro h; cases h; simp
      · rintro ⟨h1, h2⟩
        cases a with
        | nil => simp at h1; simp [h1]
        | cons d a => simp at h1; exact absurd (by simp [h1.1]) h2
    · rw [if_neg h]
      constructor
      · intro h'
        obtain ⟨⟨a', b'⟩, h1, h2⟩ := Option.map_eq_some_iff.1 h'
        cases h2
        obtain ⟨h3, h4⟩ := cutS_some.1 h1
        exact ⟨by simp [h3], by simp [h4, Ne.symm h]⟩
      · rintro ⟨h1, h2⟩
        cases a with
        | nil => simp at h1; exact absurd h1.1 h
        | cons d a =>
          simp at h1 h2
          rw [cutS_some.2 ⟨h1.2, h2.2⟩, h1.1]
          rfl

/-! ### Numerals -/

theorem digitVal_some {c : UInt8} {d : Nat} : digitVal c = some d ↔ 48 ≤ c.toNat ∧ c.toNat ≤ 57 ∧ d = c.toNat - 48 := by
  unfold digitVal
  split
  · rename_i h; simp; constructor
    · rintro rfl; exact ⟨h.1, h.2, rfl⟩
    · rintro ⟨_, _, rfl⟩; rfl
  · rename_i h; simp; omega

theorem decFrom_app : ∀ (l : List UInt8) (acc : Nat) (c : UInt8), decFrom acc (l ++ [c]) = (decFrom acc l).bind fun n => (digitVal c).map fun d => n * 10 + d
  | [], acc, c => by
    simp only [List.nil_append, decFrom]
    cases digitVal c <;> simp
  | b :: l, acc, c => by
    simp only [List.cons_append, decFrom]
    cases digitVal b with
    | none => simp
    | some d => simp [decFrom_app l]

theorem dig_of {d : Nat} (h : d < 10) : digitVal (UInt8.ofNat (48 + d)) = some d := by
  have e : (UInt8.ofNat (48 + d)).toNat = 48 + d := by simp [UInt8.toNat_ofNat']; omega
  exact digitVal_some.2 ⟨by omega, by omega, by omega⟩

theorem decFrom_dec (n : Nat) : decFrom 0 (decDigits n) = some n := by
  induction n using Nat.strongRecOn with
  | _ n ih =>
    unfold decDigits
    split
    · rename_i h
      have := decFrom_app [] 0 (UInt8.ofNat (48 + n))
      simp only [List.nil_append] at this
      rw [this, dig_of h]
      simp [decFrom]
    · rename_i h
      rw [decFrom_app, ih (n / 10) (by omega), dig_of (Nat.mod_lt _ (by omega))]
      simp
      omega

theorem dec_inj {n m : Nat} (h : decDigits n = decDigits m) : n = m := by
  have h1 := decFrom_dec n
  rw [h, decFrom_dec] at h1
  exact (Option.some.inj h1).symm

theorem dec_digit (n : Nat) : ∀ c, c ∈ decDigits n → 48 ≤ c.toNat ∧ c.toNat ≤ 57 := by
  induction n using Nat.strongRecOn with
  | _ n ih =>
    have one : ∀ d, d < 10 → 48 ≤ (UInt8.ofNat (48 + d)).toNat ∧ (UInt8.ofNat (48 + d)).toNat ≤ 57 := fun d hd => by
      obtain ⟨h1, h2, _⟩ := digitVal_some.1 (dig_of hd)
      exact ⟨h1, h2⟩
    intro c hc
    unfold decDigits at hc
    split at hc
    · rename_i h
      rw [List.mem_singleton.1 hc]
      exact one n h
    · rename_i h
      rcases List.mem_append.1 hc with hc | hc
      · exact ih (n / 10) (by omega) c hc
      · rw [List.mem_singleton.1 hc]
        exact one _ (Nat.mod_lt _ (by omega))

theorem dec_len_le (n k : Nat) (h : n < 10 ^ (k + 1)) : (decDigits n).length ≤ k + 1 := by
  induction k generalizing n with
  | zero => rw [decDigits, dif_pos (by simpa using h)]; simp
  | succ k ih =>
    rw [decDigits]
    split
    · simp
    · have := ih (n / 10) (by rw [Nat.pow_succ] at h; omega)
      simp; omega

noncomputable def numS (s : List UInt8) (m : Nat) : Option Nat := by
  classical exact if h : ∃ n, 1 ≤ n ∧ n ≤ m ∧ decDigits n = s then some h.choose else none

theorem numS_some {s : List UInt8} {m n : Nat} : numS s m = some n ↔ 1 ≤ n ∧ n ≤ m ∧ decDigits n = s := by
  unfold numS
  split
  · rename_i h
    have hc := h.choose_spec
    constructor
    · intro e; rw [← Option.some.inj e]; exact hc
    · rintro ⟨_, _, h3⟩
      rw [dec_inj (hc.2.2.trans h3.symm)]
  · rename_i h
    constructor
    · intro e; cases e
    · intro e; exact absurd ⟨n, e⟩ h

end Go.Idl

namespace Go.Idl

open Go Go.Lib

abbrev StrC := List UInt8

/-! ### Values up to a length -/

noncomputable def valM (m : Nat) (s : StrC) : Option (StrC × StrC) := (cutS s 32).bind fun p => (numS p.1 m).bind fun n => if n < p.2.length ∧ p.2.getD n 0 = 10 then some (p.2.take n, p.2.drop (n + 1)) else none

noncomputable def valsM (m : Nat) : Nat → StrC → Option (List StrC × StrC)
  | 0, s => some ([], s)
  | n + 1, s => (valM m s).bind fun p => (valsM m n p.2).map fun q => (p.1 :: q.1, q.2)

def valC (v : StrC) : StrC := decDigits v.length ++ 32 :: v ++ [10]

theorem valM_valC (m : Nat) (v rest : StrC) (h1 : 1 ≤ v.length) (h2 : v.length ≤ m) : valM m (valC v ++ rest) = some (v, rest) := by
  have e : valC v ++ rest = decDigits v.length ++ 32 :: (v ++ 10 :: rest) := by simp [valC]
  have hn : (32 : UInt8) ∉ decDigits v.length := fun h => by have := dec_digit _ _ h; simp at this
  unfold valM
  rw [e, cutS_some.2 ⟨rfl, hn⟩]
  simp only [Option.bind_some]
  rw [numS_some.2 ⟨h1, h2, rfl⟩]
  simp

theorem valsM_valC (m : Nat) (rest : StrC) : ∀ (l : List StrC), (∀ v, v ∈ l → 1 ≤ v.length ∧ v.length ≤ m) → valsM m l.length (l.flatMap valC ++ rest) = some (l, rest)
  | [], _ => rfl
  | v :: l, h => by
    have hv := h v (by simp)
    simp only [List.length_cons, valsM, List.flatMap_cons, List.append_assoc]
    rw [valM_valC m v _ hv.1 hv.2]
    simp only [Option.bind_some]
    rw [valsM_valC m rest l fun w hw => h w (by simp [hw])]
    rfl

/-! ### Fields -/

def namesC : List StrC := [[102, 117, 108, 108], [103, 105, 118, 101, 110], [102, 97, 109, 105, 108, 121], [111, 114, 103], [116, 105, 116, 108, 101], [110, 111, 116, 101], [109, 97, 105, 108], [112, 104, 111, 110, 101]]

def fixN (nm : StrC) : Option Nat := namesC.findIdx? fun x => decide (x = nm)

theorem fixN_name (i : Nat) (h : i < 8) : fixN (namesC.getD i []) = some i := by
  match i, h with
  | 0, _ | 1, _ | 2, _ | 3, _ | 4, _ | 5, _ | 6, _ | 7, _ => decide

theorem name_no (i : Nat) (h : i < 8) : (32 : UInt8) ∉ namesC.getD i [] := by
  match i, h with
  | 0, _ | 1, _ | 2, _ | 3, _ | 4, _ | 5, _ | 6, _ | 7, _ => decide

noncomputable def fldS (s : StrC) : Option (Nat × List StrC × StrC) := (cutS s 32).bind fun p => (cutS p.2 10).bind fun q => (fixN p.1).bind fun i => (numS q.1 8).bind fun n => (valsM 200 n q.2).map fun r => (i, r.1, r.2)

noncomputable def conS : Nat → Nat → StrC → List (List StrC) → Option (List (List StrC))
  | 0, _, s, c => if s = [] then some c else none
  | f + 1, k, s, c => if s = [] then some c else (fldS s).bind fun p => if p.1 < k then none else conS f (p.1 + 1) p.2.2 (c.set p.1 p.2.1)

def fieldC (i : Nat) (l : List StrC) : StrC := (if l = [] then [] else namesC.getD i [] ++ 32 :: decDigits l.length ++ [10]) ++ l.flatMap valC

def textC (c : List (List StrC)) : Nat → Nat → StrC
  | 0, _ => []
  | n + 1, i => fieldC i (c.getD i []) ++ textC c n (i + 1)

theorem fldS_fieldC (i : Nat) (l : List StrC) (rest : StrC) (hi : i < 8) (h1 : l ≠ []) (h2 : l.length ≤ 8) (hv : ∀ v, v ∈ l → 1 ≤ v.length ∧ v.length ≤ 200) : fldS (fieldC i l ++ rest) = some (i, l, rest) := by
  have e : fieldC i l ++ rest = namesC.getD i [] ++ 32 :: (decDigits l.length ++ 10 :: (l.flatMap valC ++ rest)) := by simp [fieldC, h1]
  have hd : (10 : UInt8) ∉ decDigits l.length := fun h => by have := dec_digit _ _ h; simp at this
  have hp : 0 < l.length := List.length_pos_iff.2 h1
  unfold fldS
  rw [e, cutS_some.2 ⟨rfl, name_no i hi⟩]
  simp only [Option.bind_some]
  rw [cutS_some.2 ⟨rfl, hd⟩]
  simp only [Option.bind_some]
  rw [fixN_name i hi]
  simp only [Option.bind_some]
  rw [numS_some.2 ⟨hp, h2, rfl⟩]
  simp only [Option.bind_some]
  rw [valsM_valC 200 rest l hv]
  rfl

theorem fieldC_ne (i : Nat) (l : List StrC) (rest : StrC) (h : l ≠ []) : fieldC i l ++ rest ≠ [] := by simp [fieldC, h]

theorem conS_textC (c : List (List StrC)) (hc : c.length = 8) (h2 : ∀ l, l ∈ c → l.length ≤ 8) (hv : ∀ l, l ∈ c → ∀ v, v ∈ l → 1 ≤ v.length ∧ v.length ≤ 200) : ∀ (n i f k : Nat) (d : List (List StrC)), i + n = 8 → n ≤ f → k ≤ i → d.length = 8 → (∀ j, j < i → d.getD j [] = c.getD j []) → (∀ j, i ≤ j → d.getD j [] = []) → conS f k (textC c n i) d = some c
  | 0, i, f, k, d, hi, hf, hk, hd, h3, h4 => by
    have e : d = c := List.ext_getElem (by omega) fun j q1 q2 => by
      have := h3 j (by omega)
      rw [List.getD_eq_getElem?_getD, List.getD_eq_getElem?_getD, List.getElem?_eq_getElem q1, List.getElem?_eq_getElem q2] at this
      simpa using this
    cases f <;> simp [conS, textC, e]
  | n + 1, i, f, k, d, hi, hf, hk, hd, h3, h4 => by
    have hic : i < c.length := by omega
    have hg : c.getD i [] = c[i] := by rw [List.getD_eq_getElem?_getD, List.getElem?_eq_getElem hic]; rfl
    unfold textC
    by_cases hl : c.getD i [] = []
    · have e : fieldC i (c.getD i []) = [] := by rw [hl]; simp [fieldC]
      rw [e, List.nil_append]
      refine conS_textC c hc h2 hv n (i + 1) f k d (by omega) (by omega) (by omega) hd (fun j hj => ?_) (fun j hj => h4 j (by omega))
      rcases Nat.lt_or_ge j i with q | q
      · exact h3 j q
      · rw [show j = i by omega, hl, h4 i (Nat.le_refl _)]
    · cases f with
      | zero => omega
      | succ f =>
        have hm : c.getD i [] ∈ c := by rw [hg]; exact List.getElem_mem _
        unfold conS
        rw [if_neg (fieldC_ne i _ _ hl), fldS_fieldC i _ _ (by omega) hl (h2 _ hm) (hv _ hm)]
        simp only [Option.bind_some]
        rw [if_neg (by omega)]
        refine conS_textC c hc h2 hv n (i + 1) f (i + 1) _ (by omega) (by omega) (Nat.le_refl _) (by simpa using hd) (fun j hj => ?_) (fun j hj => ?_)
        · rcases Nat.lt_or_ge j i with q | q
          · have := h3 j q
            rw [List.getD_eq_getElem?_getD] at this ⊢
            rw [List.getElem?_set_ne (by omega)]
            exact this
          · rw [show j = i by omega, List.getD_eq_getElem?_getD, List.getElem?_set_self (by omega)]
            rfl
        · have := h4 j (by omega)
          rw [List.getD_eq_getElem?_getD] at this ⊢
          rw [List.getElem?_set_ne (by omega)]
          exact this

end Go.Idl

namespace Go.Idl

open Go Go.Lib

/-! ### The text of a contact -/

theorem check_vals {c : List (List Str)} (hc : c.length = 8) (h : checkS c = true) : (∀ l, l ∈ c → l.length ≤ 8) ∧ (∀ l, l ∈ c → ∀ v, v ∈ l → 1 ≤ v.length ∧ v.length ≤ 200) ∧ (c.getD 0 []).length = 1 := by
  have hi := (check_iff c hc).1 h
  have hv : ∀ l, l ∈ c → l.length ≤ 8 ∧ ∀ v, v ∈ l → 1 ≤ v.length ∧ v.length ≤ 200 := by
    intro l hl
    obtain ⟨i, h1, rfl⟩ := List.getElem_of_mem hl
    have := hi i h1
    unfold valuesR fieldOk at this
    simp only [Bool.and_eq_true, decide_eq_true_eq, Bool.not_eq_true', List.any_eq_false] at this
    refine ⟨?_, fun v hv => ?_⟩
    · have := this.1.1.1
      unfold mostS at this
      split at this <;> omega
    · have := this.1.1.2 v hv
      simp [valueS] at this
      exact ⟨by have := this.2.1; cases v with | nil => simp at * | cons a b => simp, this.2.2⟩
  refine ⟨fun l hl => (hv l hl).1, fun l hl => (hv l hl).2, ?_⟩
  unfold checkS at h
  simp only [Bool.and_eq_true, decide_eq_true_eq] at h
  exact h.2

theorem check_tiny {c : List (List Str)} (hc : c.length = 8) (h : checkS c = true) : tinyC c := by
  obtain ⟨h1, h2, _⟩ := check_vals hc h
  exact ⟨hc, fun l hl => ⟨by have := h1 l hl; omega, fun s hs => by have := h2 l hl s hs; omega⟩⟩

theorem textS_C (c : List (List Str)) (hc : c.length = 8) : textS c = textC c 8 0 := by
  match c, hc with
  | [a, b, d, e, f, g, h, i], _ =>
    have hf : ∀ (i : Nat) (l : List Str), fieldT i l = fieldC i l := fun _ _ => rfl
    simp [textS, textC, hf, List.zipIdx]

theorem textS_con (c : List (List Str)) (hc : c.length = 8) (h : checkS c = true) : conS 8 0 (textS c) (List.replicate 8 []) = some c := by
  obtain ⟨h1, h2, _⟩ := check_vals hc h
  rw [textS_C c hc]
  refine conS_textC c hc h1 h2 8 0 _ 0 _ (by omega) (Nat.le_refl _) (Nat.le_refl _) (by simp) (fun j hj => by omega) (fun j _ => ?_)
  rw [List.getD_eq_getElem?_getD, List.getElem?_replicate]
  split <;> rfl

theorem textS_inj {c c' : List (List Str)} (hc : c.length = 8) (hc' : c'.length = 8) (h : checkS c = true) (h' : checkS c' = true) (e : textS c = textS c') : c = c' := by
  have h1 := textS_con c hc h
  rw [e, textS_con c' hc' h'] at h1
  exact (Option.some.inj h1).symm

theorem valsC_len (l : List Str) (h1 : l.length ≤ 8) (h : ∀ s, s ∈ l → s.length ≤ 200) : (l.flatMap valC).length ≤ l.length * 403 := by
  clear h1
  induction l with
  | nil => simp
  | cons s l ih =>
    have h1 := h s (by simp)
    have h2 := ih fun s hs => h s (by simp [hs])
    have h3 := dec_len_le s.length 3 (by simp; omega)
    simp only [List.flatMap_cons, List.length_append, List.length_cons, valC, List.length_nil]
    omega

theorem textS_len (c : List (List Str)) (hc : c.length = 8) (h : checkS c = true) : (textS c).length ≤ 100000 := by
  obtain ⟨h1, h2, _⟩ := check_vals hc h
  have hf : ∀ (i : Nat) (l : List Str), l ∈ c → (fieldC i l).length ≤ 8000 := fun i l hl => by
    have q1 := h1 l hl
    have q2 := valsC_len l q1 (fun s hs => (h2 l hl s hs).2)
    have q3 := dec_len_le l.length 3 (by simp; omega)
    have q4 : (namesC.getD i []).length ≤ 10 := by
      match i with
      | 0 | 1 | 2 | 3 | 4 | 5 | 6 | 7 => simp [namesC]
      | i + 8 => simp [namesC]
    unfold fieldC
    split
    · simp only [List.nil_append]; omega
    · simp only [List.length_append, List.length_cons, List.length_nil]; omega
  rw [textS_C c hc]
  match c, hc, hf with
  | [a, b, d, e, f, g, h, i], _, hf =>
    have := hf 0 a (by simp); have := hf 1 b (by simp); have := hf 2 d (by simp); have := hf 3 e (by simp)
    have := hf 4 f (by simp); have := hf 5 g (by simp); have := hf 6 h (by simp); have := hf 7 i (by simp)
    simp only [textC, List.length_append, List.length_nil, List.getD_cons_zero, List.getD_cons_succ, Nat.zero_add, Nat.reduceAdd]
    omega

/-! ### The text of a name -/

def hexS : Str := [48, 49, 50, 51, 52, 53, 54, 55, 56, 57, 97, 98, 99, 100, 101, 102]

def hexD (n : Nat) : UInt8 := hexS.getD n 0

def hexV (x : UInt8) : Option Nat := hexS.findIdx? fun y => decide (y = x)

def signB (x : UInt8) : Bool := decide (x = 44 ∨ x = 43 ∨ x = 34 ∨ x = 92 ∨ x = 60 ∨ x = 62 ∨ x = 59 ∨ x = 61)

def oddB (x : UInt8) : Bool := decide (x.toNat < 32 ∨ 126 < x.toNat)

def encB (first last : Bool) (x : UInt8) : Str :=
  if oddB x = true then [92, hexD (x.toNat / 16), hexD (x.toNat % 16)]
  else if (signB x || (first && decide (x = 32 ∨ x = 35)) || (last && decide (x = 32))) = true then [92, x] else [x]

def encV (first : Bool) : Str → Str
  | [] => []
  | x :: r => encB first r.isEmpty x ++ encV false r

def decV : Nat → Str → Str × Str
  | 0, s => ([], s)
  | _ + 1, [] => ([], [])
  | n + 1, 92 :: a :: s =>
    match hexV a with
    | some i => match s with
      | b :: s => let r := decV n s; (UInt8.ofNat (i * 16 + (hexV b).getD 0) :: r.1, r.2)
      | [] => ([], [])
    | none => let r := decV n s; (a :: r.1, r.2)
  | n + 1, x :: s => if x = 44 then ([], x :: s) else let r := decV n s; (x :: r.1, r.2)

set_option maxRecDepth 100000 in
theorem hexV_hexD : ∀ i : Fin 16, hexV (hexD i.1) = some i.1 := by decide

theorem hexV_D (i : Nat) (h : i < 16) : hexV (hexD i) = some i := hexV_hexD ⟨i, h⟩

theorem hexV_none {x : UInt8} (h : (decide (x = 44 ∨ x = 43 ∨ x = 34 ∨ x = 92 ∨ x = 60 ∨ x = 62 ∨ x = 59 ∨ x = 61) || decide (x = 32 ∨ x = 35)) = true) : hexV x = none := by
  simp only [Bool.or_eq_true, decide_eq_true_eq] at h
  rcases h with (h | h | h | h | h | h | h | h) | (h | h) <;> subst h <;> rfl

theorem decV_enc (n : Nat) (first last : Bool) (x : UInt8) (s : Str) : decV (n + 1) (encB first last x ++ s) = (x :: (decV n s).1, (decV n s).2) := by
  unfold encB
  by_cases h1 : oddB x = true
  · rw [if_pos h1]
    have hx := x.toNat_lt
    simp only [List.cons_append, List.nil_append, decV]
    rw [hexV_D _ (by omega)]
    simp only
    rw [hexV_D _ (by omega)]
    have e : x.toNat / 16 * 16 + (some (x.toNat % 16)).getD 0 = x.toNat := by simp only [Option.getD_some]; omega
    rw [e]
    simp
  · rw [if_neg h1]
    by_cases h2 : (signB x || (first && decide (x = 32 ∨ x = 35)) || (last && decide (x = 32))) = true
    · rw [if_pos h2]
      have h3 : hexV x = none := by
        refine hexV_none ?_
        simp only [signB, Bool.or_eq_true, Bool.and_eq_true, decide_eq_true_eq] at h2 ⊢
        rcases h2 with (h | h) | h
        · exact .inl h
        · exact .inr h.2
        · exact .inr (.inl h.2)
      simp only [List.cons_append, List.nil_append, decV]
      rw [h3]
    · rw [if_neg h2]
      have hs : signB x = false := by
        simp only [Bool.not_eq_true, Bool.or_eq_false_iff] at h2
        exact h2.1.1
      simp only [signB, decide_eq_false_iff_not, not_or] at hs
      have e : decV (n + 1) (x :: s) = if x = 44 then ([], x :: s) else (x :: (decV n s).1, (decV n s).2) := by
        rw [decV.eq_def]
        split
        · rename_i h; cases h
        · rename_i h; cases h
        · rename_i h; simp only [List.cons.injEq] at h; exact absurd h.1 hs.2.2.2.1
        · rename_i a b c d h
          simp only [List.cons.injEq] at h
          obtain ⟨rfl, rfl⟩ := h
          obtain rfl := Nat.succ.inj d
          rfl
      rw [List.singleton_append, e, if_neg hs.1]

theorem decV_encV : ∀ (v : Str) (first : Bool) (n : Nat) (s : Str), v.length ≤ n → (s = [] ∨ ∃ r, s = 44 :: r) → decV (n + 1) (encV first v ++ s) = (v, s)
  | [], first, n, s, _, hs => by
    rcases hs with rfl | ⟨r, rfl⟩
    · simp [encV, decV]
    · simp [encV, decV]
  | x :: v, first, n, s, hn, hs => by
    cases n with
    | zero => simp at hn
    | succ n =>
      rw [encV, List.append_assoc, decV_enc, decV_encV v false n s (by simpa using hn) hs]

def textD : List S89 → Str
  | [] => []
  | r :: d => r.fType ++ 61 :: (encV true r.fValue ++ match d with | [] => [] | _ :: _ => 44 :: textD d)

theorem cut_inj {c : UInt8} : ∀ {a b x y : Str}, c ∉ a → c ∉ b → a ++ c :: x = b ++ c :: y → a = b ∧ x = y
  | [], [], x, y, _, _, h => by simpa using h
  | [], z :: b, x, y, _, hb, h => by
    simp only [List.nil_append, List.cons_append, List.cons.injEq] at h
    exact absurd h.1 (fun e => hb (by simp [e]))
  | z :: a, [], x, y, ha, _, h => by
    simp only [List.nil_append, List.cons_append, List.cons.injEq] at h
    exact absurd h.1.symm (fun e => ha (by simp [e]))
  | z :: a, w :: b, x, y, ha, hb, h => by
    simp only [List.cons_append, List.cons.injEq] at h
    obtain ⟨e1, e2⟩ := cut_inj (a := a) (b := b) (fun q => ha (by simp [q])) (fun q => hb (by simp [q])) h.2
    exact ⟨by rw [h.1, e1], e2⟩

theorem name_no61 {s : Str} (h : nameS s = true) : (61 : UInt8) ∉ s := by
  intro hm
  simp only [nameS, Bool.and_eq_true, List.all_eq_true] at h
  have := h.2 _ hm
  simp [worB, letB] at this

theorem textD_inj : ∀ {d d' : List S89}, (∀ x ∈ d, rdnB x = true) → (∀ x ∈ d', rdnB x = true) → textD d = textD d' → d = d'
  | [], [], _, _, _ => rfl
  | [], r :: d, _, _, h => by simp [textD] at h
  | r :: d, [], _, _, h => by simp [textD] at h
  | r :: d, r' :: d', h, h', e => by
    have hr := h r (by simp)
    have hr' := h' r' (by simp)
    simp only [rdnB, Bool.and_eq_true, decide_eq_true_eq] at hr hr'
    obtain ⟨e1, e2⟩ := cut_inj (name_no61 hr.1.1) (name_no61 hr'.1.1) e
    have k : ∀ (d : List S89), ((match d with | [] => [] | _ :: _ => 44 :: textD d : Str) = [] ∨ ∃ r, (match d with | [] => [] | _ :: _ => 44 :: textD d : Str) = 44 :: r) := fun d => by
      cases d with
      | nil => exact .inl rfl
      | cons a b => exact .inr ⟨_, rfl⟩
    have q1 := decV_encV r.fValue true (r.fValue.length + r'.fValue.length) _ (by omega) (k d)
    have q2 := decV_encV r'.fValue true (r.fValue.length + r'.fValue.length) _ (by omega) (k d')
    rw [e2, q2] at q1
    simp only [Prod.mk.injEq] at q1
    have er : r = r' := by
      cases r; cases r'
      simp only at e1 q1
      rw [e1, q1.1]
    have ed : d = d' := by
      have q := q1.2
      cases d with
      | nil => cases d' with
        | nil => rfl
        | cons a b => simp at q
      | cons a b => cases d' with
        | nil => simp at q
        | cons a' b' =>
          simp only [List.cons.injEq, true_and] at q
          exact textD_inj (fun x hx => h x (by simp [hx])) (fun x hx => h' x (by simp [hx])) q.symm
    rw [er, ed]

theorem encB_no10 (f l : Bool) (x : UInt8) : (10 : UInt8) ∉ encB f l x := by
  unfold encB
  have hh : ∀ i, i < 16 → hexD i ≠ 10 := fun i hi => by
    have : ∀ i : Fin 16, hexD i.1 ≠ 10 := by decide
    exact this ⟨i, hi⟩
  have hx := x.toNat_lt
  split
  · simp only [List.mem_cons, List.not_mem_nil, or_false, not_or]
    exact ⟨by decide, (hh _ (by omega)).symm, (hh _ (by omega)).symm⟩
  · rename_i h
    have : x ≠ 10 := by
      rintro rfl
      exact h rfl
    split
    · simp only [List.mem_cons, List.not_mem_nil, or_false, not_or]
      exact ⟨by decide, this.symm⟩
    · simp only [List.mem_cons, List.not_mem_nil, or_false]
      exact this.symm

theorem encV_no10 : ∀ (v : Str) (f : Bool), (10 : UInt8) ∉ encV f v
  | [], _ => by simp [encV]
  | x :: v, f => by
    simp only [encV, List.mem_append, not_or]
    exact ⟨encB_no10 _ _ _, encV_no10 v false⟩

theorem textD_no10 : ∀ {d : List S89}, (∀ x ∈ d, rdnB x = true) → (10 : UInt8) ∉ textD d
  | [], _ => by simp [textD]
  | r :: d, h => by
    have hr := h r (by simp)
    simp only [rdnB, Bool.and_eq_true, nameS, List.all_eq_true] at hr
    have h1 : (10 : UInt8) ∉ r.fType := fun hm => by
      have := hr.1.1.2 _ hm
      simp [worB, letB] at this
    have h2 := encV_no10 r.fValue true
    have h3 := textD_no10 (d := d) fun x hx => h x (by simp [hx])
    cases d with
    | nil => simp [textD, h1, h2]
    | cons a b =>
      simp only [textD] at h3 ⊢
      simp only [List.mem_append, List.mem_cons, not_or] at h3 ⊢
      exact ⟨h1, by decide, h2, by decide, h3⟩

theorem encB_len (f l : Bool) (x : UInt8) : (encB f l x).length ≤ 3 := by
  unfold encB
  split
  · simp
  · split <;> simp

theorem encV_len : ∀ (v : Str) (f : Bool), (encV f v).length ≤ 3 * v.length
  | [], _ => by simp [encV]
  | x :: v, f => by
    have := encB_len f v.isEmpty x
    have := encV_len v false
    simp only [encV, List.length_append, List.length_cons]
    omega

theorem textD_len : ∀ {d : List S89}, (∀ x ∈ d, rdnB x = true) → (textD d).length ≤ 1000 * d.length
  | [], _ => by simp [textD]
  | r :: d, h => by
    have hr := h r (by simp)
    simp only [rdnB, nameS, Bool.and_eq_true, decide_eq_true_eq] at hr
    have h2 := encV_len r.fValue true
    have h3 := textD_len (d := d) fun x hx => h x (by simp [hx])
    have h4 : (textD (r :: d)).length ≤ r.fType.length + 2 + (encV true r.fValue).length + (textD d).length := by
      cases d with
      | nil => simp only [textD, List.length_append, List.length_cons, List.append_nil, List.length_nil]; omega
      | cons a b => simp only [textD, List.length_append, List.length_cons]; omega
    simp only [List.length_cons]
    omega

end Go.Idl

namespace Go.Idl

open Go Go.Lib

def signsT : List (Int × Bool) := mset (mset (mset (mset (mset (mset (mset (mset [] 44 true) 43 true) 34 true) 92 true) 60 true) 62 true) 59 true) 61 true

theorem signs_256 : ∀ n : Fin 256, (mget signsT (n.1 : Int)).getD false = signB (UInt8.ofNat n.1) := by decide +kernel

theorem signs_get (x : UInt8) : (mget signsT (x.toNat : Int)).getD false = signB x := by
  have := signs_256 ⟨x.toNat, x.toNat_lt⟩
  simpa using this

theorem and15_256 : ∀ n : Fin 256, andI .u8 (n.1 : Int) 15 = ((n.1 % 16 : Nat) : Int) := by decide +kernel

theorem and15 (x : UInt8) : andI .u8 (x.toNat : Int) 15 = ((x.toNat % 16 : Nat) : Int) := and15_256 ⟨x.toNat, x.toNat_lt⟩

theorem div16 (x : UInt8) : ((x.toNat : Nat) : Int).fdiv 16 = ((x.toNat / 16 : Nat) : Int) := by
  rw [Int.fdiv_eq_ediv_of_nonneg _ (by omega)]; omega

theorem F91_36 (s out : Str) (i : Nat) (b : Bool) (hi : i < s.length) (hl : s.length ≤ 1000000) (ho : out.length ≤ 10000000) : F91_k36 s (i : Int) out b = some (.inl (out ++ (if b = true then [92, s[i]] else [s[i]]), ((i + 1 : Nat) : Int))) := by
  have hx := s[i].toNat_lt
  unfold F91_k36
  rw [Int.toNat_natCast, getD_some hi, wrap_nat (by omega)]
  cases b with
  | true =>
    simp only [if_true]
    rw [gd_pos (by simp; omega), gd_pos (by omega), gd_pos (by simp; omega)]
    simp
  | false =>
    simp only [Bool.false_eq_true, if_false]
    rw [gd_pos (by omega), gd_pos (by simp; omega)]
    simp

set_option maxRecDepth 20000 in
theorem F91_step (s out : Str) (i : Nat) (hi : i < s.length) (hl : s.length ≤ 1000000) (ho : out.length ≤ 10000000) :
    F91_b8 s signsT out (i : Int) = some (.inl (out ++ encB (decide (i = 0)) (decide (i + 1 = s.length)) s[i], ((i + 1 : Nat) : Int))) := by
  have hx := s[i].toNat_lt
  have hgd : s.getD i 0 = s[i] := getD_some hi _
  have hw : IntKind.i64.wrap ((s.length : Int) - 1) = (s.length : Int) - 1 := wrap_i64 (by omega) (by omega)
  have hlast : ((i : Int) = (s.length : Int) - 1) ↔ i + 1 = s.length := by omega
  have hk := fun b => F91_36 s out i b hi hl ho
  simp only [F91_b8]
  rw [if_pos (by omega), gd_pos (by omega), Int.toNat_natCast, hgd, signs_get, and15, div16, hw]
  simp only [hk, Int.toNat_natCast, UInt8.ofNat_toNat]
  generalize s[i] = x at *
  have h16 : x.toNat % 16 < 16 := by omega
  have h16' : x.toNat / 16 < 16 := by omega
  have q1 := (([48, 49, 50, 51, 52, 53, 54, 55, 56, 57, 97, 98, 99, 100, 101, 102] : List UInt8).getD (x.toNat / 16) 0).toNat_lt
  have q2 := (([48, 49, 50, 51, 52, 53, 54, 55, 56, 57, 97, 98, 99, 100, 101, 102] : List UInt8).getD (x.toNat % 16) 0).toNat_lt
  unfold encB oddB
  by_cases a1 : x.toNat < 32
  · rw [if_pos (by omega), if_pos (by simp; omega), gd_pos (by simp; omega), gd_pos (by simp; omega), gd_pos (by omega), gd_pos (by omega), gd_pos (by simp; omega), wrap_nat (by omega)]
    rfl
  · rw [if_neg (by omega)]
    by_cases a2 : 126 < x.toNat
    · rw [if_pos (by omega), if_pos (by simp; omega), gd_pos (by simp; omega), gd_pos (by simp; omega), gd_pos (by omega), gd_pos (by omega), gd_pos (by simp; omega), wrap_nat (by omega)]
      rfl
    · rw [if_neg (by omega), if_neg (c := decide (x.toNat < 32 ∨ 126 < x.toNat) = true) (by simp; omega)]
      by_cases a3 : signB x = true
      · simp [a3]
      · have e32 : x = 32 ↔ x.toNat = 32 := by rw [← UInt8.toNat_inj]; rfl
        have e35 : x = 35 ↔ x.toNat = 35 := by rw [← UInt8.toNat_inj]; rfl
        have f32 : ((x.toNat : Int) = 32) ↔ x.toNat = 32 := by omega
        have f35 : ((x.toNat : Int) = 35) ↔ x.toNat = 35 := by omega
        have fi : ((i : Int) = 0) ↔ i = 0 := by omega
        simp only [a3, hlast, e32, e35, f32, f35, fi, Bool.false_eq_true, if_false, Bool.false_or, Bool.or_eq_true, Bool.and_eq_true, decide_eq_true_eq, if_true]
        by_cases b1 : i = 0
        · by_cases b2 : x.toNat = 32
          · simp [b1, b2]
          · by_cases b3 : x.toNat = 35
            · simp [b1, b3]
            · by_cases b4 : i + 1 = s.length
              · simp [b1, b2, b3]
              · simp [b1, b2, b3]
        · by_cases b4 : i + 1 = s.length
          · simp [b1, b4]
          · simp [b1, b4]

theorem F91_loop (s : Str) (hl : s.length ≤ 1000000) : ∀ (k j : Nat) (out : Str), j + k = s.length → out.length ≤ 3 * j →
    loopO (fun (v : Str × Int) => F91_b8 s signsT v.1 v.2) (out, (j : Int)) = some (out ++ encV (decide (j = 0)) (s.drop j))
  | 0, j, out, h, ho => by
    refine loopO_done ?_
    simp only [F91_b8]
    rw [if_neg (by omega), List.drop_of_length_le (by omega)]
    simp [encV]
  | k + 1, j, out, h, ho => by
    have hj : j < s.length := by omega
    rw [loopO_more (F91_step s out j hj hl (by omega)), F91_loop s hl k (j + 1) _ (by omega) (by
      have := encB_len (decide (j = 0)) (decide (j + 1 = s.length)) s[j]
      rw [List.length_append]; omega)]
    rw [List.drop_eq_getElem_cons hj, encV, List.append_assoc]
    have e1 : (s.drop (j + 1)).isEmpty = decide (j + 1 = s.length) := by
      by_cases q : j + 1 = s.length
      · rw [decide_eq_true q, List.drop_of_length_le (by omega)]; rfl
      · rw [decide_eq_false q, List.drop_eq_getElem_cons (by omega)]; rfl
    rw [e1]
    simp

theorem F91_eq (s : Str) (hl : s.length ≤ 1000000) : F91 s = some (encV true s) := by
  unfold F91
  rw [show F127 = some signsT from rfl]
  simp only [Option.bind_some]
  have := F91_loop s hl s.length 0 [] (by omega) (by simp)
  rw [show ((0 : Nat) : Int) = 0 from rfl] at this
  rw [gd_pos (by omega), this]
  simp [F91_k8]

def tailT (d : List S89) : Str := match d with | [] => [] | _ :: _ => 44 :: textD d

theorem textD_cons (r : S89) (d : List S89) : textD (r :: d) = r.fType ++ 61 :: (encV true r.fValue ++ tailT d) := rfl

theorem F60_21 (d : List S89) (i : Nat) (hi : i < d.length) (hl : d.length ≤ 16) (hr : rdnB d[i] = true) (out : Str) (ho : out.length ≤ 1000000) : F60_k21 d (i : Int) out = some (.inl (out ++ (d[i].fType ++ 61 :: encV true d[i].fValue), ((i + 1 : Nat) : Int))) := by
  simp only [rdnB, nameS, Bool.and_eq_true, decide_eq_true_eq] at hr
  have h2 := encV_len d[i].fValue true
  have hg : d.getD i S89.zero = d[i] := getD_some hi _
  unfold F60_k21
  rw [Int.toNat_natCast, hg, F91_eq _ (by omega), wrap_nat (by omega)]
  simp only [Option.bind_some]
  rw [gd_pos (by simp; omega), gd_pos (by simp; omega), gd_pos (by simp; omega)]
  simp

theorem F60_loop (d : List S89) (hl : d.length ≤ 16) (h : ∀ x ∈ d, rdnB x = true) : ∀ (k j : Nat) (out : Str), j + k = d.length → out.length ≤ 1000 * j →
    loopO (fun (s : Str × Int) => F60_b10 d s.1 s.2) (out, (j : Int)) = some (out ++ if j = 0 then textD d else tailT (d.drop j))
  | 0, j, out, hk, ho => by
    refine loopO_done ?_
    simp only [F60_b10]
    rw [if_neg (by omega)]
    by_cases h0 : j = 0
    · have : d = [] := List.length_eq_zero_iff.1 (by omega)
      simp [h0, this, textD]
    · rw [if_neg h0, List.drop_of_length_le (by omega)]
      simp [tailT]
  | k + 1, j, out, hk, ho => by
    have hj : j < d.length := by omega
    have hm := h _ (List.getElem_mem hj)
    have hr := hm
    simp only [rdnB, nameS, Bool.and_eq_true, decide_eq_true_eq] at hr
    have h2 := encV_len d[j].fValue true
    have key : F60_b10 d out (j : Int) = some (.inl ((out ++ if j = 0 then [] else [44]) ++ (d[j].fType ++ 61 :: encV true d[j].fValue), ((j + 1 : Nat) : Int))) := by
      simp only [F60_b10]
      rw [if_pos (by omega), gd_pos (by omega)]
      by_cases h0 : j = 0
      · rw [if_neg (by omega), if_pos h0, List.append_nil, F60_21 d j hj hl hm out (by omega)]
      · rw [if_pos (by omega), if_neg h0, gd_pos (by simp; omega), F60_21 d j hj hl hm _ (by simp; omega)]
    rw [loopO_more (s' := ((out ++ if j = 0 then [] else [44]) ++ (d[j].fType ++ 61 :: encV true d[j].fValue), ((j + 1 : Nat) : Int))) key, F60_loop d hl h k (j + 1) _ (by omega) (by
      simp only [List.length_append, List.length_cons]
      have : (if j = 0 then [] else [44] : Str).length ≤ 1 := by split <;> simp
      omega)]
    have hn : ¬ j + 1 = 0 := by omega
    by_cases h0 : j = 0
    · subst h0
      match d, hj with
      | r :: d, _ => simp [textD_cons]
    · rw [if_neg h0, if_neg h0, if_neg hn, List.drop_eq_getElem_cons hj]
      simp only [tailT, textD_cons]
      simp

theorem F60_eq (d : List S89) (h : rightD d = true) : F60 d = some (textD d, 0) := by
  have h' := h
  simp only [rightD, Bool.and_eq_true, decide_eq_true_eq, List.all_eq_true] at h'
  have hb : bigD d := ⟨by omega, fun x hx => by
    have := h'.2 x hx
    simp only [rdnB, nameS, Bool.and_eq_true, decide_eq_true_eq] at this
    omega⟩
  unfold F60
  rw [F54_eq d hb, if_pos h]
  simp only [Option.bind_some]
  have := F60_loop d h'.1 h'.2 d.length 0 [] (by omega) (by simp)
  rw [show ((0 : Nat) : Int) = 0 from rfl] at this
  rw [if_neg (by simp), this]
  simp [F60_k10]

end Go.Idl

namespace Go.Idl

open Go Go.Lib

variable {m : Mp} {n : Np} {pr : Option S33} {d : S35}

/-! ### Rows -/

def rowX (x : S39) : S78 := ⟨[112] ++ x.fHref, (x.fUuid ++ [10]) ++ textS x.fShadow⟩

def rowP (y : S33) : S78 := ⟨[105], Lib.join [y.fHref, y.fUuid, textD y.fDn, textS y.fShadow] [10]⟩

def rowsD (d : S35) : List S78 := (if d.fP.fHref = [] then [] else [rowP d.fP]) ++ d.fL.map rowX

theorem join4 (a b c e : Str) : Lib.join [a, b, c, e] [10] = a ++ 10 :: (b ++ 10 :: (c ++ 10 :: e)) := by
  simp [Lib.join, List.intercalate, List.intersperse]

theorem right_dn {y : S33} (h : rightPr y = true) : rightD y.fDn = true := by
  simp only [rightPr, Bool.and_eq_true, Bool.or_eq_true, decide_eq_true_eq] at h
  rcases h.1 with h1 | h1
  · rw [h1.2]; rfl
  · exact h1.2.2

theorem right_all {d : List S89} (h : rightD d = true) : ∀ x ∈ d, rdnB x = true := by
  simp only [rightD, Bool.and_eq_true, List.all_eq_true] at h
  exact h.2

theorem href_no10 {s : Str} (h : hrefS s = true) : (10 : UInt8) ∉ s := by
  intro hm
  simp only [hrefS, markS, Bool.and_eq_true, decide_eq_true_eq, List.all_eq_true] at h
  rw [← List.take_append_drop 6 s, List.mem_append] at hm
  rcases hm with hm | hm
  · rw [h.1] at hm
    simp [rootL] at hm
  · have := h.2.1 _ hm
    simp [plainB] at this

theorem uuid_no10 {s : Str} (h : uuidS s = true) : (10 : UInt8) ∉ s := by
  intro hm
  simp only [uuidS, Bool.and_eq_true, List.all_eq_true] at h
  have := h.1 _ hm
  simp [uuidB] at this

theorem promise_parts {y : S33} (h : rightPr y = true) : (10 : UInt8) ∉ y.fHref ∧ (10 : UInt8) ∉ y.fUuid ∧ checkS y.fShadow = true := by
  have h' := h
  simp only [rightPr, Bool.and_eq_true, Bool.or_eq_true, decide_eq_true_eq] at h'
  refine ⟨href_no10 h'.2.1, ?_, h'.2.2⟩
  rcases h'.1 with h1 | h1
  · exact uuid_no10 h1.1
  · rw [h1.1]; simp

theorem rowP_inj {y y' : S33} (h : rightPr y = true) (h' : rightPr y' = true) (h8 : y.fShadow.length = 8) (h8' : y'.fShadow.length = 8) (e : rowP y = rowP y') : y = y' := by
  obtain ⟨a1, a2, a3⟩ := promise_parts h
  obtain ⟨b1, b2, b3⟩ := promise_parts h'
  have q1 := right_all (right_dn h)
  have q2 := right_all (right_dn h')
  simp only [rowP, S78.mk.injEq, true_and, join4] at e
  obtain ⟨e1, e⟩ := cut_inj a1 b1 e
  obtain ⟨e2, e⟩ := cut_inj a2 b2 e
  obtain ⟨e3, e⟩ := cut_inj (textD_no10 q1) (textD_no10 q2) e
  have e4 := textD_inj q1 q2 e3
  have e5 := textS_inj h8 h8' a3 b3 e
  cases y; cases y'
  simp only at e1 e2 e4 e5
  rw [e1, e2, e4, e5]

theorem rowX_inj {x x' : S39} (h : goodB x = true) (h' : goodB x' = true) (h8 : x.fShadow.length = 8) (h8' : x'.fShadow.length = 8) (e : rowX x = rowX x') : x = x' := by
  simp only [goodB, Bool.and_eq_true] at h h'
  simp only [rowX, S78.mk.injEq, List.append_assoc, List.cons_append, List.nil_append, List.cons.injEq, true_and] at e
  obtain ⟨e2, e3⟩ := cut_inj (uuid_no10 h.1.2) (uuid_no10 h'.1.2) e.2
  have e4 := textS_inj h8 h8' h.2 h'.2 e3
  have e1 := e.1
  cases x; cases x'
  simp only at e1 e2 e4
  rw [e1, e2, e4]

theorem rows_inj {l l' : List S39} (h : ∀ x ∈ l, goodB x = true ∧ okX x) (h' : ∀ x ∈ l', goodB x = true ∧ okX x) (e : l.map rowX = l'.map rowX) : l = l' := by
  induction l generalizing l' with
  | nil => cases l' with
    | nil => rfl
    | cons a b => simp at e
  | cons a l ih => cases l' with
    | nil => simp at e
    | cons b l' =>
      simp only [List.map_cons, List.cons.injEq] at e
      have q := h a (by simp)
      have q' := h' b (by simp)
      rw [rowX_inj q.1 q'.1 q.2.2.2.1 q'.2.2.2.1 e.1, ih (fun x hx => h x (by simp [hx])) (fun x hx => h' x (by simp [hx])) e.2]

theorem rowP_ne {y : S33} {l : List S39} {l' : List S78} : ¬ rowP y :: l' = l.map rowX := by
  intro e
  cases l with
  | nil => simp at e
  | cons a b =>
    simp only [List.map_cons, List.cons.injEq, rowP, rowX, S78.mk.injEq] at e
    have := e.1.1
    simp at this

theorem Inv.pcase (I : Inv m n pr d) : (d.fP.fHref = [] ∧ pr = none ∧ d.fP = S33.zero) ∨ (¬ d.fP.fHref = [] ∧ pr = some d.fP ∧ rightPr d.fP = true) := by
  rcases I.pro with ⟨e1, e2⟩ | ⟨e1, e2, e3⟩
  · exact .inl ⟨by rw [e2]; rfl, e1, e2⟩
  · have : hrefS d.fP.fHref = true := by
      simp only [rightPr, Bool.and_eq_true] at e2
      exact e2.2.1
    exact .inr ⟨href_ne this, e1, e2⟩

theorem rowsD_inj {m' : Mp} {n' : Np} {pr' : Option S33} {d' : S35} (I : Inv m n pr d) (I' : Inv m' n' pr' d') : rowsD d = rowsD d' ↔ d = d' := by
  refine ⟨fun e => ?_, fun e => by rw [e]⟩
  unfold rowsD at e
  have fin : d.fP = d'.fP → d.fL.map rowX = d'.fL.map rowX → d = d' := fun e1 e2 => by
    have e3 := rows_inj I.good I'.good e2
    cases d; cases d'
    simp only at e1 e3
    rw [e1, e3]
  rcases I.pcase with ⟨a1, _, a3⟩ | ⟨a1, _, a3⟩ <;> rcases I'.pcase with ⟨b1, _, b3⟩ | ⟨b1, _, b3⟩
  · rw [if_pos a1, if_pos b1, List.nil_append, List.nil_append] at e
    exact fin (by rw [a3, b3]) e
  · rw [if_pos a1, if_neg b1, List.nil_append] at e
    exact absurd e.symm rowP_ne
  · rw [if_neg a1, if_pos b1, List.nil_append] at e
    exact absurd e rowP_ne
  · rw [if_neg a1, if_neg b1] at e
    simp only [List.cons_append, List.nil_append, List.cons.injEq] at e
    exact fin (rowP_inj a3 b3 I.psh I'.psh e.1) e.2

theorem good_parts {x : S39} (h : goodB x = true ∧ okX x) : F61 x.fShadow = some (textS x.fShadow, 0) ∧ (textS x.fShadow).length ≤ 100000 := by
  have hc : checkS x.fShadow = true := by
    have := h.1
    simp only [goodB, Bool.and_eq_true] at this
    exact this.2
  have h8 := h.2.2.2.1
  refine ⟨?_, textS_len _ h8 hc⟩
  unfold F61
  rw [gd_pos (check_tiny h8 hc), if_pos hc, if_pos hc]

theorem F33_loop (I : Inv m n pr d) (l : List S78) (hl : l.length ≤ 1) : F33_k3 m n pr l = some (l ++ d.fL.map rowX) := by
  have h64 := I.len
  unfold F33_k3
  rw [F14_eq I]
  simp only [Option.bind_some]
  rw [gd_pos I.bigs]
  obtain ⟨s', h1, h2⟩ := rangeO_inv (ρ := List S78) (step := fun (el12 : Int × S39) (s : List S78) => F33_b9 el12 s) (fun k s => s = l ++ (d.fL.take k).map rowX) (enumI d.fL) 0 l (by simp)
    (fun i hi s hs => by
      have hi' : i < d.fL.length := by rwa [enumI_length] at hi
      have hg := I.good _ (List.getElem_mem hi')
      have hx := I.sh _ (List.getElem_mem hi')
      obtain ⟨t1, t2⟩ := good_parts hg
      have o1 := hg.2.1
      have o2 := hg.2.2.1
      have hsl : s.length ≤ 100 := by rw [hs]; simp; omega
      rw [enumI_el hi]
      simp only [F33_b9]
      rw [gd_pos hx, t1]
      simp only [Option.bind_some]
      rw [gd_pos (by simp; omega), gd_pos (by simp; omega), gd_pos (by simp; omega), gd_pos (by simp; omega)]
      refine ⟨_, rfl, ?_⟩
      rw [hs, Nat.zero_add, List.take_succ_eq_append_getElem hi', List.map_append, List.append_assoc]
      rfl)
  unfold rangeR
  rw [h1]
  simp only [Option.map_some, Sum.elim_inl, Option.bind_some, F33_k9]
  rw [h2, Nat.zero_add, enumI_length, List.take_of_length_le (Nat.le_refl _)]

theorem F33_eq (I : Inv m n pr d) : F33 m n pr = some (rowsD d) := by
  unfold F33 rowsD
  rw [F26_eq I, I.prs]
  simp only [Option.bind_some]
  rw [gd_pos I.psh]
  rcases I.pcase with ⟨a1, _, _⟩ | ⟨a1, _, a3⟩
  · rw [if_pos a1, if_neg (by simpa using a1), F33_loop I [] (by simp)]
  · obtain ⟨p1, p2, p3⟩ := promise_parts a3
    have hd := right_dn a3
    have h8 := I.psh
    have hb := I.prbig
    have t := textS_len _ h8 p3
    have hd16 : d.fP.fDn.length ≤ 16 := by
      simp only [rightD, Bool.and_eq_true, decide_eq_true_eq] at hd
      exact hd.1
    have td := textD_len (right_all hd)
    have e61 : F61 d.fP.fShadow = some (textS d.fP.fShadow, 0) := by
      unfold F61
      rw [gd_pos (check_tiny h8 p3), if_pos p3, if_pos p3]
    have o1 := hb.1
    have o2 := hb.2.1
    rw [if_neg a1, if_pos (by simpa using a1), F60_eq _ hd, e61]
    simp only [Option.bind_some]
    have e62 : F62 [d.fP.fHref, d.fP.fUuid, textD d.fP.fDn, textS d.fP.fShadow] [10] = some (rowP d.fP).fValue := by
      unfold F62
      refine gd_pos ⟨by simp, ?_⟩
      rw [join4]
      simp only [List.length_append, List.length_cons]
      omega
    rw [e62]
    simp only [Option.bind_some]
    rw [gd_pos (by simp), F33_loop I _ (by simp)]
    rfl

/-! ### Sameness -/

theorem F50_eq (a b : List S78) (hl : a.length ≤ 1000000) : F50 a b = some (decide (a = b)) := by
  unfold F50
  by_cases h : a.length = b.length
  · rw [if_neg (by omega), loopO_all (a.zip b) (fun p => decide (p.1 = p.2)) (by simp; omega)
      (fun i hi => by
        have hi1 : i < a.length := by simp at hi; omega
        have hi2 : i < b.length := by simp at hi; omega
        simp only [F50_b8]
        rw [if_pos (by omega), gd_pos (by omega), gd_pos (by omega), Int.toNat_natCast, getD_some hi1, getD_some hi2, List.getElem_zip]
        have e : (a[i].fKey = b[i].fKey ∧ a[i].fValue = b[i].fValue) ↔ a[i] = b[i] := by
          generalize a[i] = x
          generalize b[i] = y
          cases x; cases y
          simp
        simp only [e, decide_eq_true_eq]
        by_cases q : a[i] = b[i]
        · rw [if_neg (by simpa using q), if_pos q]
        · rw [if_pos q, if_neg q])
      (by simp only [F50_b8]; rw [if_neg (by simp; omega)])]
    have key : (a.zip b).all (fun p => decide (p.1 = p.2)) = decide (a = b) := by
      clear hl
      induction a generalizing b with
      | nil => cases b with
        | nil => rfl
        | cons x y => simp at h
      | cons x a ih => cases b with
        | nil => simp at h
        | cons y b =>
          simp only [List.zip_cons_cons, List.all_cons]
          rw [ih b (by simpa using h)]
          by_cases q : x = y <;> simp [q]
    rw [key]
    by_cases q : a = b
    · simp [q, F50_k8]
    · simp [q]
  · rw [if_pos (by omega), decide_eq_false (by rintro rfl; exact h rfl)]

theorem F24_eq (a b : List S39) (hl : a.length ≤ 1000000) (ha : ∀ x ∈ a, x.fShadow.length = 8) (hb : ∀ x ∈ b, x.fShadow.length = 8) : F24 a b = some (decide (a = b)) := by
  unfold F24
  by_cases h : a.length = b.length
  · rw [if_neg (by omega), loopO_all (a.zip b) (fun p => decide (p.1 = p.2)) (by simp; omega)
      (fun i hi => by
        have hi1 : i < a.length := by simp at hi; omega
        have hi2 : i < b.length := by simp at hi; omega
        have q1 := ha _ (List.getElem_mem hi1)
        have q2 := hb _ (List.getElem_mem hi2)
        simp only [F24_b8]
        rw [if_pos (by omega), gd_pos (by omega), Int.toNat_natCast, getD_some hi1, getD_some hi2, gd_pos q1, gd_pos (by omega), gd_pos q2, List.getElem_zip, F19_eq _ _ q1 q2]
        simp only [Option.bind_some, decide_eq_true_eq]
        by_cases q : a[i] = b[i]
        · rw [if_neg (by simpa using q), if_pos q]
        · rw [if_pos q, if_neg q])
      (by simp only [F24_b8]; rw [if_neg (by simp; omega)])]
    have key : (a.zip b).all (fun p => decide (p.1 = p.2)) = decide (a = b) := by
      clear hl ha hb
      induction a generalizing b with
      | nil => cases b with
        | nil => rfl
        | cons x y => simp at h
      | cons x a ih => cases b with
        | nil => simp at h
        | cons y b =>
          simp only [List.zip_cons_cons, List.all_cons]
          rw [ih b (by simpa using h)]
          by_cases q : x = y <;> simp [q]
    rw [key]
    by_cases q : a = b
    · simp [q, F24_k8]
    · simp [q]
  · rw [if_pos (by omega), decide_eq_false (by rintro rfl; exact h rfl)]

theorem F23_eq {m' : Mp} {n' : Np} {pr' : Option S33} {d' : S35} (I : Inv m n pr d) (I' : Inv m' n' pr' d') : F23 m n pr m' n' pr' = some (decide (d = d')) := by
  unfold F23 F42
  simp only [Option.bind_some]
  rw [F33_eq I, F33_eq I']
  have h64 := I.len
  simp only [Option.bind_some]
  rw [F50_eq _ _ (by
    unfold rowsD
    split <;> simp <;> omega)]
  simp only [Option.bind_some]
  rw [decide_eq_decide.2 (rowsD_inj I I')]

/-! ### Copies -/

theorem insL_end {α : Type} {hf : α → Str} (x : α) : ∀ (l : List α), (∀ y ∈ l, lt8 (hf y) (hf x)) → insL hf x l = l ++ [x]
  | [], _ => by simp [insL, cutL]
  | y :: l, h => by
    rw [insL_cons, if_pos (h y (by simp)), insL_end x l fun z hz => h z (by simp [hz])]
    rfl

theorem F22_eq (I : Inv m n pr d) : ∃ m' n' pr', F22 m n pr = some (m', n', pr') ∧ Inv m' n' pr' d := by
  have h64 := I.len
  unfold F22 F42
  rw [F14_eq I, show F12 = some ([], [], none) from rfl]
  simp only [Option.bind_some]
  rw [gd_pos I.bigs]
  obtain ⟨s', h1, h2⟩ := rangeO_inv (ρ := Mp × Np) (step := fun (el13 : Int × S39) (s : Mp × Np) => F22_b10 el13 s.1 s.2) (fun k s => Tabs (fun x : S39 => x.fHref) (fun x : S39 => x.fUuid) s.1 s.2 (d.fL.take k)) (enumI d.fL) 0 ([], []) (by simpa using Tabs.nil)
    (fun i hi s hs => by
      have hi' : i < d.fL.length := by rwa [enumI_length] at hi
      have hx := I.sh _ (List.getElem_mem hi')
      rw [Nat.zero_add] at hs
      rw [enumI_el hi]
      simp only [F22_b10, F49]
      rw [gd_pos hx, gd_pos hx]
      simp only [Option.bind_some]
      refine ⟨_, rfl, ?_⟩
      have q1 : ∀ y ∈ d.fL.take i, lt8 y.fHref d.fL[i].fHref := fun y hy => by
        obtain ⟨j, hj, rfl⟩ := List.getElem_of_mem hy
        rw [List.getElem_take]
        rw [List.length_take] at hj
        exact List.pairwise_iff_getElem.1 I.tabs.rise j i _ _ (by omega)
      have q2 : ∀ y ∈ d.fL.take i, ¬ y.fUuid = d.fL[i].fUuid := fun y hy => by
        obtain ⟨j, hj, rfl⟩ := List.getElem_of_mem hy
        rw [List.getElem_take]
        rw [List.length_take] at hj
        exact List.pairwise_iff_getElem.1 I.tabs.uu j i _ _ (by omega)
      have := hs.add (x := d.fL[i]) (fun y hy e => by have := q1 y hy; rw [e] at this; exact lt8_irrefl _ this) q2
      rw [insL_end _ _ q1, ← List.take_succ_eq_append_getElem hi'] at this
      rw [Nat.zero_add]
      exact this)
  rw [Nat.zero_add, enumI_length, List.take_of_length_le (Nat.le_refl _)] at h2
  unfold rangeR
  rw [h1]
  simp only [Option.map_some, Sum.elim_inl, Option.bind_some, F22_k10]
  rw [F26_eq I]
  simp only [Option.bind_some]
  rw [gd_pos I.psh]
  rcases I.pcase with ⟨_, a2, a3⟩ | ⟨_, a2, a3⟩
  · subst a2
    exact ⟨s'.1, s'.2, none, rfl, ⟨h2, I.good, I.len, .inl ⟨rfl, a3⟩⟩⟩
  · subst a2
    exact ⟨s'.1, s'.2, some d.fP, rfl, ⟨h2, I.good, I.len, .inr ⟨rfl, a3, I.prbig⟩⟩⟩

/-! ### Copies go on apart -/

theorem loop5 (l : List S41) (hl : l.length ≤ 1000) (h : ∀ a ∈ l, okA a) {step : Int × (Option S33) × Mp × Np × S35 → Option ((Int × (Option S33) × Mp × Np × S35) ⊕ ((Option S33) × Mp × Np × S35))}
    (hs : ∀ s, step s = if s.1 < (l.length : Int) then (gd (s.2.2.2.2.fP.fShadow.length = 8) (gd (0 ≤ s.1 ∧ s.1 < l.length) (gd ((((l.getD s.1.toNat S41.zero).fPairing).fShadow).length = 8) ((F13 s.2.2.1 s.2.2.2.1 s.2.1 s.2.2.2.2 (l.getD s.1.toNat S41.zero)).bind fun (x66 : S35 × Bool × (Option S33) × (List (List UInt8 × S39)) × (List (List UInt8 × (List UInt8)))) => gd (x66.1.fP.fShadow.length = 8) (some (.inl ((IntKind.i64.wrap (s.1 + 1), x66.2.2.1, x66.2.2.2.1, x66.2.2.2.2, x66.1)))))))) else (some (.inr (s.2.1, s.2.2.1, s.2.2.2.1, s.2.2.2.2))))
    (I0 : Inv m n pr d) : ∃ m' n' pr' d', loopO step (0, pr, m, n, d) = some (pr', m', n', d') ∧ Inv m' n' pr' d' := by
  obtain ⟨r, h1, h2⟩ := loopO_inv (step := step) (Post := fun y => ∃ m n pr d, y = (pr, m, n, d) ∧ Inv m n pr d)
    (fun s => ∃ i : Nat, i ≤ l.length ∧ s.1 = (i : Int) ∧ Inv s.2.2.1 s.2.2.2.1 s.2.1 s.2.2.2.2) (fun s => l.length - s.1.toNat)
    (by
      rintro ⟨k, pr, m, n, d⟩ ⟨i, hi, hk, I⟩
      simp only at hk I
      subst hk
      rw [hs]
      simp only
      by_cases hlt : i < l.length
      · have hw := wrap_nat (i := i) (by omega)
        have hl64 := I.len
        obtain ⟨m', n', pr', I', hf⟩ := F13_inv I l[i] (h _ (List.getElem_mem _))
        left
        rw [if_pos (by omega), gd_pos I.psh, gd_pos (by omega), Int.toNat_natCast, getD_some hlt, gd_pos (h _ (List.getElem_mem hlt)).1.2.2.1, hf d (by omega) I.sh I.psh]
        simp only [Option.bind_some]
        rw [gd_pos I'.psh, hw]
        exact ⟨_, rfl, ⟨i + 1, by omega, rfl, I'⟩, by simp; omega⟩
      · right
        rw [if_neg (by omega)]
        exact ⟨_, rfl, _, _, _, _, rfl, I⟩)
    (s := (0, pr, m, n, d)) ⟨0, by omega, rfl, I0⟩
  obtain ⟨m, n, pr, d, rfl, I⟩ := h2
  exact ⟨m, n, pr, d, h1, I⟩

theorem F5_eq (l1 l2 : List S41) (h1 : ∀ a ∈ l1, memA a) (h2 : ∀ a ∈ l2, memA a) (hl1 : l1.length ≤ 2000000) (hl2 : l2.length ≤ 2000000) : F5 l1 l2 = some true := by
  have hm : ∀ a ∈ l1 ++ l2, memA a := fun a ha => (List.mem_append.1 ha).elim (h1 a) (h2 a)
  unfold F5
  rw [gd_pos (by omega), gd_pos (by omega), F10_eq _ 40 (by omega) hm, F11_eq]
  simp only [Option.bind_some]
  by_cases h0 : (decide (((l1 ++ l2).length : Int) ≤ 40) && (l1 ++ l2).all fewA) = true
  · rw [if_neg (by simpa using h0), show F12 = some ([], [], none) from rfl]
    simp only [Bool.and_eq_true, decide_eq_true_eq, List.all_eq_true, List.length_append] at h0
    have hok : ∀ a ∈ l1 ++ l2, okA a := fun a ha => fewA_ok (h0.2 a ha) (hm a ha).1
    obtain ⟨m1, n1, p1, d1, e1, I1⟩ := loop5 (step := fun (s : Int × (Option S33) × Mp × Np × S35) => F5_b15 l1 s.1 s.2.1 s.2.2.1 s.2.2.2.1 s.2.2.2.2) l1 (by omega) (fun a ha => hok a (by simp [ha])) (fun _ => rfl) Inv.nil
    simp only [Option.bind_some]
    rw [zeroP_eq, e1]
    simp only [Option.bind_some, F5_k15]
    obtain ⟨m2, n2, p2, e2, I2⟩ := F22_eq I1
    rw [e2]
    simp only [Option.bind_some]
    rw [gd_pos I1.psh]
    obtain ⟨m3, n3, p3, d3, e3, I3⟩ := loop5 (step := fun (s : Int × (Option S33) × Mp × Np × S35) => F5_b31 l2 s.1 s.2.1 s.2.2.1 s.2.2.2.1 s.2.2.2.2) l2 (by omega) (fun a ha => hok a (by simp [ha])) (fun _ => rfl) I2
    rw [e3]
    have hL := I1.len
    simp only [Option.bind_some, F5_k31]
    rw [F20_eq I1, F20_eq I3, F23_eq I1 I3, F23_eq I3 I3, F24_eq _ _ (by omega) I1.sh I3.sh, F25_eq _ _ I1.psh I3.psh I1.prbig.2.2.1.1, F11_eq]
    simp only [Option.bind_some, if_true]
    rw [gd_pos I3.psh]
    by_cases q1 : d1.fL = d3.fL
    · rw [if_pos (by simpa using q1)]
      have hd : (d1 = d3) ↔ d1.fP = d3.fP := by
        constructor
        · rintro rfl; rfl
        · intro e
          cases d1; cases d3
          simp only at q1 e
          rw [q1, e]
      rw [if_pos (decide_eq_decide.2 hd)]
      simp
    · have hd : ¬ d1 = d3 := fun e => q1 (by rw [e])
      rw [if_neg (by simpa using q1), if_pos (by simpa using hd)]
      simp
  · rw [if_pos h0]

end Go.Idl

namespace Go.Idl

open Go Go.RowKit Go.ChangeShapes Go.WideShapes

def g0 : Gs := { oth := fun _ => False, mu := fun _ => undef, sh := fun _ => none, nx := 0 }

def H0 : IHeap := { next := 0, obj := fun _ => none, sn := [] }

theorem ow0 (b : Nat) : ¬ g0.ow b := by
  rintro (h | ⟨k, h, _⟩)
  · exact h
  · cases h

theorem below_of_mono {w w' : World} {g' : Gs} (m : Mono w g0 w' g') : Below w.heap.size w w' :=
  ⟨m.os, m.tape, m.output, m.size, fun k hk => m.keep k hk fun ⟨i, h, _⟩ => by cases h⟩

variable {P : Program} {w : World} {Hh : Type} {enc : TypeId × Value → Hh}

def Rd (P : Program) (w : World) {Hh : Type} (enc : TypeId × Value → Hh) (t : TypeId) (S : List IV → Prop) : Prop :=
  ∀ (base : Nat) (spare : Nat → Bool) (held : Bool) (fuel : Nat) (cs : List Value) (x : DataW Hh × List MemPlace), DataW.trod enc P w base spare held fuel t cs = some x →
    ∃ is, S is ∧ is.length = cs.length ∧ ∀ (j : Nat) (c : Value) (i : IV), cs[j]? = some c → is[j]? = some i → c.oneCell' = true ∧ R w g0 c i

theorem rd_one {c : Value} {i : IV} (ho : c.oneCell' = true) (hr : R w g0 c i) : ∀ (j : Nat) (c' : Value) (i' : IV), [c][j]? = some c' → [i][j]? = some i' → c'.oneCell' = true ∧ R w g0 c' i' := by
  intro j c' i' h1 h2
  cases j with
  | zero => simp at h1 h2; subst h1; subst h2; exact ⟨ho, hr⟩
  | succ j => simp at h1

theorem Rd_int {t : TypeId} {k : IntKind} (hu : P.underlying t = some (.int k)) : Rd P w enc t fun is => ∃ n : Int, is = [.v (.int k n)] := by
  intro base spare held fuel cs x h
  obtain ⟨n, rfl, _, _⟩ := DataW.trod_int hu h
  exact ⟨_, ⟨n, rfl⟩, rfl, rd_one rfl (.v _)⟩

theorem Rd_string {t : TypeId} (hu : P.underlying t = some .string) : Rd P w enc t fun is => ∃ s : List UInt8, is = [.v (str s)] := by
  intro base spare held fuel cs x h
  obtain ⟨s, rfl, _, _⟩ := DataW.trod_string hu h
  refine ⟨_, ⟨bytes s, rfl⟩, rfl, rd_one rfl ?_⟩
  rw [show str (bytes s) = .string s by rw [str, mk_bytes]]
  exact .v _

theorem choose_list {E : Type} (Pr : Nat → E → Prop) : ∀ n : Nat, (∀ i, i < n → ∃ x, Pr i x) → ∃ l : List E, l.length = n ∧ ∀ (i : Nat) (x : E), l[i]? = some x → Pr i x
  | 0, _ => ⟨[], rfl, by simp⟩
  | n + 1, h => by
    obtain ⟨l, h1, h2⟩ := choose_list Pr n fun i hi => h i (by omega)
    obtain ⟨x, hx⟩ := h n (by omega)
    refine ⟨l ++ [x], by simp [h1], fun i y hy => ?_⟩
    rcases Nat.lt_or_ge i n with hi | hi
    · rw [List.getElem?_append_left (by omega)] at hy
      exact h2 i y hy
    · rw [List.getElem?_append_right (by omega)] at hy
      have e : i = n := by
        have := (List.getElem?_eq_some_iff.1 hy).1
        simp at this; omega
      subst e
      simp [h1] at hy
      subst hy
      exact hx

theorem cells_get {base : Nat} {a : Addr} : ∀ {n : Nat} {cs : List Value}, w.cells? base a n = some cs → cs.length = n ∧ ∀ j, j < n → w.cell? (a.add j) = cs[j]? := by
  intro n cs h
  unfold World.cells? at h
  split at h
  · refine ⟨?_, fun j hj => ?_⟩
    · have := mapM_some_length h
      simpa using this
    · exact mapM_some_get h j j (by simp [hj])
  · cases h

theorem Rd_slice {t e : TypeId} {E : Type} (cells : E → List IV) (hu : P.underlying t = some (.slice e)) (h0 : 0 < P.cellsOf e) (he : Rd P w enc e fun is => ∃ x : E, is = cells x) :
    Rd P w enc t fun is => ∃ l : List E, is = [.sl (P.cellsOf e) (l.map cells)] := by
  intro base spare held fuel cs x h
  rcases DataW.trod_slice hu h with ⟨rfl, _⟩ | ⟨a, len, cap, elems, rest, n, _, rfl, _, hb, hl, hm, hlen, hel, _, _⟩
  · exact ⟨_, ⟨[], rfl⟩, rfl, rd_one rfl (.sl0 _ _ _)⟩
  · obtain ⟨l, l1, l2⟩ := choose_list (fun i (y : E) => (cells y).length = P.cellsOf e ∧ ∀ (j : Nat) (i' : IV), (cells y)[j]? = some i' → ∃ c, w.cell? ((a.add (i * P.cellsOf e)).add j) = some c ∧ c.oneCell' = true ∧ R w g0 c i') len (fun i hi => by
      have hei := hel i hi
      have hne : elems[i]? = some elems[i] := List.getElem?_eq_getElem (by omega)
      rw [hne, Option.bind_eq_some_iff] at hei
      obtain ⟨ci, hc, ht⟩ := hei
      obtain ⟨q1, q2⟩ := cells_get hc
      obtain ⟨is, ⟨y, rfl⟩, q3, q4⟩ := he _ _ _ _ _ _ ht
      refine ⟨y, by rw [q3, q1], fun j i' hj => ?_⟩
      have hjl : j < ci.length := by rw [← q3]; exact (List.getElem?_eq_some_iff.1 hj).1
      have := q4 j ci[j] i' (List.getElem?_eq_getElem hjl) hj
      exact ⟨ci[j], by rw [q2 j (by omega)]; exact List.getElem?_eq_getElem hjl, this⟩)
    refine ⟨_, ⟨l, rfl⟩, rfl, rd_one rfl ?_⟩
    by_cases hz : len = 0
    · subst hz
      have : l = [] := List.eq_nil_of_length_eq_zero l1
      subst this
      exact .sl0 _ _ _
    · have hlm : (l.map cells).length = len := by simp [l1]
      have h0l : 0 < l.length := by omega
      obtain ⟨q1, q2⟩ := l2 0 l[0] (List.getElem?_eq_getElem h0l)
      have hpos : 0 < (cells l[0]).length := by omega
      obtain ⟨c0, q3, _⟩ := q2 0 _ (List.getElem?_eq_getElem hpos)
      obtain ⟨b, off, spot⟩ := a
      have hsp : spot = none ∧ b < w.heap.size := by
        have e0 : ((⟨b, off, spot⟩ : Addr).add (0 * P.cellsOf e)).add 0 = ⟨b, off, spot⟩ := by simp [Addr.add]
        rw [e0] at q3
        unfold World.cell? at q3
        split at q3
        · rename_i hh
          refine ⟨?_, (Array.getElem?_eq_some_iff.1 hh).1⟩
          split at q3
          · cases q3
          · rename_i hs
            simpa using hs
        · cases q3
      obtain ⟨rfl, hlt⟩ := hsp
      rw [← hlm]
      refine .sl b off cap _ _ (fun i j => (w.cell? ⟨b, off + i * P.cellsOf e + j, none⟩).getD undef) (ow0 b) hlt (by rw [hlm]; have hm' : cap ≤ 9223372036854775807 := hm; unfold maxN; omega) (by omega) ?_ ?_ ?_ ?_
      · intro c hc
        obtain ⟨y, hy, rfl⟩ := List.mem_map.1 hc
        obtain ⟨i, hi⟩ := List.getElem?_of_mem hy
        exact (l2 i y hi).1
      all_goals
        intro i ee j c h1 h2
        simp only [List.getElem?_map, Option.map_eq_some_iff] at h1
        obtain ⟨y, hy, rfl⟩ := h1
        obtain ⟨c', r1, r2, r3⟩ := (l2 i y hy).2 j c h2
        rw [addr_add, addr_add] at r1
        first | (rw [r1]; rfl) | (simp only [r1, Option.getD_some]; first | exact r2 | exact r3)

theorem Rd_array {t e : TypeId} {E : Type} {n : Nat} (cell : E → IV) (hu : P.underlying t = some (.array n e)) (hc : P.cellsOf e = 1) (hct : P.cellsOf t = n) (he : Rd P w enc e fun is => ∃ x : E, is = [cell x]) :
    Rd P w enc t fun is => ∃ l : List E, l.length = n ∧ is = l.map cell := by
  intro base spare held fuel cs x h
  obtain ⟨xs, m, _, _, h1, h2, h3⟩ := DataW.trod_array hu h
  rw [hct] at h1
  obtain ⟨l, l1, l2⟩ := choose_list (fun i (y : E) => ∃ c, cs[i]? = some c ∧ c.oneCell' = true ∧ R w g0 c (cell y)) n (fun i hi => by
    have := h3 i hi
    rw [hc, Nat.mul_one] at this
    have hci : cs[i]? = some cs[i] := List.getElem?_eq_getElem (by omega)
    have hd : (cs.drop i).take 1 = [cs[i]] := by rw [List.drop_eq_getElem_cons (by omega)]; rfl
    rw [hd, List.getElem?_eq_getElem (by omega)] at this
    obtain ⟨is, ⟨y, rfl⟩, _, q4⟩ := he _ _ _ _ _ _ this
    exact ⟨y, cs[i], hci, q4 0 _ _ rfl rfl⟩)
  refine ⟨_, ⟨l, l1, rfl⟩, by simp [l1, h1], fun j c i h4 h5 => ?_⟩
  simp only [List.getElem?_map, Option.map_eq_some_iff] at h5
  obtain ⟨y, hy, rfl⟩ := h5
  obtain ⟨c', r1, r2, r3⟩ := l2 j y hy
  rw [h4] at r1
  cases r1
  exact ⟨r2, r3⟩

theorem Rd.one {t : TypeId} {v : Value} {d : DataW Hh} {ps : List MemPlace} {S : List IV → Prop} {base : Nat} {spare : Nat → Bool} {held : Bool} (h : Rd P w enc t S) (hv : v.cells = #[v]) (hd : DataW.Trod enc P w base spare held t v d ps) : ∃ i, S [i] ∧ R w g0 v i := by
  obtain ⟨fuel, hf⟩ := hd
  obtain ⟨is, h1, h2, h3⟩ := h _ _ _ _ _ _ hf
  rw [hv] at h2 h3
  match is, h2, h1, h3 with
  | [i], _, h1, h3 => exact ⟨i, h1, (h3 0 v i rfl rfl).2⟩

theorem Rd.agg {t : TypeId} {cs : Array Value} {d : DataW Hh} {ps : List MemPlace} {S : List IV → Prop} {base : Nat} {spare : Nat → Bool} {held : Bool} (h : Rd P w enc t S) (hd : DataW.Trod enc P w base spare held t (.agg cs) d ps) : ∃ is, S is ∧ R w g0 (.agg cs) (.ag is) := by
  obtain ⟨fuel, hf⟩ := hd
  obtain ⟨is, h1, h2, h3⟩ := h _ _ _ _ _ _ hf
  have hcs : (Value.agg cs).cells.toList = cs.toList := rfl
  rw [hcs] at h2 h3
  refine ⟨is, h1, .ag cs is (by simpa using h2.symm) (fun j x hx => ?_) fun j x c hx hc => (h3 j x c (by simpa using hx) hc).2⟩
  have hlt : j < is.length := by
    have := (Array.getElem?_eq_some_iff.1 hx).1
    rw [h2]; simpa using this
  exact (h3 j x is[j] (by simpa using hx) (List.getElem?_eq_getElem hlt)).1

end Go.Idl

namespace Go.Idl

open Go Go.RowKit Go.ChangeShapes Go.WideShapes

def HV (vs : List (Nat × Array Value)) : IHeap := { next := 0, obj := fun _ => none, sn := [varsT vs] }

theorem simV (w : World) (vs : List (Nat × Array Value)) (h : ∀ p, p ∈ vs → ∃ el f, w.heap[p.1]? = some (.cells p.2 el f)) : Sim w g0 (HV vs) where
  nx := rfl
  sh := fun _ => rfl
  lt := fun k h => by cases h
  bk := fun k b h => by cases h
  inj := fun k k' b h => by cases h
  obj := fun k o h => by cases h
  old := fun b h => h.elim
  snap := fun p hp i hi => by
    obtain rfl : p = varsT vs := by simpa [HV] using hp
    have hl : i < vs.length := by simpa [varsT] using hi
    obtain ⟨el, f, h1⟩ := h _ (List.getElem_mem hl)
    simp only [varsT, List.getElem?_eq_getElem hl]
    exact .blk _ _ el f _ (ow0 _) h1

theorem of_var {P : Program} {w : World} {name : String} {b : Nat} {xs : Array Value} (hg : P.globalNamed name = some b) (h : w.var? P name = some xs) : ∃ el f, w.heap[b]? = some (.cells xs el f) := by
  unfold World.var? at h
  rw [hg] at h
  simp only [Option.bind_some] at h
  split at h
  · rename_i cs el f hc
    cases h
    exact ⟨el, f, hc⟩
  · cases h

end Go.Idl

namespace Go.Idl

open Go Go.RowKit Go.ChangeShapes Go.WideShapes

variable {P : Program} {w : World} {Hh : Type} {enc : TypeId × Value → Hh}

def RdZ (P : Program) (w : World) {Hh : Type} (enc : TypeId × Value → Hh) (t : TypeId) (S : List IV → Prop) : Prop :=
  ∀ (base : Nat) (spare : Nat → Bool) (held : Bool) (fuel : Nat) (cs : List Value) (x : DataW Hh × List MemPlace), DataW.trod enc P w base spare held fuel t cs = some x → (∀ n ∈ x.1.weights P t, n ≤ reachBytes) →
    ∃ is, S is ∧ is.length = cs.length ∧ ∀ (j : Nat) (c : Value) (i : IV), cs[j]? = some c → is[j]? = some i → c.oneCell' = true ∧ R w g0 c i

theorem Rd.z {t : TypeId} {S : List IV → Prop} (h : Rd P w enc t S) : RdZ P w enc t S := fun base spare held fuel cs x hx _ => h base spare held fuel cs x hx

theorem RdZ.mono {t : TypeId} {S S' : List IV → Prop} (h : RdZ P w enc t S) (hs : ∀ is, S is → S' is) : RdZ P w enc t S' := fun base spare held fuel cs x hx hz => let ⟨is, h1, h2⟩ := h base spare held fuel cs x hx hz; ⟨is, hs _ h1, h2⟩

theorem weightsAll_mem {e : TypeId} : ∀ {ds : List (DataW Hh)} {d : DataW Hh}, d ∈ ds → ∀ {n : Nat}, n ∈ d.weights P e → n ∈ DataW.weightsAll P e ds
  | d0 :: ds, d, hd, n, hn => by
    simp only [DataW.weightsAll, List.mem_append]
    rcases List.mem_cons.1 hd with e | e
    · subst e; exact .inl hn
    · exact .inr (weightsAll_mem e hn)

theorem RdZ_string {t : TypeId} (hu : P.underlying t = some .string) : RdZ P w enc t fun is => ∃ s : List UInt8, s.length ≤ reachBytes ∧ is = [.v (str s)] := by
  intro base spare held fuel cs x h hz
  obtain ⟨s, rfl, rfl, _⟩ := DataW.trod_string hu h
  refine ⟨_, ⟨bytes s, ?_, rfl⟩, rfl, rd_one rfl ?_⟩
  · have := hz s.data.toList.length (by simp [DataW.weights])
    simpa [bytes] using this
  · rw [show str (bytes s) = .string s by rw [str, mk_bytes]]
    exact .v _

theorem RdZ_slice {t e : TypeId} {E : Type} (cells : E → List IV) (hu : P.underlying t = some (.slice e)) (h0 : 0 < P.cellsOf e) (he : RdZ P w enc e fun is => ∃ x : E, is = cells x) :
    RdZ P w enc t fun is => ∃ l : List E, is = [.sl (P.cellsOf e) (l.map cells)] := by
  intro base spare held fuel cs x h hz
  rcases DataW.trod_slice hu h with ⟨rfl, _⟩ | ⟨a, len, cap, elems, rest, n, _, rfl, rfl, hb, hl, hm, hlen, hel, _, _⟩
  · exact ⟨_, ⟨[], rfl⟩, rfl, rd_one rfl (.sl0 _ _ _)⟩
  · obtain ⟨l, l1, l2⟩ := choose_list (fun i (y : E) => (cells y).length = P.cellsOf e ∧ ∀ (j : Nat) (i' : IV), (cells y)[j]? = some i' → ∃ c, w.cell? ((a.add (i * P.cellsOf e)).add j) = some c ∧ c.oneCell' = true ∧ R w g0 c i') len (fun i hi => by
      have hei := hel i hi
      have hne : elems[i]? = some elems[i] := List.getElem?_eq_getElem (by omega)
      rw [hne, Option.bind_eq_some_iff] at hei
      obtain ⟨ci, hc, ht⟩ := hei
      obtain ⟨q1, q2⟩ := cells_get hc
      obtain ⟨is, ⟨y, rfl⟩, q3, q4⟩ := he _ _ _ _ _ _ ht fun n hn => hz n (by
        simp only [DataW.weights, hu, List.mem_cons, List.mem_append]
        exact .inr (.inl (weightsAll_mem (List.mem_map_of_mem (List.getElem_mem (by omega : i < elems.length))) hn)))
      refine ⟨y, by rw [q3, q1], fun j i' hj => ?_⟩
      have hjl : j < ci.length := by rw [← q3]; exact (List.getElem?_eq_some_iff.1 hj).1
      have := q4 j ci[j] i' (List.getElem?_eq_getElem hjl) hj
      exact ⟨ci[j], by rw [q2 j (by omega)]; exact List.getElem?_eq_getElem hjl, this⟩)
    refine ⟨_, ⟨l, rfl⟩, rfl, rd_one rfl ?_⟩
    by_cases hz : len = 0
    · subst hz
      have : l = [] := List.eq_nil_of_length_eq_zero l1
      subst this
      exact .sl0 _ _ _
    · have hlm : (l.map cells).length = len := by simp [l1]
      have h0l : 0 < l.length := by omega
      obtain ⟨q1, q2⟩ := l2 0 l[0] (List.getElem?_eq_getElem h0l)
      have hpos : 0 < (cells l[0]).length := by omega
      obtain ⟨c0, q3, _⟩ := q2 0 _ (List.getElem?_eq_getElem hpos)
      obtain ⟨b, off, spot⟩ := a
      have hsp : spot = none ∧ b < w.heap.size := by
        have e0 : ((⟨b, off, spot⟩ : Addr).add (0 * P.cellsOf e)).add 0 = ⟨b, off, spot⟩ := by simp [Addr.add]
        rw [e0] at q3
        unfold World.cell? at q3
        split at q3
        · rename_i hh
          refine ⟨?_, (Array.getElem?_eq_some_iff.1 hh).1⟩
          split at q3
          · cases q3
          · rename_i hs
            simpa using hs
        · cases q3
      obtain ⟨rfl, hlt⟩ := hsp
      rw [← hlm]
      refine .sl b off cap _ _ (fun i j => (w.cell? ⟨b, off + i * P.cellsOf e + j, none⟩).getD undef) (ow0 b) hlt (by rw [hlm]; have hm' : cap ≤ 9223372036854775807 := hm; unfold maxN; omega) (by omega) ?_ ?_ ?_ ?_
      · intro c hc
        obtain ⟨y, hy, rfl⟩ := List.mem_map.1 hc
        obtain ⟨i, hi⟩ := List.getElem?_of_mem hy
        exact (l2 i y hi).1
      all_goals
        intro i ee j c h1 h2
        simp only [List.getElem?_map, Option.map_eq_some_iff] at h1
        obtain ⟨y, hy, rfl⟩ := h1
        obtain ⟨c', r1, r2, r3⟩ := (l2 i y hy).2 j c h2
        rw [addr_add, addr_add] at r1
        first | (rw [r1]; rfl) | (simp only [r1, Option.getD_some]; first | exact r2 | exact r3)

theorem RdZ_struct3 {t : TypeId} {f0 f1 f2 : Field} {S0 S1 S2 : List IV → Prop} (ht : P.underlying t = some (.struct #[f0, f1, f2])) (hc : P.cellsOf t = P.cellsOf f0.type + P.cellsOf f1.type + P.cellsOf f2.type) (o0 : f0.offset = 0) (o1 : f1.offset = P.cellsOf f0.type) (o2 : f2.offset = P.cellsOf f0.type + P.cellsOf f1.type)
    (h0 : RdZ P w enc f0.type S0) (h1 : RdZ P w enc f1.type S1) (h2 : RdZ P w enc f2.type S2) : RdZ P w enc t fun is => ∃ i0 i1 i2, S0 i0 ∧ S1 i1 ∧ S2 i2 ∧ is = i0 ++ (i1 ++ i2) := by
  intro base spare held fuel cs x h hz
  obtain ⟨xs, n, _, rfl, hl, hlen, hf⟩ := DataW.trod_struct ht h
  rw [hc] at hl
  have q0 := hf 0 f0 rfl
  have q1 := hf 1 f1 rfl
  have q2 := hf 2 f2 rfl
  rw [o0] at q0
  rw [o1] at q1
  rw [o2] at q2
  match xs, hlen, q0, q1, q2, hz with
  | [x0, x1, x2], _, q0, q1, q2, hz =>
    have hz' : ∀ n, n ∈ x0.1.weights P f0.type ∨ n ∈ x1.1.weights P f1.type ∨ n ∈ x2.1.weights P f2.type → n ≤ reachBytes := fun n hn => hz n (by
      simp only [DataW.weights, ht, List.map_cons, List.map_nil, List.toList_toArray, DataW.weightsEach, List.mem_append, List.not_mem_nil, or_false]
      exact hn)
    obtain ⟨is0, p0, l0, r0⟩ := h0 _ _ _ _ _ _ (by simpa using q0) fun n hn => hz' n (.inl hn)
    obtain ⟨is1, p1, l1, r1⟩ := h1 _ _ _ _ _ _ (by simpa using q1) fun n hn => hz' n (.inr (.inl hn))
    obtain ⟨is2, p2, l2, r2⟩ := h2 _ _ _ _ _ _ (by simpa using q2) fun n hn => hz' n (.inr (.inr hn))
    simp only [List.length_take, List.length_drop, List.drop_zero] at l0 l1 l2
    refine ⟨_, ⟨is0, is1, is2, p0, p1, p2, rfl⟩, by simp only [List.length_append]; omega, fun j c i e1 e2 => ?_⟩
    have hj := (List.getElem?_eq_some_iff.1 e1).1
    rcases Nat.lt_or_ge j is0.length with a | a
    · rw [List.getElem?_append_left a] at e2
      exact r0 j c i (by rw [List.getElem?_take, if_pos (by omega)]; simpa using e1) e2
    · rw [List.getElem?_append_right a] at e2
      rcases Nat.lt_or_ge (j - is0.length) is1.length with b | b
      · rw [List.getElem?_append_left b] at e2
        refine r1 (j - is0.length) c i ?_ e2
        rw [List.getElem?_take, if_pos (by omega), List.getElem?_drop, show P.cellsOf f0.type + (j - is0.length) = j by omega]
        exact e1
      · rw [List.getElem?_append_right b] at e2
        refine r2 (j - is0.length - is1.length) c i ?_ e2
        rw [List.getElem?_take, if_pos (by omega), List.getElem?_drop, show P.cellsOf f0.type + P.cellsOf f1.type + (j - is0.length - is1.length) = j by omega]
        exact e1

theorem RdZ_struct2 {t : TypeId} {f0 f1 : Field} {S0 S1 : List IV → Prop} (ht : P.underlying t = some (.struct #[f0, f1])) (hc : P.cellsOf t = P.cellsOf f0.type + P.cellsOf f1.type) (o0 : f0.offset = 0) (o1 : f1.offset = P.cellsOf f0.type)
    (h0 : RdZ P w enc f0.type S0) (h1 : RdZ P w enc f1.type S1) : RdZ P w enc t fun is => ∃ i0 i1, S0 i0 ∧ S1 i1 ∧ is = i0 ++ i1 := by
  intro base spare held fuel cs x h hz
  obtain ⟨xs, n, _, rfl, hl, hlen, hf⟩ := DataW.trod_struct ht h
  rw [hc] at hl
  have q0 := hf 0 f0 rfl
  have q1 := hf 1 f1 rfl
  rw [o0] at q0
  rw [o1] at q1
  match xs, hlen, q0, q1, hz with
  | [x0, x1], _, q0, q1, hz =>
    have hz' : ∀ n, n ∈ x0.1.weights P f0.type ∨ n ∈ x1.1.weights P f1.type → n ≤ reachBytes := fun n hn => hz n (by
      simp only [DataW.weights, ht, List.map_cons, List.map_nil, List.toList_toArray, DataW.weightsEach, List.mem_append, List.not_mem_nil, or_false]
      exact hn)
    obtain ⟨is0, p0, l0, r0⟩ := h0 _ _ _ _ _ _ (by simpa using q0) fun n hn => hz' n (.inl hn)
    obtain ⟨is1, p1, l1, r1⟩ := h1 _ _ _ _ _ _ (by simpa using q1) fun n hn => hz' n (.inr hn)
    simp only [List.length_take, List.length_drop, List.drop_zero] at l0 l1
    refine ⟨_, ⟨is0, is1, p0, p1, rfl⟩, by simp only [List.length_append]; omega, fun j c i e1 e2 => ?_⟩
    have hj := (List.getElem?_eq_some_iff.1 e1).1
    rcases Nat.lt_or_ge j is0.length with a | a
    · rw [List.getElem?_append_left a] at e2
      exact r0 j c i (by rw [List.getElem?_take, if_pos (by omega)]; simpa using e1) e2
    · rw [List.getElem?_append_right a] at e2
      refine r1 (j - is0.length) c i ?_ e2
      rw [List.getElem?_take, if_pos (by omega), List.getElem?_drop, show P.cellsOf f0.type + (j - is0.length) = j by omega]
      exact e1

theorem RdZ.one {t : TypeId} {v : Value} {d : DataW Hh} {ps : List MemPlace} {S : List IV → Prop} {base : Nat} {spare : Nat → Bool} {held : Bool} (h : RdZ P w enc t S) (hv : v.cells = #[v]) (hd : DataW.Trod enc P w base spare held t v d ps)
    {ts : List TypeId} {ds : List (DataW Hh)} (hw : (DataW.weightsEach P ts ds).all (· ≤ reachBytes) = true) {k : Nat} (h1 : ts[k]? = some t) (h2 : ds[k]? = some d) : ∃ i, S [i] ∧ R w g0 v i := by
  obtain ⟨fuel, hf⟩ := hd
  obtain ⟨is, h1, h2, h3⟩ := h _ _ _ _ _ _ hf fun n hn => by simpa using List.all_eq_true.1 hw _ (DataW.weights_mem_each h1 h2 n hn)
  rw [hv] at h2 h3
  match is, h2, h1, h3 with
  | [i], _, h1, h3 => exact ⟨i, h1, (h3 0 v i rfl rfl).2⟩

end Go.Idl

namespace Go.Proofs.YtbgebljjmpklkaaGreatDoor

open Go Go.ChangeShapes Go.WideShapes Go.ChangeAt Go.RowKit Go.Idl

theorem ownNone : ownKnob Tryz.prog.godebug = none := by kernel_rfl

theorem laidOutAll : laidOutB Tryz.prog = true := by kernel_rfl

def laidV : List (String × DataW Unit) := Rows.pairsOnceRow.laid

theorem door_metV (os : Os) (args : Array Value) : laidMetH Tryz.prog laidV ((World.doorLaid Tryz.prog 400 os).forCall (fun _ _ => 0) ⟨#[], args, []⟩).memory :=
  laidMetH_of_parts3 (fuel := 8) (laidMet_of_run' 8 (by kernel_rfl) (by kernel_rfl)) (by kernel_rfl) (by kernel_rfl)

theorem gTab : Tryz.prog.globalNamed "internal/strconv.uint64pow10" = some 1 := by kernel_rfl

theorem tok_laid {W : World} (hL : laidMetH Tryz.prog laidV W) : ∃ vs : List (Nat × Array Value), (∀ p, p ∈ vs → ∃ el f, W.heap[p.1]? = some (.cells p.2 el f)) ∧ TOK Tryz.prog (HV vs) := by
  have h0 : laidMet Tryz.prog laidV W := hL
  have h2 := h0.tail.tail
  have hT : Lib.TabIs Tryz.prog W "internal/strconv.uint64pow10" .u64 Lib.pow10Tab :=
    Lib.tabIs_of_head (t := 249) (e := 224) (n := 20) gTab (by kernel_rfl) Tryz.underlying249 Tryz.underlying224 (by kernel_rfl) (by kernel_rfl) h2
  refine ⟨[(1, (Lib.pow10Tab.map fun z => Value.int .u64 z).toArray)], ?_, ?_⟩
  · intro p hp
    simp only [List.mem_cons, List.not_mem_nil, or_false] at hp
    rcases hp with rfl
    exact of_var gTab hT
  · exact ⟨1, 0, _, gTab, rfl, List.mem_singleton.2 rfl⟩

section

variable {w : World} {Hh : Type} {enc : TypeId × Value → Hh}

theorem rd3 : RdZ Tryz.prog w enc 3 fun is => ∃ n : Int, is = [.v (.int .i64 n)] := (Rd_int Tryz.underlying3).z

theorem rd9 : RdZ Tryz.prog w enc 9 fun is => ∃ s : List UInt8, s.length ≤ reachBytes ∧ is = [.v (str s)] := RdZ_string Tryz.underlying9

theorem rd30 : Rd Tryz.prog w enc 30 fun is => ∃ l : List (List UInt8), is = [.sl 1 (l.map fun x => [.v (str x)])] := by
  have h := Rd_slice (w := w) (enc := enc) (fun s : List UInt8 => [IV.v (str s)]) Tryz.underlying30 (Nat.lt_of_lt_of_eq Nat.one_pos cells9.symm) (Rd_string Tryz.underlying9)
  rw [cells9] at h
  exact h

theorem rd32 : Rd Tryz.prog w enc 32 fun is => ∃ c : List (List (List UInt8)), c.length = 8 ∧ is = c.map fun x => .sl 1 (x.map fun x => [.v (str x)]) := Rd_array (fun x : List (List UInt8) => .sl 1 (x.map fun x => [.v (str x)])) Tryz.underlying32 cells30 cells32 rd30

abbrev cX (x : S39) : List IV := .v (str x.fHref) :: .v (str x.fUuid) :: (x.fShadow.map fun x => .sl 1 (x.map fun x => [.v (str x)]))

def memX (x : S39) : Prop := x.fShadow.length = 8 ∧ x.fHref.length ≤ reachBytes ∧ x.fUuid.length ≤ reachBytes

theorem rd40 : RdZ Tryz.prog w enc 40 fun is => ∃ x : S39, memX x ∧ is = cX x := by
  refine (RdZ_struct3 (w := w) (enc := enc) Tryz.underlying40 (by rw [cells9, cells32, cells40]) rfl (by rw [cells9]) (by rw [cells9]) rd9 rd9 rd32.z).mono ?_
  rintro is ⟨i0, i1, i2, ⟨s, hs, rfl⟩, ⟨u, hu, rfl⟩, ⟨c, hc, rfl⟩, rfl⟩
  exact ⟨⟨s, u, c⟩, ⟨hc, hs, hu⟩, rfl⟩

abbrev cD (x : S89) : List IV := [.v (str x.fType), .v (str x.fValue)]

def memD (x : S89) : Prop := x.fType.length ≤ reachBytes ∧ x.fValue.length ≤ reachBytes

theorem rd90 : RdZ Tryz.prog w enc 90 fun is => ∃ x : { x : S89 // memD x }, is = cD x.1 := by
  refine (RdZ_struct2 (w := w) (enc := enc) Tryz.underlying90 (by rw [cells9, cells90]) rfl (by rw [cells9]) rd9 rd9).mono ?_
  rintro is ⟨i0, i1, ⟨s, hs, rfl⟩, ⟨u, hu, rfl⟩, rfl⟩
  exact ⟨⟨⟨s, u⟩, hs, hu⟩, rfl⟩

theorem rd29 : RdZ Tryz.prog w enc 29 fun is => ∃ l : List S89, (∀ x ∈ l, memD x) ∧ is = [.sl 2 (l.map cD)] := by
  have h := RdZ_slice (w := w) (enc := enc) (fun x : { x : S89 // memD x } => cD x.1) Tryz.underlying29 (Nat.lt_of_lt_of_eq (by decide : 0 < 2) cells90.symm) rd90
  rw [cells90] at h
  refine h.mono ?_
  rintro is ⟨l, rfl⟩
  refine ⟨l.map (·.1), fun x hx => ?_, by rw [List.map_map]; rfl⟩
  obtain ⟨y, _, rfl⟩ := List.mem_map.1 hx
  exact y.2

abbrev cA (a : S41) : List IV := .v (.int .i64 a.fKind) :: .v (str a.fPairing.fHref) :: .v (str a.fPairing.fUuid) :: ((a.fPairing.fShadow.map fun x => .sl 1 (x.map fun x => [.v (str x)])) ++ [.sl 2 (a.fDn.map fun x => [.v (str x.fType), .v (str x.fValue)])])

theorem rd42 : RdZ Tryz.prog w enc 42 fun is => ∃ a : { a : S41 // memA a }, is = cA a.1 := by
  refine (RdZ_struct3 (w := w) (enc := enc) Tryz.underlying42 (by rw [cells3, cells40, cells29, cells42]) rfl (by rw [cells3]) (by rw [cells3, cells40]) rd3 rd40 rd29).mono ?_
  rintro is ⟨i0, i1, i2, ⟨k, rfl⟩, ⟨x, hx, rfl⟩, ⟨d, hd, rfl⟩, rfl⟩
  have hr := reachBytes_lt
  have e : (2 : Nat) ^ 47 = 140737488355328 := by decide
  rw [e] at hr
  obtain ⟨h1, h2, h3⟩ := hx
  refine ⟨⟨⟨k, x, d⟩, h1, ?_, ?_, fun y hy => ?_⟩, rfl⟩
  · show x.fHref.length ≤ 1000000000000000
    omega
  · show x.fUuid.length ≤ 1000000000000000
    omega
  · obtain ⟨q1, q2⟩ := hd y hy
    exact ⟨by omega, by omega⟩

theorem rd22 : RdZ Tryz.prog w enc 22 fun is => ∃ l : List S41, (∀ a ∈ l, memA a) ∧ is = [.sl 12 (l.map cA)] := by
  have h := RdZ_slice (w := w) (enc := enc) (fun x : { a : S41 // memA a } => cA x.1) Tryz.underlying22 (Nat.lt_of_lt_of_eq (by decide : 0 < 12) cells42.symm) rd42
  rw [cells42] at h
  refine h.mono ?_
  rintro is ⟨l, rfl⟩
  refine ⟨l.map (·.1), fun x hx => ?_, by rw [List.map_map]; rfl⟩
  obtain ⟨y, _, rfl⟩ := List.mem_map.1 hx
  exact y.2

end

end Go.Proofs.YtbgebljjmpklkaaGreatDoor

namespace Go.Idl

open Go Go.RowKit Go.ChangeShapes Go.WideShapes

theorem door_laid_cond {H : Type} {enc : TypeId × Value → H} {a : Assume} {C : Checked} {os : Os} {f : FuncId} {fn : Func} {s : OpenSpec} {k : (H : Type) → List (DataW H) → Bool} (hk : s.cond = some k) {F : Stop.Interp} {apart fresh handsOn again : Bool} {X : World → Array Value → Prop}
    (hX : ∀ (w w' : World) (args : Array Value), w.heap = w'.heap → X w args → X w' args)
    (own : ownKnob C.prog.godebug = none) (started : os.Started) (noInit : C.prog.inits.idxOf? f = none) (hfn : C.prog.funcs[f]? = some fn)
    (witness : ∃ (w : World) (tape : Tape) (i : Input), w.os = os ∧ (w.forCall tape i).Shaped C.prog ∧ i.vars = [] ∧ Input.okWide C.prog (w.forCall tape i) .any w.heap.size f i ∧
      ((s.pre enc C.prog fn [] apart (w.forCall tape i).memory i.args ∧ X (w.forCall tape i).memory i.args) ∧ sizedMet enc C.prog fn s apart (w.forCall tape i).memory i.args) ∧ a.holds C.prog (lone (Frame.enter C.prog f i.args .normal) [] (w.forCall tape i)))
    (contract : ∀ (W : World) (base : Nat) (args : Array Value) (ds gs : List (DataW H)) (before : List MemPlace),
      (∀ (j : Nat) t v, fn.params[j]? = some t → args[j]? = some v → Value.okWide C.prog W .any base t v) →
      DataW.Whole enc C.prog fn.params.toList s.vars apart W args.toList ds gs before → k H (ds ++ gs) = true →
      (DataW.weightsEach C.prog (fn.params.toList ++ s.bare.plain.varTypes C.prog) (ds ++ gs)).all (· ≤ reachBytes) = true → X W args → W.ShapedOpen C.prog →
      Calls C.prog f args W fun e W' => ∃ v, e = .returned v ∧ (s.at F).post enc C.prog fn apart fresh handsOn again W args v W') :
    ReturnsInHanded a C os f .any (fun w args => (s.pre enc C.prog fn [] apart w args ∧ X w args) ∧ sizedMet enc C.prog fn s apart w args) ((s.at F).post enc C.prog fn apart fresh handsOn again) := by
  refine returnsInHanded_of_calls own started noInit witness ?_
  intro w tape i _ shape _ ok pre _
  obtain ⟨_, _, _, fn2, hfn2, _, _, _, _, val⟩ := ok
  have e := Option.some.inj (hfn2.symm.trans hfn)
  subst e
  obtain ⟨⟨hp, laid⟩, sized⟩ := pre
  obtain ⟨ds, gs, before, whole, _, hkk⟩ := (OpenSpec.pre_some hk [] apart _ _).1 hp
  refine Calls.mono (contract (w.forCall tape i) w.heap.size i.args ds gs before val (DataW.Whole.of_heap (by rfl) whole) hkk (sized.weights whole) (hX _ _ _ (by rfl) laid) shape) ?_
  rintro _ W' ⟨v, rfl, post⟩
  exact ChangeSpec.post_blind post

theorem witness_cond {H : Type} {enc : TypeId × Value → H} {C : Checked} {os : Os} {f : FuncId} {fn : Func} {s : OpenSpec} {k : (H : Type) → List (DataW H) → Bool} (hk : s.cond = some k) {apart : Bool} {X : World → Array Value → Prop} (modest : Bool) (w0 : World) (args : Array Value) (fuel : Nat) (hos : w0.os = os)
    (hsh : (w0.forCall (fun _ _ => 0) ⟨#[], args, []⟩).Shaped C.prog)
    (hok : Input.okWideB C.prog (w0.forCall (fun _ _ => 0) ⟨#[], args, []⟩) f ⟨#[], args, []⟩ = true)
    {x : List (DataW H) × List (DataW H) × List MemPlace} (hx : DataW.whole enc C.prog (w0.forCall (fun _ _ => 0) ⟨#[], args, []⟩).memory fn.params.toList s.vars apart args.toList fuel = some x)
    (hkk : k H (x.1 ++ x.2.1) = true)
    (hsz : s.bare.sizedB enc C.prog fn apart (w0.forCall (fun _ _ => 0) ⟨#[], args, []⟩).memory args fuel = true)
    (hX : X (w0.forCall (fun _ _ => 0) ⟨#[], args, []⟩).memory args) :
    ∃ (w : World) (tape : Tape) (i : Input), w.os = os ∧ (w.forCall tape i).Shaped C.prog ∧ i.vars = [] ∧ Input.okWide C.prog (w.forCall tape i) .any w.heap.size f i ∧
      ((s.pre enc C.prog fn [] apart (w.forCall tape i).memory i.args ∧ X (w.forCall tape i).memory i.args) ∧ sizedMet enc C.prog fn s apart (w.forCall tape i).memory i.args) ∧ ({ modest := modest } : Assume).holds C.prog (lone (Frame.enter C.prog f i.args .normal) [] (w.forCall tape i)) :=
  ⟨w0, fun _ _ => 0, ⟨#[], args, []⟩, hos, hsh, (Input.okWide_of_okWideB (base := 0) hok).1, (Input.okWide_of_okWideB hok).2,
    ⟨⟨(OpenSpec.pre_some hk [] apart _ _).2 ⟨x.1, x.2.1, x.2.2, DataW.Whole_of_whole hx, rfl, hkk⟩, hX⟩, sizedMet_of_sizedB hsz⟩, by
    simp only [Assume.holds]
    exact ⟨by simp, by simp, fun _ => Modest.zero, by simp, by simp⟩⟩

theorem R_sl_len {w : World} {g : Gs} {a : Option Addr} {len cap sz : Nat} {es : List (List IV)} (h : R w g (.slice a len cap) (.sl sz es)) : es.length = len := by
  cases h <;> rfl

theorem trod_slice_len {P : Program} {w : World} {H : Type} {enc : TypeId × Value → H} {t e : TypeId} {base : Nat} {spare : Nat → Bool} {held : Bool} {fuel : Nat} {a : Option Addr} {len cap : Nat} {x : DataW H × List MemPlace}
    (hu : P.underlying t = some (.slice e)) (h : DataW.trod enc P w base spare held fuel t [.slice a len cap] = some x) : len = 0 ∨ ∃ es rs, x.1 = .slice es rs ∧ es.length = len := by
  rcases DataW.trod_slice hu h with ⟨q, _⟩ | ⟨a', len', cap', elems, rest, n, _, q, rfl, hb, hl, hm, hlen, _⟩
  · simp only [List.cons.injEq, Value.slice.injEq, and_true] at q
    exact .inl q.2.1
  · simp only [List.cons.injEq, Value.slice.injEq, and_true] at q
    exact .inr ⟨_, _, rfl, by rw [List.length_map, hlen, q.2.1]⟩

end Go.Idl

namespace Go.Proofs.YtbgebljjmpklkaaGreatDoor

open Go Go.ChangeShapes Go.WideShapes Go.ChangeAt Go.RowKit Go.Idl

theorem bulk_pos {H : Type} (d : DataW H) : 1 ≤ Rows.uptoBulk d := by
  cases d with
  | lit l => cases l <;> simp [Rows.uptoBulk]
  | _ => simp [Rows.uptoBulk]

theorem bulk_len {H : Type} : ∀ (l : List (DataW H)), l.length ≤ Rows.uptoBulkAll l
  | [] => by simp
  | d :: r => by
    have := bulk_pos d
    have := bulk_len r
    simp only [List.length_cons, Rows.uptoBulkAll]
    omega

theorem arg_len {H : Type} {enc : TypeId × Value → H} {W : World} {fuel : Nat} {x : DataW H × List MemPlace} {a : Option Addr} {len cap sz : Nat} {es : List (List IV)} {g : Gs}
    (h : DataW.trod enc Tryz.prog W 0 (fun _ => true) true fuel 22 [.slice a len cap] = some x) (r : R W g (.slice a len cap) (.sl sz es)) : es.length ≤ Rows.uptoBulk x.1 := by
  have e := R_sl_len r
  rcases trod_slice_len Tryz.underlying22 h with q | ⟨el, rs, q1, q2⟩
  · omega
  · have := bulk_len el
    rw [q1, Rows.uptoBulk]
    omega

set_option maxRecDepth 100000 in
theorem pairsCopies_lifted (os : Os) (started : os.Started) (H : Type) (enc : TypeId × Value → H) (F : Stop.Interp) :
    ReturnsInHanded {} Tryz.checked os 5 .any (fun w args => ((Rows.OpenSpec.upto Rows.pairsCopiesSpec).pre enc Tryz.prog Tryz.f5 [] false w args ∧ laidMetH Tryz.prog laidV w) ∧ sizedMet enc Tryz.prog Tryz.f5 (Rows.OpenSpec.upto Rows.pairsCopiesSpec) false w args)
      (((Rows.OpenSpec.upto Rows.pairsCopiesSpec).at F).post enc Tryz.prog Tryz.f5 false true false false) := by
  refine door_laid_cond (C := Tryz.checked) (k := Rows.uptoSmall) rfl (X := fun w _ => laidMetH Tryz.prog laidV w) (fun _ _ _ hh h => h.of_heap hh) ownNone started (by kernel_rfl) Tryz.func5
    (witness_cond (k := Rows.uptoSmall) rfl (enc := enc) (C := Tryz.checked) (os := os) (X := fun w _ => laidMetH Tryz.prog laidV w) false (World.doorLaid Tryz.prog 400 os) #[.slice none 0 0, .slice none 0 0] 8 rfl (World.shaped_of_RefB (by kernel_rfl) (by kernel_rfl)) (by kernel_rfl) (x := ([.nil, .nil], [], [])) (by kernel_rfl) (by kernel_rfl) (by kernel_rfl) (door_metV os _)) ?_
  intro W base args ds gs before hval0 hW hsmall hwt hL hshape
  have hval : ∀ (j : Nat) t v, Tryz.f5.params[j]? = some t → args[j]? = some v → Value.okWide Tryz.prog W .any base t v := hval0
  have hW' := hW
  obtain ⟨p, q, hA0, hV, rfl, hfz, hnd⟩ := hW
  have hA : DataW.TrodAll enc Tryz.prog W 0 (fun _ => true) true Tryz.f5.params.toList args.toList ds p := hA0
  rw [Tryz.params5] at hA hval
  obtain ⟨v0, v1, d0, d1, p0, p1, rfl, rfl, rfl, h0, h1⟩ := trodAll_two hA
  obtain ⟨rfl, rfl⟩ := trodVars_none hV
  simp only [List.append_nil] at hW'
  have hlt := hW'.lt
  have hwt' : (DataW.weightsEach Tryz.prog [22, 22] [d0, d1]).all (· ≤ reachBytes) = true := hwt
  obtain ⟨a0, len0, cap0, rfl⟩ := okWide_slice Tryz.underlying22 (hval 0 22 v0 rfl rfl)
  obtain ⟨a1, len1, cap1, rfl⟩ := okWide_slice Tryz.underlying22 (hval 1 22 v1 rfl rfl)
  obtain ⟨i0, ⟨x0, b0, e0⟩, r0⟩ := rd22.one rfl h0 hwt' (k := 0) rfl rfl
  simp only [List.cons.injEq, and_true] at e0
  subst e0
  obtain ⟨i1, ⟨x1, b1, e1⟩, r1⟩ := rd22.one rfl h1 hwt' (k := 1) rfl rfl
  simp only [List.cons.injEq, and_true] at e1
  subst e1
  have hb2 : Rows.uptoBulkAll ([d0, d1] ++ []) ≤ 1048576 := of_decide_eq_true hsmall
  simp only [List.append_nil, Rows.uptoBulkAll] at hb2
  have n0 : x0.length ≤ 2000000 := by
    obtain ⟨f0, q0⟩ := h0
    have := arg_len q0 r0
    simp only [List.length_map] at this
    omega
  have n1 : x1.length ≤ 2000000 := by
    obtain ⟨f1, q1⟩ := h1
    have := arg_len q1 r1
    simp only [List.length_map] at this
    omega
  obtain ⟨vs, hvs, hvok⟩ := tok_laid hL
  have hcall := (F5_ok (H := HV vs) (K := fun e _ => e = .ret (.v (.bool true))) x0 x1 hvok (F5_eq x0 x1 b0 b1 n0 n1) rfl).run W g0 #[.slice a0 len0 cap0, .slice a1 len1 cap1] (simV W vs hvs) ⟨rfl, fun j x i hx hi => by
    match j, hx, hi with
    | 0, hx, hi => simp at hx hi; subst hx; subst hi; exact r0
    | 1, hx, hi => simp at hx hi; subst hx; subst hi; exact r1
    | j + 2, hx, hi => simp at hx⟩
  refine hcall.mono ?_
  rintro e W' ⟨ie, g', H', hm, _, hre, rfl⟩
  have hb := below_of_mono hm
  obtain ⟨rfl⟩ : e = .returned (.bool true) := by
    cases hre with
    | ret x i h => rw [h.v_eq]
  refine ⟨_, rfl, ?_⟩
  refine ⟨_, _, _, [], p0 ++ p1, [], hW', trodAll_mk1 (shut_bool Tryz.underlying4 _), ?_, ?_, hb.frame _, fun h => by cases h⟩
  · have hl0 : ∀ x ∈ p0, x.block < W.heap.size := fun x hx => hlt x (by simp [hx])
    have hl1 : ∀ x ∈ p1, x.block < W.heap.size := fun x hx => hlt x (by simp [hx])
    have k0 := Below.trod laidOutAll (by kernel_rfl) (of_decide_eq_true (by kernel_rfl)) h0 hb hl0
    have k1 := Below.trod laidOutAll (by kernel_rfl) (of_decide_eq_true (by kernel_rfl)) h1 hb hl1
    exact ⟨p0, p1, k0, ⟨p1, [], k1, rfl, by simp⟩, by simp⟩
  · rfl

theorem pairsCopies_row : Rows.PairsCopiesUptoSaid :=
  OpenClaim.holds_of_cond 5 Tryz.f5 rfl rfl rfl rfl rfl rfl rfl ⟨rfl, rfl, rfl, rfl, rfl⟩ rfl rfl rfl rfl rfl (by kernel_rfl) Tryz.func5 (by kernel_rfl)
    (of_decide_eq_true (by kernel_rfl)) (by unfold Func.isWrapper; first | (rw [if_pos (by decide +kernel)]; kernel_rfl) | (rw [if_neg (by decide +kernel)]; exact ⟨rfl, rfl⟩))
    (fun os started H enc _ F => pairsCopies_lifted os started H enc F)

theorem pairsCopies_holds : Rows.PairsCopiesUptoCardSaid :=
  Claim7.holds_tied_plain_at .later [] [.data, .data, .data] true (true, "5dbde0cbb162a84d239fd1634710af79b7da20f43e8be4b7c72be86c8a99f6d5") true
    pairsCopies_row (fun _ h => by cases h) (by kernel_rfl) (fun _ h => by cases h) pairsCopiesUpto_row_tie rfl ⟨rfl, rfl⟩ (by kernel_rfl) rfl
    (fun f fn hf hfn => by
      obtain rfl : f = 5 := Option.some.inj ((show Tryz.prog.funcNamed "cardcase/cardcaselaw20.PairsCopies" = some 5 by kernel_rfl).symm.trans hf) |>.symm
      obtain rfl : fn = Tryz.f5 := (Option.some.inj (Tryz.func5.symm.trans hfn)).symm
      exact ⟨by kernel_rfl, fun j t ht => by
        rw [Tryz.params5] at ht
        have hm : t ∈ [22, 22] := by simpa using Array.mem_of_getElem? ht
        have hall : ([22, 22].all fun u => !Tryz.prog.wantsStandIn u) = true := by kernel_rfl
        exact (show Tryz.prog.wantsStandIn t = false by simpa using List.all_eq_true.1 hall t hm)⟩)
    (by kernel_rfl)

end Go.Proofs.YtbgebljjmpklkaaGreatDoor
