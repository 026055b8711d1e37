/- Pairs that are not there answer ErrNil Part 5. Conditions: none. -/
import Derived.Test.YtbgebljjmpklkaaGreatDoorPartD
import Derived.Sort.Walk0
import Derived.ProofKit
import Derived.OpenShut
import Derived.SizedLaws
import Derived.Handed
import Derived.ChangeSame
import Derived.Test.YtbgebljjmpklkaaGreatDoorRows
import Derived.Test.YtbgebljjmpklkaaGreatDoorTie
import Derived.Test.YtbgebljjmpklkaaGreatDoorCards
import Derived.LaidMore
import Derived.Carry
import Derived.Stop.Joined
import Derived.SevenTiedAt
import Derived.Stop.LaidErr
import Derived.Lib.LaidTab
set_option linter.unusedSimpArgs false
set_option linter.unusedVariables false

namespace Go.Idl

set_option maxHeartbeats 8000000

set_option pp.deepTerms false

set_option maxRecDepth 60000

open Go Go.Proofs.Tryz

/-! cardcase/dn.signs -/

noncomputable def F127  : Option ((List (Int × Bool))) :=
 some (mset (mset (mset (mset (mset (mset (mset (mset [] 44 true) 43 true) 34 true) 92 true) 60 true) 62 true) 59 true) 61 true)

theorem F127_ok {H : IHeap} {K : IEnd → IHeap → Prop}  {r : (List (Int × Bool))} (h : F127  = some r) (hK : K (.ret (.mp H.next)) (newL H [.map (mI .u8 (fun (x : Bool) => .v (.bool x)) r)])) : ICalls prog 127 [] H K := by
 refine ICalls_iwp (N := 3) func127 (by kernel_rfl) rfl (by kernel_rfl) (by kernel_rfl) fun cb hcb hw hbd hnb => ?_
 clear hbd hnb
 subst hcb
 unfold F127 at h
 refine wG ?_
 refine IWp_seqF fun cb hc2 => ?_
 refine v0 ?_
 have hmS181 := fun m k v => setI_mI (j := .u8) (fun (x : Bool) => .v (.bool x)) m k v
 have hmi3 := hmS181 [] 44 true
 simp -implicitDefEqProofs at hmi3
 have hmi4 := hmS181 (mset [] 44 true) 43 true
 have hmi5 := hmS181 (mset (mset [] 44 true) 43 true) 34 true
 have hmi6 := hmS181 (mset (mset (mset [] 44 true) 43 true) 34 true) 92 true
 have hmi7 := hmS181 (mset (mset (mset (mset [] 44 true) 43 true) 34 true) 92 true) 60 true
 have hmi8 := hmS181 (mset (mset (mset (mset (mset [] 44 true) 43 true) 34 true) 92 true) 60 true) 62 true
 have hmi9 := hmS181 (mset (mset (mset (mset (mset (mset [] 44 true) 43 true) 34 true) 92 true) 60 true) 62 true) 59 true
 have hmi10 := hmS181 (mset (mset (mset (mset (mset (mset (mset [] 44 true) 43 true) 34 true) 92 true) 60 true) 62 true) 59 true) 61 true
 refine sF (nd @hmS181 @hmi3) ?_
 subst hc2
 refine vO ?_
 obtain rfl := Option.some.inj h
 refine sG ?_
 refine retG_R (r := .mp H.next) (r' := .mp H.next) rfl (endR_new (by exact extA (Ext.refl hw)) (ks := [H.next]) (os := [.map (mI .u8 (fun (x : Bool) => .v (.bool x)) (mset (mset (mset (mset (mset (mset (mset (mset [] 44 true) 43 true) 34 true) 92 true) 60 true) 62 true) 59 true) 61 true))]) (.cons (o := .map (mI .u8 (fun (x : Bool) => .v (.bool x)) (mset (mset (mset (mset (mset (mset (mset (mset [] 44 true) 43 true) 34 true) 92 true) 60 true) 62 true) 59 true) 61 true))) (by omega) (by (simp [go_sem]; done)) eA (.same _ (by exact nboA)) .nil) (by simp)) (.mpE (k := H.next) (by simp [rhoL]) (by simp [go_sem])) hK

/-! cardcase/dn.value -/

noncomputable def F91_k8 (v12 : List UInt8) : Option (List UInt8) :=
 some v12

noncomputable def F91_k36 (a0 : List UInt8) (v11 : Int) (v37 : List UInt8) (v39 : Bool) : Option (((List UInt8) × Int) ⊕ (List UInt8)) :=
 if v39 = true then (gd ((v37.length + ([92]).length) * 1 ≤ 140737488355328) (gd (0 ≤ (((a0.getD v11.toNat 0).toNat : Int)) ∧ (((a0.getD v11.toNat 0).toNat : Int)) ≤ 255) (gd (((v37 ++ ([92])).length + ([UInt8.ofNat (((a0.getD v11.toNat 0).toNat : Int)).toNat]).length) * 1 ≤ 140737488355328) (some (.inl (((v37 ++ ([92])) ++ ([UInt8.ofNat (((a0.getD v11.toNat 0).toNat : Int)).toNat]), IntKind.i64.wrap (v11 + 1)))))))) else (gd (0 ≤ (((a0.getD v11.toNat 0).toNat : Int)) ∧ (((a0.getD v11.toNat 0).toNat : Int)) ≤ 255) (gd ((v37.length + ([UInt8.ofNat (((a0.getD v11.toNat 0).toNat : Int)).toNat]).length) * 1 ≤ 140737488355328) (some (.inl ((v37 ++ ([UInt8.ofNat (((a0.getD v11.toNat 0).toNat : Int)).toNat]), IntKind.i64.wrap (v11 + 1)))))))

noncomputable def F91_b8 (a0 : List UInt8) (x3 : (List (Int × Bool))) (v9 : List UInt8) (v11 : Int) : Option (((List UInt8) × Int) ⊕ (List UInt8)) :=
 if v11 < (a0.length : Int) then (gd (0 ≤ v11 ∧ v11 < a0.length) (if (((a0.getD v11.toNat 0).toNat : Int)) < 32 then (gd (0 ≤ ((((a0.getD v11.toNat 0).toNat : Int)).fdiv 16) ∧ ((((a0.getD v11.toNat 0).toNat : Int)).fdiv 16) < ([48, 49, 50, 51, 52, 53, 54, 55, 56, 57, 97, 98, 99, 100, 101, 102] : List UInt8).length) (gd (0 ≤ (andI .u8 (((a0.getD v11.toNat 0).toNat : Int)) 15) ∧ (andI .u8 (((a0.getD v11.toNat 0).toNat : Int)) 15) < ([48, 49, 50, 51, 52, 53, 54, 55, 56, 57, 97, 98, 99, 100, 101, 102] : List UInt8).length) (gd (0 ≤ (((([48, 49, 50, 51, 52, 53, 54, 55, 56, 57, 97, 98, 99, 100, 101, 102] : List UInt8).getD ((((a0.getD v11.toNat 0).toNat : Int)).fdiv 16).toNat 0).toNat : Int)) ∧ (((([48, 49, 50, 51, 52, 53, 54, 55, 56, 57, 97, 98, 99, 100, 101, 102] : List UInt8).getD ((((a0.getD v11.toNat 0).toNat : Int)).fdiv 16).toNat 0).toNat : Int)) ≤ 255) (gd (0 ≤ (((([48, 49, 50, 51, 52, 53, 54, 55, 56, 57, 97, 98, 99, 100, 101, 102] : List UInt8).getD (andI .u8 (((a0.getD v11.toNat 0).toNat : Int)) 15).toNat 0).toNat : Int)) ∧ (((([48, 49, 50, 51, 52, 53, 54, 55, 56, 57, 97, 98, 99, 100, 101, 102] : List UInt8).getD (andI .u8 (((a0.getD v11.toNat 0).toNat : Int)) 15).toNat 0).toNat : Int)) ≤ 255) (gd ((v9.length + ([92, UInt8.ofNat (((([48, 49, 50, 51, 52, 53, 54, 55, 56, 57, 97, 98, 99, 100, 101, 102] : List UInt8).getD ((((a0.getD v11.toNat 0).toNat : Int)).fdiv 16).toNat 0).toNat : Int)).toNat, UInt8.ofNat (((([48, 49, 50, 51, 52, 53, 54, 55, 56, 57, 97, 98, 99, 100, 101, 102] : List UInt8).getD (andI .u8 (((a0.getD v11.toNat 0).toNat : Int)) 15).toNat 0).toNat : Int)).toNat]).length) * 1 ≤ 140737488355328) (some (.inl ((v9 ++ ([92, UInt8.ofNat (((([48, 49, 50, 51, 52, 53, 54, 55, 56, 57, 97, 98, 99, 100, 101, 102] : List UInt8).getD ((((a0.getD v11.toNat 0).toNat : Int)).fdiv 16).toNat 0).toNat : Int)).toNat, UInt8.ofNat (((([48, 49, 50, 51, 52, 53, 54, 55, 56, 57, 97, 98, 99, 100, 101, 102] : List UInt8).getD (andI .u8 (((a0.getD v11.toNat 0).toNat : Int)) 15).toNat 0).toNat : Int)).toNat]), IntKind.i64.wrap (v11 + 1)))))))))) else (if 126 < (((a0.getD v11.toNat 0).toNat : Int)) then (gd (0 ≤ ((((a0.getD v11.toNat 0).toNat : Int)).fdiv 16) ∧ ((((a0.getD v11.toNat 0).toNat : Int)).fdiv 16) < ([48, 49, 50, 51, 52, 53, 54, 55, 56, 57, 97, 98, 99, 100, 101, 102] : List UInt8).length) (gd (0 ≤ (andI .u8 (((a0.getD v11.toNat 0).toNat : Int)) 15) ∧ (andI .u8 (((a0.getD v11.toNat 0).toNat : Int)) 15) < ([48, 49, 50, 51, 52, 53, 54, 55, 56, 57, 97, 98, 99, 100, 101, 102] : List UInt8).length) (gd (0 ≤ (((([48, 49, 50, 51, 52, 53, 54, 55, 56, 57, 97, 98, 99, 100, 101, 102] : List UInt8).getD ((((a0.getD v11.toNat 0).toNat : Int)).fdiv 16).toNat 0).toNat : Int)) ∧ (((([48, 49, 50, 51, 52, 53, 54, 55, 56, 57, 97, 98, 99, 100, 101, 102] : List UInt8).getD ((((a0.getD v11.toNat 0).toNat : Int)).fdiv 16).toNat 0).toNat : Int)) ≤ 255) (gd (0 ≤ (((([48, 49, 50, 51, 52, 53, 54, 55, 56, 57, 97, 98, 99, 100, 101, 102] : List UInt8).getD (andI .u8 (((a0.getD v11.toNat 0).toNat : Int)) 15).toNat 0).toNat : Int)) ∧ (((([48, 49, 50, 51, 52, 53, 54, 55, 56, 57, 97, 98, 99, 100, 101, 102] : List UInt8).getD (andI .u8 (((a0.getD v11.toNat 0).toNat : Int)) 15).toNat 0).toNat : Int)) ≤ 255) (gd ((v9.length + ([92, UInt8.ofNat (((([48, 49, 50, 51, 52, 53, 54, 55, 56, 57, 97, 98, 99, 100, 101, 102] : List UInt8).getD ((((a0.getD v11.toNat 0).toNat : Int)).fdiv 16).toNat 0).toNat : Int)).toNat, UInt8.ofNat (((([48, 49, 50, 51, 52, 53, 54, 55, 56, 57, 97, 98, 99, 100, 101, 102] : List UInt8).getD (andI .u8 (((a0.getD v11.toNat 0).toNat : Int)) 15).toNat 0).toNat : Int)).toNat]).length) * 1 ≤ 140737488355328) (some (.inl ((v9 ++ ([92, UInt8.ofNat (((([48, 49, 50, 51, 52, 53, 54, 55, 56, 57, 97, 98, 99, 100, 101, 102] : List UInt8).getD ((((a0.getD v11.toNat 0).toNat : Int)).fdiv 16).toNat 0).toNat : Int)).toNat, UInt8.ofNat (((([48, 49, 50, 51, 52, 53, 54, 55, 56, 57, 97, 98, 99, 100, 101, 102] : List UInt8).getD (andI .u8 (((a0.getD v11.toNat 0).toNat : Int)) 15).toNat 0).toNat : Int)).toNat]), IntKind.i64.wrap (v11 + 1)))))))))) else (if (mget x3 (((a0.getD v11.toNat 0).toNat : Int))).getD false = true then (F91_k36 a0 v11 v9 ((mget x3 (((a0.getD v11.toNat 0).toNat : Int))).getD false)) else (if v11 = 0 then (if (((a0.getD v11.toNat 0).toNat : Int)) = 32 then (F91_k36 a0 v11 v9 true) else (if (((a0.getD v11.toNat 0).toNat : Int)) = 35 then (F91_k36 a0 v11 v9 (decide ((((a0.getD v11.toNat 0).toNat : Int)) = 35))) else (if v11 = (IntKind.i64.wrap ((a0.length : Int) - 1)) then (F91_k36 a0 v11 v9 (decide ((((a0.getD v11.toNat 0).toNat : Int)) = 32))) else (F91_k36 a0 v11 v9 false)))) else (if v11 = (IntKind.i64.wrap ((a0.length : Int) - 1)) then (F91_k36 a0 v11 v9 (decide ((((a0.getD v11.toNat 0).toNat : Int)) = 32))) else (F91_k36 a0 v11 v9 false))))))) else (some (.inr v9))

noncomputable def F91 (a0 : List UInt8) : Option (List UInt8) :=
 (F127 ).bind fun (x3 : (List (Int × Bool))) => gd ((a0.length : Int) ≤ 9223372036854775807) ((loopO (fun (s : (List UInt8) × Int) => F91_b8 a0 x3 s.1 s.2) ([], 0)).bind fun (e : (List UInt8)) => F91_k8 e)

theorem F91_ok {H : IHeap} {K : IEnd → IHeap → Prop} (a0 : List UInt8) {r : (List UInt8)} (h : F91 a0 = some r) (hK : K (.ret (.v (str r))) H) : ICalls prog 91 [.v (str a0)] H K := by
 refine ICalls_iwp (N := 65) func91 (by kernel_rfl) rfl (by kernel_rfl) (by kernel_rfl) fun cb hcb hw hbd hnb => ?_
 clear hbd hnb
 subst hcb
 unfold F91 at h
 refine wG ?_
 refine IWp_seqF fun cb hc2 => ?_
 refine vG ?_
 obtain ⟨x3, hx3, h⟩ := bind_some' h
 refine F127_ok  hx3 ?_
 refine sG ?_
 subst hc2
 refine wG ?_
 refine IWp_seqF fun cb hc5 => ?_
 refine IWp_seqF fun cb hc6 => ?_
 obtain ⟨g7, h⟩ := gd_some.1 h
 refine vG ?_
 refine IOper_toB a0 rfl (by kernel_rfl) underlying9 underlying131 underlying5 (by (simp -implicitDefEqProofs (disch := omega) [go_sem]; done)) (by omega) ?_
 refine sG ?_
 subst hc6
 obtain ⟨y8, hl8q, hk8⟩ := bind_some' h
 refine IWp_tailC (fun tm' H' => ∃ n13 : Nat, ∃ v12 : List UInt8, v12 = y8 ∧ Ext H H' ∧ H.next + 1 ≤ H'.next ∧ H.next ≤ n13 ∧ n13 < H'.next ∧ ¬ H.next = n13 ∧ tm' 4 = .os n13 v12.length ∧ H'.obj H.next = some (.map (mI .u8 (fun (x : Bool) => .v (.bool x)) x3)) ∧ H'.obj n13 = some (.row 1 (v12.map fun x => [.v (.int .u8 x.toNat)]))) ?_ fun cb hc8 => ?_
 ·rintro tm8e H8e ⟨n13, v12, rfl, he8e, hl8e, hr0_8e, hs0_8e, hq56, t4_8e, ob0_8e, or0_8e⟩
  have h : F91_k8 v12 = some r := hk8
  unfold F91_k8 at h
  simp -implicitDefEqProofs only [go_sem]
  subst hc5
  refine IWp_seqF fun cb hc14 => ?_
  refine IWp.gh (Gh.freeze (d := 4) (k := n13) (sz := 1) (es := v12.map fun x => [.v (.int .u8 x.toNat)]) (eF or0_8e) (eF t4_8e)) ?_
  refine vG ?_
  subst hc14
  refine vO ?_
  obtain rfl := Option.some.inj h
  refine sG ?_
  refine retG_pureE (extA he8e) rfl nbA hK
 refine IWp_block ?_
 refine IWp_loopF (fun (s : (List UInt8) × Int) tm' H' => ∃ n10 : Nat, Ext H H' ∧ H.next + 1 ≤ H'.next ∧ H.next ≤ n10 ∧ n10 < H'.next ∧ ¬ H.next = n10 ∧ tm' 0 = .v (str a0) ∧ tm' 3 = .mp H.next ∧ tm' 4 = .os n10 s.1.length ∧ tm' 9 = .sl 1 (a0.map fun x => [.v (.int .u8 x.toNat)]) ∧ tm' 10 = .v (.int .i64 (a0.length : Int)) ∧ tm' 11 = .v (.int .i64 s.2) ∧ H'.obj H.next = some (.map (mI .u8 (fun (x : Bool) => .v (.bool x)) x3)) ∧ H'.obj n10 = some (.row 1 (s.1.map fun x => [.v (.int .u8 x.toNat)]))) hl8q ?_ ?_
 ·refine UpI.gh (Gh.nilrow (d := 4) (sz := 1) (by omega) eA) ?_
  refine .same ⟨H.next + 1, by exact extA (Ext.refl hw), by (simp -implicitDefEqProofs (disch := omega) [go_sem] <;> omega), by omega, by (simp -implicitDefEqProofs (disch := omega) [go_sem] <;> omega), by omega, ?_, ?_, ?_, ?_, ?_, ?_, ?_, ?_⟩ <;> (simp -implicitDefEqProofs (disch := omega) [go_sem] <;> omega)
 rintro I8 hI8 ⟨v9, v11⟩ x8 tm8 H8 ⟨n10, he8, hl8, hr0_8, hs0_8, hq57, t0_8, t3_8, t4_8, t9_8, t10_8, t11_8, ob0_8, or0_8⟩ h hret8
 replace h : F91_b8 a0 x3 v9 v11 = some x8 := h
 unfold F91_b8 at h
 refine wF (nd t10_8 t11_8) ?_
 refine IWp_seqF fun cb hc16 => ?_
 refine IWp_cond_i h eA rfl ?_ ?_
 ·intro c17 h
  refine vO ?_
  subst hc16
  refine IWp_seqF fun cb hc18 => ?_
  refine IWp_block ?_
  obtain ⟨g20, h⟩ := gd_some.1 h
  refine wF (nd t9_8 t11_8) ?_
  refine IWp_seqF fun cb hc21 => ?_
  refine IWp_block ?_
  refine IWp_seqF fun cb hc22 => ?_
  refine vG ?_
  refine splitG_f h eA ?_ ?_
  ·intro c55 h
   simp (disch := omega) at c55
   refine sG ?_
   subst hc22
   refine IWp_cond_t eA rfl ?_
   refine IWp_seqF fun cb hc23 => ?_
   refine IWp_drawP [] [0, 1, 2, 3, 4, 5, 6, 7, 8, 9] (by kernel_rfl) (by kernel_rfl) (fun _ _ _ _ h => h) ?_
   obtain ⟨g24, h⟩ := gS h
   obtain ⟨g25, h⟩ := gS h
   obtain ⟨g26, h⟩ := gS h
   obtain ⟨g27, h⟩ := gS h
   obtain ⟨g28, h⟩ := gS h
   refine sF (nd t4_8 or0_8) ?_
   subst hc23
   refine vO ?_
   subst hc18
   refine vF t11_8 ?_
   obtain rfl := Option.some.inj h
   refine loopN_mk hI8 ((v9 ++ ([92, UInt8.ofNat (((([48, 49, 50, 51, 52, 53, 54, 55, 56, 57, 97, 98, 99, 100, 101, 102] : List UInt8).getD ((((a0.getD v11.toNat 0).toNat : Int)).fdiv 16).toNat 0).toNat : Int)).toNat, UInt8.ofNat (((([48, 49, 50, 51, 52, 53, 54, 55, 56, 57, 97, 98, 99, 100, 101, 102] : List UInt8).getD (andI .u8 (((a0.getD v11.toNat 0).toNat : Int)) 15).toNat 0).toNat : Int)).toNat]), IntKind.i64.wrap (v11 + 1))) ?_
   refine .same ⟨n10, by exact extA he8, by (simp -implicitDefEqProofs (disch := omega) [go_sem] <;> omega), by with_reducible assumption, by (simp -implicitDefEqProofs (disch := omega) [go_sem] <;> omega), by with_reducible assumption, ?_, ?_, ?_, ?_, ?_, ?_, ?_, ?_⟩ <;> (simp -implicitDefEqProofs (disch := omega) [go_sem, t0_8, t3_8, t9_8, t10_8, ob0_8] <;> omega)
  intro c55 h
  simp (disch := omega) at c55
  refine sG ?_
  subst hc22
  refine IWp_cond_i h eA rfl ?_ ?_
  ·intro c29 h
   simp (disch := omega) at c29
   refine IWp_seqF fun cb hc30 => ?_
   refine IWp_drawP [] [0, 1, 2, 3, 4, 5, 6, 7, 8, 9] (by kernel_rfl) (by kernel_rfl) (fun _ _ _ _ h => h) ?_
   obtain ⟨g31, h⟩ := gS h
   obtain ⟨g32, h⟩ := gS h
   obtain ⟨g33, h⟩ := gS h
   obtain ⟨g34, h⟩ := gS h
   obtain ⟨g35, h⟩ := gS h
   refine sF (nd t4_8 or0_8) ?_
   subst hc30
   refine vO ?_
   subst hc18
   refine vF t11_8 ?_
   obtain rfl := Option.some.inj h
   refine loopN_mk hI8 ((v9 ++ ([92, UInt8.ofNat (((([48, 49, 50, 51, 52, 53, 54, 55, 56, 57, 97, 98, 99, 100, 101, 102] : List UInt8).getD ((((a0.getD v11.toNat 0).toNat : Int)).fdiv 16).toNat 0).toNat : Int)).toNat, UInt8.ofNat (((([48, 49, 50, 51, 52, 53, 54, 55, 56, 57, 97, 98, 99, 100, 101, 102] : List UInt8).getD (andI .u8 (((a0.getD v11.toNat 0).toNat : Int)) 15).toNat 0).toNat : Int)).toNat]), IntKind.i64.wrap (v11 + 1))) ?_
   refine .same ⟨n10, by exact extA he8, by (simp -implicitDefEqProofs (disch := omega) [go_sem] <;> omega), by with_reducible assumption, by (simp -implicitDefEqProofs (disch := omega) [go_sem] <;> omega), by with_reducible assumption, ?_, ?_, ?_, ?_, ?_, ?_, ?_, ?_⟩ <;> (simp -implicitDefEqProofs (disch := omega) [go_sem, t0_8, t3_8, t9_8, t10_8, ob0_8] <;> omega)
  intro c29 h
  simp (disch := omega) at c29
  refine IWp_seqC (fun tm' H' => ∃ n38 : Nat, ∃ v37 : List UInt8, ∃ v39 : Bool, Ext H H' ∧ H8.next ≤ H'.next ∧ H.next ≤ n38 ∧ n38 < H'.next ∧ ¬ H.next = n38 ∧ tm' 0 = .v (str a0) ∧ tm' 3 = .mp H.next ∧ tm' 4 = .os n38 v37.length ∧ tm' 6 = .v (.int .u8 (((a0.getD v11.toNat 0).toNat : Int))) ∧ tm' 9 = .sl 1 (a0.map fun x => [.v (.int .u8 x.toNat)]) ∧ tm' 10 = .v (.int .i64 (a0.length : Int)) ∧ tm' 11 = .v (.int .i64 v11) ∧ tm' 32 = .v (.bool v39) ∧ H'.obj H.next = some (.map (mI .u8 (fun (x : Bool) => .v (.bool x)) x3)) ∧ H'.obj n38 = some (.row 1 (v37.map fun x => [.v (.int .u8 x.toNat)])) ∧ F91_k36 a0 v11 v37 v39 = some x8) ?_ fun cb hc36 => ?_
  ·rintro tm36 H36 ⟨n38, v37, v39, he36, hl36, hr0_36, hs0_36, hq54, t0_36, t3_36, t4_36, t6_36, t9_36, t10_36, t11_36, t32_36, ob0_36, or0_36, h⟩
   unfold F91_k36 at h
   refine IWp_cond_i h (eF t32_36) rfl ?_ ?_
   ·intro c40 h
    obtain ⟨g41, h⟩ := gS h
    refine vF (nd t4_36 or0_36) ?_
    subst hc21
    obtain ⟨g42, h⟩ := gS h
    obtain ⟨g43, h⟩ := gS h
    refine vF t6_36 ?_
    subst hc18
    refine vF t11_36 ?_
    obtain rfl := Option.some.inj h
    refine loopN_mk hI8 (((v37 ++ ([92])) ++ ([UInt8.ofNat (((a0.getD v11.toNat 0).toNat : Int)).toNat]), IntKind.i64.wrap (v11 + 1))) ?_
    refine .same ⟨n38, by exact extA he36, by (simp -implicitDefEqProofs (disch := omega) [go_sem] <;> omega), by with_reducible assumption, by (simp -implicitDefEqProofs (disch := omega) [go_sem] <;> omega), by with_reducible assumption, ?_, ?_, ?_, ?_, ?_, ?_, ?_, ?_⟩ <;> (simp -implicitDefEqProofs (disch := omega) [go_sem, t0_36, t3_36, t9_36, t10_36, ob0_36] <;> omega)
   intro c40 h
   simp (disch := omega) at c40
   refine vO ?_
   subst hc21
   obtain ⟨g44, h⟩ := gS h
   obtain ⟨g45, h⟩ := gS h
   refine vF (nd t4_36 (nd t6_36 or0_36)) ?_
   subst hc18
   refine vF t11_36 ?_
   obtain rfl := Option.some.inj h
   refine loopN_mk hI8 ((v37 ++ ([UInt8.ofNat (((a0.getD v11.toNat 0).toNat : Int)).toNat]), IntKind.i64.wrap (v11 + 1))) ?_
   refine .same ⟨n38, by exact extA he36, by (simp -implicitDefEqProofs (disch := omega) [go_sem] <;> omega), by with_reducible assumption, by (simp -implicitDefEqProofs (disch := omega) [go_sem] <;> omega), by with_reducible assumption, ?_, ?_, ?_, ?_, ?_, ?_, ?_, ?_⟩ <;> (simp -implicitDefEqProofs (disch := omega) [go_sem, t0_36, t3_36, t9_36, t10_36, ob0_36] <;> omega)
  refine IWp_seqF fun cb hc46 => ?_
  refine v0 ?_
  have hmL181 := @lkI_mI _ .u8 (fun (x : Bool) => .v (.bool x))
  have hmF181 := fun o => okI_f (fun (x : Bool) => .v (.bool x)) false (z := .v (.bool false)) (o := o) (by rfl)
  refine sF (nd t3_8 (nd ob0_8 (nd @hmL181 @hmF181))) ?_
  subst hc46
  refine IWp_cond_i h eA rfl ?_ ?_
  ·intro c47 h
   simp (disch := omega) at c47
   refine vO ?_
   refine hc36 _ _ ?_
   refine .same ⟨n10, v9, ((mget x3 (((a0.getD v11.toNat 0).toNat : Int))).getD false), by exact extA he8, by omega, by with_reducible assumption, by with_reducible assumption, by with_reducible assumption, ?_, ?_, ?_, ?_, ?_, ?_, ?_, ?_, ?_, ?_, h⟩ <;> first | with_reducible assumption | (simp -implicitDefEqProofs (disch := omega) [go_sem, t0_8, t3_8, t4_8, t9_8, t10_8, t11_8] <;> omega)
  intro c47 h
  simp (disch := omega) at c47
  refine IWp_seqF fun cb hc48 => ?_
  refine vG ?_
  refine splitG_f h rfl ?_ ?_
  ·intro c53 h
   refine sG ?_
   refine splitG_f h eA ?_ ?_
   ·intro c51 h
    simp (disch := omega) at c51
    refine sG ?_
    subst hc48
    refine IWp_cond_t eA rfl ?_
    refine vO ?_
    refine hc36 _ _ ?_
    refine .same ⟨n10, v9, true, by exact extA he8, by omega, by with_reducible assumption, by with_reducible assumption, by with_reducible assumption, ?_, ?_, ?_, ?_, ?_, ?_, ?_, ?_, ?_, ?_, h⟩ <;> first | with_reducible assumption | (simp -implicitDefEqProofs (disch := omega) [go_sem, t0_8, t3_8, t4_8, t9_8, t10_8, t11_8] <;> omega)
   intro c51 h
   simp (disch := omega) at c51
   refine sG ?_
   subst hc48
   refine IWp_cond_i h eA rfl ?_ ?_
   ·intro c49 h
    simp (disch := omega) at c49
    refine vO ?_
    refine hc36 _ _ ?_
    refine .same ⟨n10, v9, (decide ((((a0.getD v11.toNat 0).toNat : Int)) = 35)), by exact extA he8, by omega, by with_reducible assumption, by with_reducible assumption, by with_reducible assumption, ?_, ?_, ?_, ?_, ?_, ?_, ?_, ?_, ?_, ?_, h⟩ <;> first | with_reducible assumption | (simp -implicitDefEqProofs (disch := omega) [go_sem, t0_8, t3_8, t4_8, t9_8, t10_8, t11_8] <;> omega)
   intro c49 h
   simp (disch := omega) at c49
   refine vF t0_8 ?_
   refine splitG_f h eA ?_ ?_
   ·intro c50 h
    refine sG ?_
    refine hc36 _ _ ?_
    refine .same ⟨n10, v9, (decide ((((a0.getD v11.toNat 0).toNat : Int)) = 32)), by exact extA he8, by omega, by with_reducible assumption, by with_reducible assumption, by with_reducible assumption, ?_, ?_, ?_, ?_, ?_, ?_, ?_, ?_, ?_, ?_, h⟩ <;> first | with_reducible assumption | (simp -implicitDefEqProofs (disch := omega) [go_sem, t0_8, t3_8, t4_8, t9_8, t10_8, t11_8] <;> omega)
   intro c50 h
   refine sG ?_
   refine hc36 _ _ ?_
   refine .same ⟨n10, v9, false, by exact extA he8, by omega, by with_reducible assumption, by with_reducible assumption, by with_reducible assumption, ?_, ?_, ?_, ?_, ?_, ?_, ?_, ?_, ?_, ?_, h⟩ <;> first | with_reducible assumption | (simp -implicitDefEqProofs (disch := omega) [go_sem, t0_8, t3_8, t4_8, t9_8, t10_8, t11_8] <;> omega)
  intro c53 h
  refine sG ?_
  subst hc48
  refine IWp_cond_f eA rfl ?_
  refine vF t0_8 ?_
  refine splitG_f h eA ?_ ?_
  ·intro c52 h
   refine sG ?_
   refine hc36 _ _ ?_
   refine .same ⟨n10, v9, (decide ((((a0.getD v11.toNat 0).toNat : Int)) = 32)), by exact extA he8, by omega, by with_reducible assumption, by with_reducible assumption, by with_reducible assumption, ?_, ?_, ?_, ?_, ?_, ?_, ?_, ?_, ?_, ?_, h⟩ <;> first | with_reducible assumption | (simp -implicitDefEqProofs (disch := omega) [go_sem, t0_8, t3_8, t4_8, t9_8, t10_8, t11_8] <;> omega)
  intro c52 h
  refine sG ?_
  refine hc36 _ _ ?_
  refine .same ⟨n10, v9, false, by exact extA he8, by omega, by with_reducible assumption, by with_reducible assumption, by with_reducible assumption, ?_, ?_, ?_, ?_, ?_, ?_, ?_, ?_, ?_, ?_, h⟩ <;> first | with_reducible assumption | (simp -implicitDefEqProofs (disch := omega) [go_sem, t0_8, t3_8, t4_8, t9_8, t10_8, t11_8] <;> omega)
 intro c17 h
 simp (disch := omega) at c17
 refine vO ?_
 obtain rfl := Option.some.inj h
 have hy8 := hret8 _ rfl
 refine hc8 _ _ ?_
 refine .same ⟨n10, v9, hy8, by exact extA he8, by with_reducible assumption, by with_reducible assumption, by with_reducible assumption, by with_reducible assumption, ?_, ?_, ?_⟩ <;> first | with_reducible assumption | (simp -implicitDefEqProofs (disch := omega) [go_sem, t4_8] <;> omega)

/-! cardcase/dn.Text -/

noncomputable def F60_k10 (v13 : List UInt8) : Option ((List UInt8) × Int) :=
 some (v13, 0)

noncomputable def F60_k21 (a0 : List S89) (v12 : Int) (v22 : List UInt8) : Option (((List UInt8) × Int) ⊕ (List UInt8)) :=
 gd ((((a0.getD v12.toNat S89.zero).fType).length : Int) + (([61]) : List UInt8).length ≤ 9223372036854775807) ((F91 ((a0.getD v12.toNat S89.zero).fValue)).bind fun (x24 : (List UInt8)) => gd (((((a0.getD v12.toNat S89.zero).fType) ++ ([61])).length : Int) + x24.length ≤ 9223372036854775807) (gd ((v22.length : Int) + ((((a0.getD v12.toNat S89.zero).fType) ++ ([61])) ++ x24).length ≤ 9223372036854775807) (some (.inl ((v22 ++ ((((a0.getD v12.toNat S89.zero).fType) ++ ([61])) ++ x24), IntKind.i64.wrap (v12 + 1)))))))

noncomputable def F60_b10 (a0 : List S89) (v11 : List UInt8) (v12 : Int) : Option (((List UInt8) × Int) ⊕ (List UInt8)) :=
 if v12 < (a0.length : Int) then (gd (0 ≤ v12 ∧ v12 < a0.length) (if 0 < v12 then (gd ((v11.length : Int) + (([44]) : List UInt8).length ≤ 9223372036854775807) (F60_k21 a0 v12 (v11 ++ ([44])))) else (F60_k21 a0 v12 v11))) else (some (.inr v11))

noncomputable def F60 (a0 : List S89) : Option ((List UInt8) × Int) :=
 (F54 a0).bind fun (x4 : Int) => if ¬ x4 = 0 then (some ([], 2)) else ((loopO (fun (s : (List UInt8) × Int) => F60_b10 a0 s.1 s.2) ([], 0)).bind fun (e : (List UInt8)) => F60_k10 e)

theorem F60_ok {H : IHeap} {K : IEnd → IHeap → Prop} (a0 : List S89) {r : (List UInt8) × Int} (h : F60 a0 = some r) (hK : K (.ret (.tu [.v (str r.1), .v (.int .i64 r.2)])) H) : ICalls prog 60 [.sl 2 (a0.map fun x => [.v (str x.fType), .v (str x.fValue)])] H K := by
 refine ICalls_iwp (N := 32) func60 (by kernel_rfl) rfl (by kernel_rfl) (by kernel_rfl) fun cb hcb hw hbd hnb => ?_
 clear hbd hnb
 subst hcb
 unfold F60 at h
 refine wG ?_
 refine IWp_seqF fun cb hc2 => ?_
 refine IWp_seqF fun cb hc3 => ?_
 refine vG ?_
 obtain ⟨x4, hx4, h⟩ := bind_some' h
 refine F54_ok a0 hx4 ?_
 refine sG ?_
 subst hc3
 refine IWp_cond_i h eA rfl ?_ ?_
 ·intro c5 h
  refine wG ?_
  refine vO ?_
  obtain rfl := Option.some.inj h
  refine sG ?_
  exact retA (.refl hw) hK
 intro c5 h
 simp (disch := omega) at c5
 refine vO ?_
 subst hc2
 refine wG ?_
 refine IWp_seqF fun cb hc8 => ?_
 refine wG ?_
 obtain ⟨y10, hl10q, hk10⟩ := bind_some' h
 refine IWp_tailC (fun tm' H' => ∃ v13 : List UInt8, v13 = y10 ∧ Ext H H' ∧ H.next ≤ H'.next ∧ tm' 4 = .v (str v13)) ?_ fun cb hc10 => ?_
 ·rintro tm10e H10e ⟨v13, rfl, he10e, hl10e, t4_10e⟩
  have h : F60_k10 v13 = some r := hk10
  unfold F60_k10 at h
  simp -implicitDefEqProofs only [go_sem]
  subst hc8
  refine wF t4_10e ?_
  refine vO ?_
  obtain rfl := Option.some.inj h
  refine sG ?_
  refine retG_pureE (extA he10e) rfl nbA hK
 refine IWp_block ?_
 refine IWp_loopF (fun (s : (List UInt8) × Int) tm' H' => Ext H H' ∧ H.next ≤ H'.next ∧ tm' 4 = .v (str s.1) ∧ tm' 10 = .sl 2 (a0.map fun x => [.v (str x.fType), .v (str x.fValue)]) ∧ tm' 11 = .v (.int .i64 (a0.length : Int)) ∧ tm' 12 = .v (.int .i64 s.2)) hl10q ?_ ?_
 ·refine .same ⟨by exact extA (Ext.refl hw), by omega, ?_, ?_, ?_, ?_⟩ <;> (simp -implicitDefEqProofs (disch := omega) [go_sem] <;> omega)
 rintro I10 hI10 ⟨v11, v12⟩ x10 tm10 H10 ⟨he10, hl10, t4_10, t10_10, t11_10, t12_10⟩ h hret10
 replace h : F60_b10 a0 v11 v12 = some x10 := h
 unfold F60_b10 at h
 refine wF (nd t11_10 t12_10) ?_
 refine IWp_seqF fun cb hc16 => ?_
 refine IWp_cond_i h eA rfl ?_ ?_
 ·intro c17 h
  refine vO ?_
  subst hc16
  refine IWp_seqF fun cb hc18 => ?_
  refine IWp_block ?_
  obtain ⟨g20, h⟩ := gd_some.1 h
  refine wF (nd t10_10 t12_10) ?_
  refine IWp_seqC (fun tm' H' => ∃ v22 : List UInt8, Ext H H' ∧ H10.next + 1 ≤ H'.next ∧ tm' 4 = .v (str v22) ∧ tm' 6 = .p H10.next 0 ∧ tm' 10 = .sl 2 (a0.map fun x => [.v (str x.fType), .v (str x.fValue)]) ∧ tm' 11 = .v (.int .i64 (a0.length : Int)) ∧ tm' 12 = .v (.int .i64 v12) ∧ H'.obj H10.next = some (.cells ([.v (str ((a0.getD v12.toNat S89.zero).fType)), .v (str ((a0.getD v12.toNat S89.zero).fValue))])) ∧ F60_k21 a0 v12 v22 = some x10) ?_ fun cb hc21 => ?_
  ·rintro tm21 H21 ⟨v22, he21, hl21, t4_21, t6_21, t10_21, t11_21, t12_21, ob0_21, h⟩
   unfold F60_k21 at h
   refine IWp_drawP [6] [0, 1, 2, 3, 4, 5, 6, 7, 8, 9] (by kernel_rfl) (by kernel_rfl) (fun _ _ _ _ h => h) ?_
   obtain ⟨g23, h⟩ := gS h
   refine sF (nd t4_21 (nd t6_21 ob0_21)) ?_
   obtain ⟨x24, hx24, h⟩ := bind_some' h
   refine PureC.mk _ (fun _ _ hK => ICalls.eqA eA (F91_ok ((a0.getD v12.toNat S89.zero).fValue) hx24 hK)) ?_
   obtain ⟨g25, h⟩ := gS h
   obtain ⟨g26, h⟩ := gS h
   refine sG ?_
   subst hc18
   refine vF t12_21 ?_
   obtain rfl := Option.some.inj h
   refine loopN_mk hI10 ((v22 ++ ((((a0.getD v12.toNat S89.zero).fType) ++ ([61])) ++ x24), IntKind.i64.wrap (v12 + 1))) ?_
   refine .same ⟨by exact extA he21, by omega, ?_, ?_, ?_, ?_⟩ <;> (simp -implicitDefEqProofs (disch := omega) [go_sem, t10_21, t11_21] <;> omega)
  refine wG ?_
  refine IWp_cond_i h eA rfl ?_ ?_
  ·intro c28 h
   obtain ⟨g29, h⟩ := gS h
   refine vF t4_10 ?_
   refine hc21 _ _ ?_
   refine .same ⟨(v11 ++ ([44])), by exact extA he10, by (simp -implicitDefEqProofs (disch := omega) [go_sem] <;> omega), ?_, ?_, ?_, ?_, ?_, ?_, h⟩ <;> (simp -implicitDefEqProofs (disch := omega) [go_sem, t10_10, t11_10, t12_10] <;> omega)
  intro c28 h
  simp (disch := omega) at c28
  refine vO ?_
  refine hc21 _ _ ?_
  refine .same ⟨v11, by exact extA he10, by (simp -implicitDefEqProofs (disch := omega) [go_sem] <;> omega), ?_, ?_, ?_, ?_, ?_, ?_, h⟩ <;> (simp -implicitDefEqProofs (disch := omega) [go_sem, t4_10, t10_10, t11_10, t12_10] <;> omega)
 intro c17 h
 simp (disch := omega) at c17
 refine vO ?_
 obtain rfl := Option.some.inj h
 have hy10 := hret10 _ rfl
 refine hc10 _ _ ?_
 refine .same ⟨v11, hy10, by exact extA he10, by with_reducible assumption, by (simp -implicitDefEqProofs (disch := omega) [go_sem, t4_10] <;> omega)⟩

/-! (*cardcase/pairs.Pairs).Rows -/

noncomputable def F33_k9 (v13 : List S78) : Option (List S78) :=
 some v13

noncomputable def F33_b9 (el12 : Int × S39) (v10 : List S78) : Option ((List S78) ⊕ (List S78)) :=
 gd (el12.2.fShadow.length = 8) ((F61 el12.2.fShadow).bind fun (x18 : (List UInt8) × Int) => gd (((([112]) : List UInt8).length : Int) + el12.2.fHref.length ≤ 9223372036854775807) (gd ((el12.2.fUuid.length : Int) + (([10]) : List UInt8).length ≤ 9223372036854775807) (gd (((el12.2.fUuid ++ ([10])).length : Int) + x18.1.length ≤ 9223372036854775807) (gd ((v10.length + ([(⟨([112]) ++ el12.2.fHref, (el12.2.fUuid ++ ([10])) ++ x18.1⟩ : S78)]).length) * 32 ≤ 140737488355328) (some (.inl (v10 ++ ([(⟨([112]) ++ el12.2.fHref, (el12.2.fUuid ++ ([10])) ++ x18.1⟩ : S78)]))))))))

noncomputable def F33_k3 (a0_0_0 : List (List UInt8 × S39)) (a0_0_1 : List (List UInt8 × (List UInt8))) (a0_1 : Option S33) (v4 : List S78) : Option (List S78) :=
 (F14 a0_0_0 a0_0_1 a0_1).bind fun (x8 : (List S39)) => gd (∀ x, x ∈ x8 → bigC x.fShadow) ((rangeR (ρ := (List S78)) (fun (el12 : Int × S39) (s : (List S78)) => F33_b9 el12 s) (fun (s : (List S78)) => s) (enumI x8) v4).bind fun (e : (List S78)) => F33_k9 e)

noncomputable def F33 (a0_0_0 : List (List UInt8 × S39)) (a0_0_1 : List (List UInt8 × (List UInt8))) (a0_1 : Option S33) : Option (List S78) :=
 (F26 a0_0_0 a0_0_1 a0_1).bind fun (x32 : S33 × Bool) => gd (x32.1.fShadow.length = 8) (if x32.2 = true then ((F60 x32.1.fDn).bind fun (x37 : (List UInt8) × Int) => (F61 x32.1.fShadow).bind fun (x39 : (List UInt8) × Int) => (F62 ([x32.1.fHref, x32.1.fUuid, x37.1, x39.1]) ([10])).bind fun (x40 : (List UInt8)) => gd (([(⟨[105], x40⟩ : S78)]).length * 32 ≤ 140737488355328) (F33_k3 a0_0_0 a0_0_1 a0_1 ([(⟨[105], x40⟩ : S78)]))) else (F33_k3 a0_0_0 a0_0_1 a0_1 []))

theorem F33_ok {H : IHeap} {K : IEnd → IHeap → Prop} (a0_0_0 : List (List UInt8 × S39)) (a0_0_1 : List (List UInt8 × (List UInt8))) (a0_1 : Option S33) (ka0 : Nat) (ka0_0_0 : Nat) (ka0_0_1 : Nat) (oka0 : H.obj ka0 = some (.cells ([.mp ka0_0_0, .mp ka0_0_1, optP (fun (x : S33) => .v (str x.fHref) :: .v (str x.fUuid) :: .sl 2 (x.fDn.map fun x => [.v (str x.fType), .v (str x.fValue)]) :: (x.fShadow.map fun x => .sl 1 (x.map fun x => [.v (str x)]))) a0_1]))) (oka0_0_0 : H.obj ka0_0_0 = some (.map (mE (fun (x : S39) => .ag (.v (str x.fHref) :: .v (str x.fUuid) :: (x.fShadow.map fun x => .sl 1 (x.map fun x => [.v (str x)])))) a0_0_0))) (oka0_0_1 : H.obj ka0_0_1 = some (.map (mE (fun (x : List UInt8) => .v (str x)) a0_0_1))) (hV : TOK prog H) {r : (List S78)} (h : F33 a0_0_0 a0_0_1 a0_1 = some r) (hK : K (.ret (.sl 2 (r.map fun x => [.v (str x.fKey), .v (str x.fValue)]))) H) : ICalls prog 33 [.p ka0 0] H K := by
 refine ICalls_iwp (N := 67) func33 (by kernel_rfl) rfl (by kernel_rfl) (by kernel_rfl) fun cb hcb hw hbd hnb => ?_
 clear hbd hnb
 subst hcb
 unfold F33 at h
 have hka0 : ka0 < H.next := Nat.lt_of_not_le fun q => by rw [hw _ q] at oka0; cases oka0
 have hka0_0_0 : ka0_0_0 < H.next := Nat.lt_of_not_le fun q => by rw [hw _ q] at oka0_0_0; cases oka0_0_0
 have hka0_0_1 : ka0_0_1 < H.next := Nat.lt_of_not_le fun q => by rw [hw _ q] at oka0_0_1; cases oka0_0_1
 refine wG ?_
 refine wG ?_
 refine IWp_seqC (fun tm' H' => ∃ n5 : Nat, ∃ v4 : List S78, Ext H H' ∧ H.next + 1 ≤ H'.next ∧ H.next ≤ n5 ∧ n5 < H'.next ∧ ¬ ka0_0_0 = n5 ∧ ¬ ka0_0_1 = n5 ∧ ¬ ka0 = n5 ∧ ¬ H.next = n5 ∧ tm' 0 = .p ka0 0 ∧ tm' 3 = .p H.next 0 ∧ H'.obj ka0_0_0 = some (.map (mE (fun (x : S39) => .ag (.v (str x.fHref) :: .v (str x.fUuid) :: (x.fShadow.map fun x => .sl 1 (x.map fun x => [.v (str x)])))) a0_0_0)) ∧ H'.obj ka0_0_1 = some (.map (mE (fun (x : List UInt8) => .v (str x)) a0_0_1)) ∧ H'.obj ka0 = some (.cells ([.mp ka0_0_0, .mp ka0_0_1, optP (fun (x : S33) => .v (str x.fHref) :: .v (str x.fUuid) :: .sl 2 (x.fDn.map fun x => [.v (str x.fType), .v (str x.fValue)]) :: (x.fShadow.map fun x => .sl 1 (x.map fun x => [.v (str x)]))) a0_1])) ∧ H'.obj H.next = some (.cells ([.os n5 v4.length])) ∧ H'.obj n5 = some (.row 2 (v4.map fun x => [.v (str x.fKey), .v (str x.fValue)])) ∧ F33_k3 a0_0_0 a0_0_1 a0_1 v4 = some r) ?_ fun cb hc3 => ?_
 ·rintro tm3 H3 ⟨n5, v4, he3, hl3, hr0_3, hs0_3, hq42, hq43, hq44, hq45, t0_3, t3_3, ob0_3, ob1_3, ob2_3, ob3_3, or0_3, h⟩
  unfold F33_k3 at h
  refine IWp_seqF fun cb hc6 => ?_
  refine IWp_seqF fun cb hc7 => ?_
  refine vF t0_3 ?_
  obtain ⟨x8, hx8, h⟩ := bind_some' h
  refine F14_ok a0_0_0 a0_0_1 a0_1 ka0 ka0_0_0 ka0_0_1 (by assumption) (by assumption) (by assumption) hx8 ?_
  refine sG ?_
  subst hc7
  obtain ⟨gi9, h⟩ := gd_some.1 h
  obtain ⟨y9, hl9q, hk9⟩ := bind_some' h
  refine IWp_tailC (fun tm' H' => ∃ n14 : Nat, ∃ v13 : List S78, v13 = y9 ∧ Ext H H' ∧ H3.next ≤ H'.next ∧ H.next ≤ n14 ∧ n14 < H'.next ∧ ¬ ka0_0_0 = n14 ∧ ¬ ka0_0_1 = n14 ∧ ¬ ka0 = n14 ∧ ¬ H.next = n14 ∧ tm' 3 = .p H.next 0 ∧ H'.obj ka0_0_0 = some (.map (mE (fun (x : S39) => .ag (.v (str x.fHref) :: .v (str x.fUuid) :: (x.fShadow.map fun x => .sl 1 (x.map fun x => [.v (str x)])))) a0_0_0)) ∧ H'.obj ka0_0_1 = some (.map (mE (fun (x : List UInt8) => .v (str x)) a0_0_1)) ∧ H'.obj ka0 = some (.cells ([.mp ka0_0_0, .mp ka0_0_1, optP (fun (x : S33) => .v (str x.fHref) :: .v (str x.fUuid) :: .sl 2 (x.fDn.map fun x => [.v (str x.fType), .v (str x.fValue)]) :: (x.fShadow.map fun x => .sl 1 (x.map fun x => [.v (str x)]))) a0_1])) ∧ H'.obj H.next = some (.cells ([.os n14 v13.length])) ∧ H'.obj n14 = some (.row 2 (v13.map fun x => [.v (str x.fKey), .v (str x.fValue)]))) ?_ fun cb hc9 => ?_
  ·rintro tm9e H9e ⟨n14, v13, rfl, he9e, hl9e, hr0_9e, hs0_9e, hq23, hq24, hq25, hq26, t3_9e, ob0_9e, ob1_9e, ob2_9e, ob3_9e, or0_9e⟩
   have h : F33_k9 v13 = some r := hk9
   unfold F33_k9 at h
   simp -implicitDefEqProofs only [go_sem]
   subst hc6
   refine wF (nd t3_9e ob3_9e) ?_
   refine IWp.gh (Gh.freeze (d := 2) (k := n14) (sz := 2) (es := v13.map fun x => [.v (str x.fKey), .v (str x.fValue)]) (eF or0_9e) eA) ?_
   refine vO ?_
   obtain rfl := Option.some.inj h
   refine sG ?_
   refine retG_pureE (extA he9e) rfl nbA hK
  refine IWp_block ?_
  refine IWp_rangeF (gf := 46) (cap := [.cp [.sl 10 (x8.map fun x => .v (str x.fHref) :: .v (str x.fUuid) :: (x.fShadow.map fun x => .sl 1 (x.map fun x => [.v (str x)])))]]) (C := []) (enc := fun (el12 : Int × S39) => [.v (.int .i64 el12.1), .ag (.v (str el12.2.fHref) :: .v (str el12.2.fUuid) :: (el12.2.fShadow.map fun x => .sl 1 (x.map fun x => [.v (str x)])))]) (fun (s : (List S78)) _ H' => ∃ n11 : Nat, Ext H H' ∧ H3.next ≤ H'.next ∧ H.next ≤ n11 ∧ n11 < H'.next ∧ ¬ ka0_0_0 = n11 ∧ ¬ ka0_0_1 = n11 ∧ ¬ ka0 = n11 ∧ ¬ H.next = n11 ∧ H'.obj ka0_0_0 = some (.map (mE (fun (x : S39) => .ag (.v (str x.fHref) :: .v (str x.fUuid) :: (x.fShadow.map fun x => .sl 1 (x.map fun x => [.v (str x)])))) a0_0_0)) ∧ H'.obj ka0_0_1 = some (.map (mE (fun (x : List UInt8) => .v (str x)) a0_0_1)) ∧ H'.obj ka0 = some (.cells ([.mp ka0_0_0, .mp ka0_0_1, optP (fun (x : S33) => .v (str x.fHref) :: .v (str x.fUuid) :: .sl 2 (x.fDn.map fun x => [.v (str x.fType), .v (str x.fValue)]) :: (x.fShadow.map fun x => .sl 1 (x.map fun x => [.v (str x)]))) a0_1])) ∧ H'.obj H.next = some (.cells ([.os n11 s.length])) ∧ H'.obj n11 = some (.row 2 (s.map fun x => [.v (str x.fKey), .v (str x.fValue)]))) hl9q (by kernel_rfl) (by rfl) (all46 (x8) gi9) ?_ (fun _ _ _ _ hh => hh) (by intro _ _ _ _ p hp; cases hp) (fun _ => rfl) ?_ ?_
  ·exact ⟨n5, by exact extA he3, by omega, by with_reducible assumption, by with_reducible assumption, by with_reducible assumption, by with_reducible assumption, by with_reducible assumption, by with_reducible assumption, by with_reducible assumption, by with_reducible assumption, by with_reducible assumption, by with_reducible assumption, by with_reducible assumption⟩
  ·rintro I9 hI9 el12 v10 x9 H9 ⟨n11, he9, hl9, hr0_9, hs0_9, hq27, hq28, hq29, hq30, ob0_9, ob1_9, ob2_9, ob3_9, or0_9⟩ h hret9
   replace h : F33_b9 el12 v10 = some x9 := h
   unfold F33_b9 at h
   skip
   obtain ⟨g16, h⟩ := gd_some.1 h
   refine vF g16 ?_
   refine IWp_block ?_
   refine IWp_seqF fun cb hc17 => ?_
   refine vF g16 ?_
   obtain ⟨x18, hx18, h⟩ := bind_some' h
   refine F61_ok el12.2.fShadow (by exact hV.of (he9).sn) hx18 ?_
   refine sG ?_
   subst hc17
   obtain ⟨g19, h⟩ := gS h
   obtain ⟨g20, h⟩ := gS h
   obtain ⟨g21, h⟩ := gS h
   obtain ⟨g22, h⟩ := gS h
   refine v0 ?_
   simp -implicitDefEqProofs (disch := omega) [go_sem, bdP, t3_3, ob3_9, or0_9, g16]
   obtain rfl := Option.some.inj h
   refine loopN_mk hI9 (v10 ++ ([(⟨([112]) ++ el12.2.fHref, (el12.2.fUuid ++ ([10])) ++ x18.1⟩ : S78)])) ?_
   refine .same ⟨n11, by exact extA he9, by (simp -implicitDefEqProofs (disch := omega) [go_sem] <;> omega), by with_reducible assumption, by (simp -implicitDefEqProofs (disch := omega) [go_sem] <;> omega), by with_reducible assumption, by with_reducible assumption, by with_reducible assumption, by with_reducible assumption, ?_, ?_, ?_, ?_, ?_⟩ <;> (simp -implicitDefEqProofs (disch := omega) [go_sem, ob0_9, ob1_9, ob2_9] <;> omega)
  rintro v10 H9 ⟨n11, he9, hl9, hr0_9, hs0_9, hq27, hq28, hq29, hq30, ob0_9, ob1_9, ob2_9, ob3_9, or0_9⟩ hy9
  simp -implicitDefEqProofs only [go_sem]
  refine hc9 _ _ ?_
  refine .same ⟨n11, v10, hy9, by exact extA he9, by (simp -implicitDefEqProofs (disch := omega) [go_sem] <;> omega), by with_reducible assumption, by (simp -implicitDefEqProofs (disch := omega) [go_sem] <;> omega), by with_reducible assumption, by with_reducible assumption, by with_reducible assumption, by with_reducible assumption, ?_, ?_, ?_, ?_, ?_, ?_⟩ <;> (simp -implicitDefEqProofs (disch := omega) [go_sem, t3_3, ob0_9, ob1_9, ob2_9, ob3_9, or0_9] <;> omega)
 refine IWp_seqF fun cb hc31 => ?_
 refine vG ?_
 obtain ⟨x32, hx32, h⟩ := bind_some' h
 refine F26_ok a0_0_0 a0_0_1 a0_1 ka0 ka0_0_0 ka0_0_1 (eF oka0) (eF oka0_0_0) (eF oka0_0_1) hx32 ?_
 obtain ⟨g33, h⟩ := gd_some.1 h
 refine sF g33 ?_
 subst hc31
 refine wG ?_
 refine IWp_cond_i h eA rfl ?_ ?_
 ·intro c35 h
  refine IWp_seqF fun cb hc36 => ?_
  refine vF g33 ?_
  obtain ⟨x37, hx37, h⟩ := bind_some' h
  refine F60_ok x32.1.fDn hx37 ?_
  refine sG ?_
  subst hc36
  refine IWp_seqF fun cb hc38 => ?_
  refine vF g33 ?_
  obtain ⟨x39, hx39, h⟩ := bind_some' h
  refine F61_ok x32.1.fShadow (by exact hV.of rfl) hx39 ?_
  refine sG ?_
  subst hc38
  refine IWp_drawP [8] [0, 1, 2, 3, 4, 5, 6, 7, 8, 9, 10, 11, 12] (by kernel_rfl) (by kernel_rfl) (fun _ _ _ _ h => h) ?_
  simp -implicitDefEqProofs (disch := omega) [go_sem, bdP, g33]
  obtain ⟨x40, hx40, h⟩ := bind_some' h
  refine PureC.mk _ (fun _ _ hK => ICalls.eqA eA (F62_ok ([x32.1.fHref, x32.1.fUuid, x37.1, x39.1]) ([10]) hx40 hK)) ?_
  obtain ⟨g41, h⟩ := gS h
  refine sF g33 ?_
  refine hc3 _ _ ?_
  refine .same ⟨H.next + 2, ([(⟨[105], x40⟩ : S78)]), by exact extA (Ext.refl hw), by (simp -implicitDefEqProofs (disch := omega) [go_sem] <;> omega), by omega, by (simp -implicitDefEqProofs (disch := omega) [go_sem] <;> omega), by omega, by omega, by omega, by omega, ?_, ?_, ?_, ?_, ?_, ?_, ?_, h⟩ <;> (simp -implicitDefEqProofs (disch := omega) [go_sem, oka0_0_0, oka0_0_1, oka0] <;> omega)
 intro c35 h
 simp (disch := omega) at c35
 refine vO ?_
 refine hc3 _ _ ?_
 refine UpI.gh (Gh.nilrowBox (kb := H.next) (sz := 2) (cs := [.v (.slice none 0 0)]) (cs' := [.os (H.next + 2) 0]) (by omega) eA (NzL.row NzL.nil)) ?_
 refine .same ⟨H.next + 2, [], by exact extA (Ext.refl hw), by (simp -implicitDefEqProofs (disch := omega) [go_sem] <;> omega), by omega, by (simp -implicitDefEqProofs (disch := omega) [go_sem] <;> omega), by omega, by omega, by omega, by omega, ?_, ?_, ?_, ?_, ?_, ?_, ?_, h⟩ <;> (simp -implicitDefEqProofs (disch := omega) [go_sem, oka0_0_0, oka0_0_1, oka0] <;> omega)

end Go.Idl

namespace Go.Idl

set_option maxHeartbeats 8000000

set_option pp.deepTerms false

set_option maxRecDepth 60000

open Go Go.Proofs.Tryz

/-! (*cardcase/pairs.Pairs).Copy -/

/-! cardcase/cardcaselaw20.few -/

/-! cardcase/cardcaselaw20.somebody -/

noncomputable def F31  : Option ((List (List (List UInt8)))) :=
 some ([[[65, 110, 110]], [], [], [], [], [], [], []])

theorem F31_ok {H : IHeap} {K : IEnd → IHeap → Prop}  {r : (List (List (List UInt8)))} (h : F31  = some r) (hK : K (.ret (.ag (r.map fun x => .sl 1 (x.map fun x => [.v (str x)])))) H) : ICalls prog 31 [] H K := by
 refine ICalls_iwp (N := 6) func31 (by kernel_rfl) rfl (by kernel_rfl) (by kernel_rfl) fun cb hcb hw hbd hnb => ?_
 clear hbd hnb
 subst hcb
 unfold F31 at h
 refine wG ?_
 refine IWp_seqF fun cb hc2 => ?_
 refine v0 ?_
 simp -implicitDefEqProofs (disch := omega) [go_sem, bdP]
 subst hc2
 refine wG ?_
 refine wG ?_
 refine vO ?_
 obtain rfl := Option.some.inj h
 refine sG ?_
 refine retG_fzE (J := H) (r' := _) (Ext.endH (by exact extA (Ext.refl hw))) eA (.wk _ (.ag ([.sl 1 (([[65, 110, 110]]).map fun x => [.v (str x)]), .sl 1 ((([] : List (List UInt8))).map fun x => [.v (str x)]), .sl 1 ((([] : List (List UInt8))).map fun x => [.v (str x)]), .sl 1 ((([] : List (List UInt8))).map fun x => [.v (str x)]), .sl 1 ((([] : List (List UInt8))).map fun x => [.v (str x)]), .sl 1 ((([] : List (List UInt8))).map fun x => [.v (str x)]), .sl 1 ((([] : List (List UInt8))).map fun x => [.v (str x)]), .sl 1 ((([] : List (List UInt8))).map fun x => [.v (str x)])])) (by repeat (first | exact WkL.nil | refine WkL.cons ?_ ?_ | exact Wk.refl _ | exact Wk.nil _ | refine Wk.agL ?_)) (by exact nbA)) hK

/-! cardcase/cardcaselaw20.known -/

noncomputable def F11  : Option Bool :=
 (F12 ).bind fun (x3 : (List (List UInt8 × S39)) × (List (List UInt8 × (List UInt8))) × (Option S33)) => (F31 ).bind fun (x5 : (List (List (List UInt8)))) => gd (x5.length = 8) ((F29 x3.1 x3.2.1 x3.2.2 (⟨[47, 98, 111, 111, 107, 47, 97], [117, 49], x5⟩ : S39)).bind fun (x7 : Int × (List (List UInt8 × S39)) × (List (List UInt8 × (List UInt8)))) => (F31 ).bind fun (x9 : (List (List (List UInt8)))) => gd (x9.length = 8) ((F29 x7.2.1 x7.2.2 x3.2.2 (⟨[47, 98, 111, 111, 107, 47, 98], [117, 49], x9⟩ : S39)).bind fun (x11 : Int × (List (List UInt8 × S39)) × (List (List UInt8 × (List UInt8)))) => (F18 x11.2.1 x11.2.2 x3.2.2 ([117, 49])).bind fun (x13 : S39 × Bool) => gd (x13.1.fShadow.length = 8) ((F33 x11.2.1 x11.2.2 x3.2.2).bind fun (x16 : (List S78)) => if x7.1 = 0 then (if x11.1 = 300 then (if x13.2 = true then (if x13.1.fHref = ([47, 98, 111, 111, 107, 47, 97]) then (if (x16.length : Int) = 1 then (gd (0 < x16.length) (if ((x16.getD 0 S78.zero).fKey) = ([112, 47, 98, 111, 111, 107, 47, 97]) then (some (decide (((x16.getD 0 S78.zero).fValue) = ([117, 49, 10, 102, 117, 108, 108, 32, 49, 10, 51, 32, 65, 110, 110, 10])))) else (some false))) else (some false)) else (some false)) else (some false)) else (some false)) else (some false))))

theorem F11_ok {H : IHeap} {K : IEnd → IHeap → Prop}  (hV : TOK prog H) {r : Bool} (h : F11  = some r) (hK : K (.ret (.v (.bool r))) H) : ICalls prog 11 [] H K := by
 refine ICalls_iwp (N := 56) func11 (by kernel_rfl) rfl (by kernel_rfl) (by kernel_rfl) fun cb hcb hw hbd hnb => ?_
 clear hbd hnb
 subst hcb
 unfold F11 at h
 refine wG ?_
 refine IWp_seqF fun cb hc2 => ?_
 refine vG ?_
 obtain ⟨x3, hx3, h⟩ := bind_some' h
 refine F12_ok  hx3 ?_
 refine sG ?_
 subst hc2
 refine IWp_seqF fun cb hc4 => ?_
 refine vG ?_
 obtain ⟨x5, hx5, h⟩ := bind_some' h
 refine F31_ok  hx5 ?_
 obtain ⟨g6, h⟩ := gd_some.1 h
 simp -implicitDefEqProofs (disch := omega) [go_sem, bdP, g6]
 obtain ⟨x7, hx7, h⟩ := bind_some' h
 refine ICalls.wkL (args' := [.p H.next 0, .ag (.v (str ((⟨[47, 98, 111, 111, 107, 47, 97], [117, 49], x5⟩ : S39).fHref)) :: .v (str ((⟨[47, 98, 111, 111, 107, 47, 97], [117, 49], x5⟩ : S39).fUuid)) :: (((⟨[47, 98, 111, 111, 107, 47, 97], [117, 49], x5⟩ : S39).fShadow).map fun x => .sl 1 (x.map fun x => [.v (str x)])))]) (by repeat (first | exact WkL.nil | refine WkL.cons ?_ ?_ | exact Wk.refl _)) (F29_ok x3.1 x3.2.1 x3.2.2 (⟨[47, 98, 111, 111, 107, 47, 97], [117, 49], x5⟩ : S39) H.next (H.next + 1) (H.next + 2) eA eA eA (by omega) hx7 ?_)
 refine sG ?_
 subst hc4
 refine IWp_seqF fun cb hc8 => ?_
 refine vG ?_
 obtain ⟨x9, hx9, h⟩ := bind_some' h
 refine F31_ok  hx9 ?_
 obtain ⟨g10, h⟩ := gd_some.1 h
 simp -implicitDefEqProofs (disch := omega) [go_sem, bdP, g10]
 obtain ⟨x11, hx11, h⟩ := bind_some' h
 refine ICalls.wkL (args' := [.p H.next 0, .ag (.v (str ((⟨[47, 98, 111, 111, 107, 47, 98], [117, 49], x9⟩ : S39).fHref)) :: .v (str ((⟨[47, 98, 111, 111, 107, 47, 98], [117, 49], x9⟩ : S39).fUuid)) :: (((⟨[47, 98, 111, 111, 107, 47, 98], [117, 49], x9⟩ : S39).fShadow).map fun x => .sl 1 (x.map fun x => [.v (str x)])))]) (by repeat (first | exact WkL.nil | refine WkL.cons ?_ ?_ | exact Wk.refl _)) (F29_ok x7.2.1 x7.2.2 x3.2.2 (⟨[47, 98, 111, 111, 107, 47, 98], [117, 49], x9⟩ : S39) H.next (H.next + 1) (H.next + 2) eA eA eA (by omega) hx11 ?_)
 refine sG ?_
 subst hc8
 refine IWp_seqF fun cb hc12 => ?_
 refine vG ?_
 obtain ⟨x13, hx13, h⟩ := bind_some' h
 refine F18_ok x11.2.1 x11.2.2 x3.2.2 ([117, 49]) H.next (H.next + 1) (H.next + 2) eA eA eA hx13 ?_
 obtain ⟨g14, h⟩ := gd_some.1 h
 refine sF g14 ?_
 subst hc12
 refine IWp_seqF fun cb hc15 => ?_
 refine vG ?_
 obtain ⟨x16, hx16, h⟩ := bind_some' h
 refine F33_ok x11.2.1 x11.2.2 x3.2.2 H.next (H.next + 1) (H.next + 2) eA eA eA (by exact hV.of rfl) hx16 ?_
 refine sG ?_
 subst hc15
 refine IWp_seqF fun cb hc17 => ?_
 refine vG ?_
 refine splitG_f h rfl ?_ ?_
 ·intro c24 h
  refine sG ?_
  refine splitG_f h rfl ?_ ?_
  ·intro c23 h
   refine sG ?_
   refine splitG_f h eA ?_ ?_
   ·intro c22 h
    refine sF g14 ?_
    refine splitG_f h rfl ?_ ?_
    ·intro c21 h
     refine sG ?_
     refine splitG_f h rfl ?_ ?_
     ·intro c20 h
      obtain ⟨g18, h⟩ := gd_some.1 h
      refine sG ?_
      refine splitG_f h eA ?_ ?_
      ·intro c19 h
       simp (disch := omega) at c19
       refine sG ?_
       subst hc17
       refine vO ?_
       obtain rfl := Option.some.inj h
       refine sG ?_
       exact retA (.refl hw) hK
      intro c19 h
      simp (disch := omega) at c19
      refine sG ?_
      subst hc17
      refine vO ?_
      obtain rfl := Option.some.inj h
      refine sG ?_
      exact retA (.refl hw) hK
     intro c20 h
     refine sG ?_
     subst hc17
     refine vO ?_
     obtain rfl := Option.some.inj h
     refine sG ?_
     exact retA (.refl hw) hK
    intro c21 h
    refine sG ?_
    subst hc17
    refine vO ?_
    obtain rfl := Option.some.inj h
    refine sG ?_
    exact retA (.refl hw) hK
   intro c22 h
   simp (disch := omega) at c22
   refine sG ?_
   subst hc17
   refine vO ?_
   obtain rfl := Option.some.inj h
   refine sG ?_
   exact retA (.refl hw) hK
  intro c23 h
  refine sG ?_
  subst hc17
  refine vO ?_
  obtain rfl := Option.some.inj h
  refine sG ?_
  exact retA (.refl hw) hK
 intro c24 h
 refine sG ?_
 subst hc17
 refine vO ?_
 obtain rfl := Option.some.inj h
 refine sG ?_
 exact retA (.refl hw) hK

end Go.Idl

namespace Go.Idl

set_option maxHeartbeats 8000000

set_option pp.deepTerms false

set_option maxRecDepth 60000

open Go Go.Proofs.Tryz

/-! cardcase/cardcaseref13.Plain -/

/-! cardcase/cardcaseref13.Href -/

/-! cardcase/cardcaseref20.Uuid -/

/-! cardcase/cardcaseref16.most -/

/-! cardcase/cardcaseref16.Values -/

/-! cardcase/cardcaseref16.Right -/

/-! cardcase/cardcaseref20.Card -/

end Go.Idl

namespace Go.Idl

set_option maxHeartbeats 8000000

set_option pp.deepTerms false

set_option maxRecDepth 60000

open Go Go.Proofs.Tryz

/-! cardcase/cardcaseref20.Entry -/

/-! cardcase/cardcaseref20.Add -/

/-! cardcase/cardcaseref20.Set -/

/-! cardcase/cardcaseref20.Drop -/

/-! cardcase/cardcaseref06.letter -/

/-! cardcase/cardcaseref06.Name -/

/-! cardcase/cardcaseref06.Small -/

/-! cardcase/cardcaseref06.Right -/

/-! cardcase/cardcaseref20.RightPromise -/

end Go.Idl

namespace Go.Idl

set_option maxHeartbeats 8000000

set_option pp.deepTerms false

set_option maxRecDepth 60000

open Go Go.Proofs.Tryz

/-! cardcase/cardcaselaw20.does -/

/-! cardcase/cardcaseref06.Same -/

/-! cardcase/cardcaseref20.SamePromise -/

/-! cardcase/cardcaseref20.SameOne -/

/-! cardcase/cardcaselaw20.same -/

end Go.Idl

namespace Go.Idl

open Go

theorem wrap_nat {i : Nat} (h : i < 9223372036854775807) : IntKind.i64.wrap ((i : Int) + 1) = ((i + 1 : Nat) : Int) := by
  rw [wrap_i64 (by omega) (by omega)]; rfl

theorem loopO_for {ρ : Type} {step : Int → Option (Int ⊕ ρ)} {Post : ρ → Prop} (n : Nat) (Inv : Nat → Prop) (h0 : Inv 0)
    (hs : ∀ i : Nat, i < n → Inv i → (step i = some (.inl ((i + 1 : Nat) : Int)) ∧ Inv (i + 1)) ∨ ∃ r, step i = some (.inr r) ∧ Post r)
    (hf : Inv n → ∃ r, step n = some (.inr r) ∧ Post r) : ∃ r, loopO step 0 = some r ∧ Post r := by
  refine loopO_inv (fun s : Int => ∃ i : Nat, i ≤ n ∧ s = (i : Int) ∧ Inv i) (fun s : Int => n - s.toNat) ?_ ⟨0, Nat.zero_le _, rfl, h0⟩
  rintro s ⟨i, hi, rfl, hI⟩
  by_cases h : i < n
  · rcases hs i h hI with ⟨h1, h2⟩ | h1
    · exact .inl ⟨_, h1, ⟨i + 1, h, rfl, h2⟩, by simp; omega⟩
    · exact .inr h1
  · have e : i = n := by omega
    subst e
    exact .inr (hf hI)

theorem loopO_for3 {σ ρ : Type} {step : Int × σ → Option ((Int × σ) ⊕ ρ)} {Post : ρ → Prop} (n : Nat) (Inv : Nat → σ → Prop) {a : σ} (h0 : Inv 0 a)
    (hs : ∀ (i : Nat) (a : σ), i < n → Inv i a → (∃ a', step ((i : Int), a) = some (.inl (((i + 1 : Nat) : Int), a')) ∧ Inv (i + 1) a') ∨ ∃ r, step ((i : Int), a) = some (.inr r) ∧ Post r)
    (hf : ∀ a, Inv n a → ∃ r, step ((n : Int), a) = some (.inr r) ∧ Post r) : ∃ r, loopO step (0, a) = some r ∧ Post r := by
  refine loopO_inv (fun s : Int × σ => ∃ i : Nat, i ≤ n ∧ s.1 = (i : Int) ∧ Inv i s.2) (fun s : Int × σ => n - s.1.toNat) ?_ ⟨0, Nat.zero_le _, rfl, h0⟩
  rintro ⟨s, a⟩ ⟨i, hi, hs2, hI⟩
  simp only at hs2 hI
  subst hs2
  by_cases h : i < n
  · rcases hs i a h hI with ⟨a', h1, h2⟩ | h1
    · exact .inl ⟨_, h1, ⟨i + 1, h, rfl, h2⟩, by simp; omega⟩
    · exact .inr h1
  · have e : i = n := by omega
    subst e
    exact .inr (hf a hI)

theorem getD_some {α : Type} {l : List α} {i : Nat} (h : i < l.length) (d : α) : l.getD i d = l[i] := by simp [h]

end Go.Idl

namespace Go.Idl

open Go

def findI {α ρ : Type} (f : Nat → α → Option ρ) (d : ρ) : Nat → List α → ρ
  | _, [] => d
  | i, x :: l => match f i x with
    | none => findI f d (i + 1) l
    | some r => r

theorem findI_cons {α ρ : Type} {f : Nat → α → Option ρ} {d : ρ} {i : Nat} {x : α} {l : List α} : findI f d i (x :: l) = match f i x with
    | none => findI f d (i + 1) l
    | some r => r := rfl

theorem loopO_find {α ρ : Type} (l : List α) {step : Int → Option (Int ⊕ ρ)} (f : Nat → α → Option ρ) (d : ρ) (hl : l.length ≤ 1000000000)
    (hs : ∀ (i : Nat) (h : i < l.length), step (i : Int) = some (match f i l[i] with | none => .inl (IntKind.i64.wrap ((i : Int) + 1)) | some r => .inr r))
    (hf : step (l.length : Int) = some (.inr d)) : loopO step 0 = some (findI f d 0 l) := by
  obtain ⟨r, h1, h2⟩ := loopO_for (step := step) (Post := fun r => r = findI f d 0 l) l.length (fun i => findI f d i (l.drop i) = findI f d 0 l) (by simp)
    (fun i hi hI => by
      rw [hs i hi]
      rw [List.drop_eq_getElem_cons hi] at hI
      rw [findI_cons] at hI
      cases hfi : f i l[i] with
      | none =>
        rw [hfi] at hI
        rw [wrap_nat (by omega)]
        exact .inl ⟨rfl, hI⟩
      | some r =>
        rw [hfi] at hI
        exact .inr ⟨r, rfl, hI⟩)
    (fun hI => ⟨d, hf, by rw [List.drop_length] at hI; exact hI⟩)
  rw [h1, h2]

theorem findI_all {α ρ : Type} (p : α → Bool) (bad good : ρ) : ∀ (l : List α) (i : Nat), findI (fun _ x => if p x = true then none else some bad) good i l = if l.all p = true then good else bad
  | [], _ => by simp [findI]
  | x :: l, i => by
    unfold findI
    by_cases h : p x = true
    · rw [if_pos h]
      simp only [findI_all p bad good l (i + 1), List.all_cons, h, Bool.true_and]
    · rw [if_neg h]
      have : (List.all (x :: l) p) = false := by simp [List.all_cons, Bool.eq_false_iff.2 h]
      simp [this]

end Go.Idl

namespace Go.Idl

open Go

end Go.Idl

namespace Go.Idl

open Go

theorem loopO_all {α : Type} (l : List α) (p : α → Bool) {step : Int → Option (Int ⊕ (Unit ⊕ Bool))} (hl : l.length ≤ 1000000000)
    (hs : ∀ (i : Nat) (h : i < l.length), step (i : Int) = some (if p l[i] = true then .inl (IntKind.i64.wrap ((i : Int) + 1)) else .inr (.inr false)))
    (hf : step (l.length : Int) = some (.inr (.inl ()))) : loopO step 0 = some (if l.all p = true then .inl () else .inr false) := by
  rw [loopO_find l (fun _ x => if p x = true then none else some (.inr false)) (.inl ()) hl (fun i h => by
    rw [hs i h]
    by_cases hp : p l[i] = true
    · simp [hp]
    · simp [hp]) hf, findI_all]

theorem findI_congr {α ρ : Type} {f g : Nat → α → Option ρ} {d : ρ} : ∀ {l : List α} {k : Nat}, (∀ i x, k ≤ i → f i x = g i x) → findI f d k l = findI g d k l
  | [], _, _ => rfl
  | x :: l, k, h => by
    rw [findI_cons, findI_cons, h k x (Nat.le_refl _)]
    cases g k x with
    | none => exact findI_congr fun i x hi => h i x (by omega)
    | some r => rfl

theorem findI_idx {α : Type} (p : α → Bool) : ∀ (l : List α) (k : Nat), ∃ j : Int, 0 ≤ j ∧ findI (fun i x => if p x = true then none else some (.inr (i : Int))) (.inl ()) k l = (if l.all p = true then (.inl () : Unit ⊕ Int) else .inr j)
  | [], k => ⟨0, by omega, by simp [findI]⟩
  | x :: l, k => by
    rw [findI_cons]
    by_cases h : p x = true
    · obtain ⟨j, h1, h2⟩ := findI_idx p l (k + 1)
      exact ⟨j, h1, by simp only [h, if_true]; rw [h2]; simp [h]⟩
    · exact ⟨k, by omega, by simp [h]⟩

/-! ### Uuids -/

def uuidB (x : UInt8) : Bool := decide (33 ≤ x.toNat ∧ x.toNat ≤ 126)

def uuidS (u : Str) : Bool := u.all uuidB && decide (1 ≤ u.length ∧ u.length ≤ 64)

theorem F53_eq (u : Str) (h : u.length ≤ 1000000) : F53 u = some (uuidS u) := by
  unfold F53
  rw [gd_pos (by omega), loopO_all u uuidB (by omega)
    (fun i hi => by
      simp only [F53_b5]
      rw [if_pos (by omega), gd_pos (by omega), Int.toNat_natCast, getD_some hi]
      simp only [uuidB, decide_eq_true_eq]
      by_cases a : u[i].toNat < 33
      · rw [if_pos (by omega), if_neg (by omega)]
      · rw [if_neg (by omega)]
        by_cases b : 126 < u[i].toNat
        · rw [if_pos (by omega), if_neg (by omega)]
        · rw [if_neg (by omega), if_pos (by omega)])
    (by simp only [F53_b5]; rw [if_neg (by omega)])]
  unfold uuidS
  by_cases h1 : u.all uuidB = true
  · simp only [h1, if_true, Option.bind_some, Sum.elim_inl, F53_k5, Bool.true_and]
    by_cases h2 : (1 : Int) ≤ u.length
    · rw [if_pos h2]; congr 1; rw [decide_eq_decide]; omega
    · rw [if_neg h2, decide_eq_false (by omega)]
  · rw [if_neg h1, Bool.eq_false_iff.2 h1]; simp

/-! ### Hrefs -/

def plainB (x : UInt8) : Bool := decide ((97 ≤ x.toNat ∧ x.toNat ≤ 122) ∨ (65 ≤ x.toNat ∧ x.toNat ≤ 90) ∨ (48 ≤ x.toNat ∧ x.toNat ≤ 57) ∨ x.toNat = 45 ∨ x.toNat = 46 ∨ x.toNat = 95)

set_option maxHeartbeats 4000000 in
theorem F122_eq (x : UInt8) : F122 (x.toNat : Int) = some (plainB x) := by
  unfold F122 plainB
  by_cases h : (97 ≤ x.toNat ∧ x.toNat ≤ 122) ∨ (65 ≤ x.toNat ∧ x.toNat ≤ 90) ∨ (48 ≤ x.toNat ∧ x.toNat ≤ 57) ∨ x.toNat = 45 ∨ x.toNat = 46 ∨ x.toNat = 95
  · rw [decide_eq_true h]
    repeat' split
    all_goals first | rfl | (exfalso; omega) | (congr 1; rw [decide_eq_true_eq]; omega)
  · rw [decide_eq_false h]
    repeat' split
    all_goals first | rfl | (exfalso; omega) | (congr 1; rw [decide_eq_false_iff_not]; omega)

def markS (s : Str) : Bool := s.all plainB && decide (1 ≤ s.length ∧ s.length ≤ 64)

theorem F83_eq (s : Str) (h : s.length ≤ 1000000) : F83 s = some (markS s) := by
  have e : F123 s = some (s.all plainB) := by
    unfold F123
    rw [gd_pos (by omega), loopO_all s plainB (by omega)
      (fun i hi => by
        simp only [F123_b5]
        rw [if_pos (by omega), gd_pos (by omega), Int.toNat_natCast, getD_some hi, F122_eq]
        simp only [Option.bind_some]
        cases plainB s[i] <;> simp)
      (by simp only [F123_b5]; rw [if_neg (by omega)])]
    by_cases h1 : s.all plainB = true
    · simp [h1, F123_k5]
    · rw [if_neg h1, Bool.eq_false_iff.2 h1]; simp
  unfold F83 markS
  rw [e]
  by_cases h2 : (1 : Int) ≤ s.length
  · rw [if_pos h2]
    by_cases h3 : (s.length : Int) ≤ 64
    · rw [if_pos h3, decide_eq_true (by omega)]; simp
    · rw [if_neg h3, decide_eq_false (by omega)]; simp
  · rw [if_neg h2, decide_eq_false (by omega)]; simp

def rootL : Str := [47, 98, 111, 111, 107, 47]

def hrefS (s : Str) : Bool := decide (s.take 6 = rootL) && markS (s.drop 6)

theorem F55_eq (s : Str) (h : s.length ≤ 1000000) : F55 s = some (hrefS s) := by
  have e : F64 s [47, 98, 111, 111, 107, 47] = some (if s.take 6 = rootL then (s.drop 6, true) else (s, false)) := by
    unfold F64 F100 F138
    by_cases h1 : ((([47, 98, 111, 111, 107, 47] : Str).length : Int)) ≤ s.length
    · have h6 : (6 : Int) ≤ s.length := by simpa using h1
      rw [if_pos h1, gd_pos (by simp), gd_pos h1]
      simp only [Option.bind_some, List.length_cons, List.length_nil]
      by_cases h2 : s.take 6 = rootL
      · have h3 : List.take (((0 + 1 + 1 + 1 + 1 + 1 + 1 : Nat) : Int)).toNat s = [47, 98, 111, 111, 107, 47] := h2
        rw [decide_eq_true h3, if_neg (by simp), gd_pos (by omega), gd_pos (by simpa using h6), if_pos h2]
        rfl
      · have h3 : ¬ List.take (((0 + 1 + 1 + 1 + 1 + 1 + 1 : Nat) : Int)).toNat s = [47, 98, 111, 111, 107, 47] := h2
        rw [decide_eq_false h3, if_pos (by simp), if_neg h2]
        rfl
    · rw [if_neg h1]
      have h2 : ¬ s.take 6 = rootL := by
        intro e
        have := congrArg List.length e
        simp [rootL] at this
        simp at h1
        omega
      rw [if_neg h2]
      simp
  unfold F55
  rw [e]
  unfold hrefS
  by_cases h2 : s.take 6 = rootL
  · rw [if_pos h2, decide_eq_true h2]
    simp only [Option.bind_some, if_true]
    rw [F83_eq _ (by rw [List.length_drop]; omega)]
    simp
  · rw [if_neg h2, decide_eq_false h2]
    simp

/-! ### Names of entries -/

def letB (x : UInt8) : Bool := decide ((97 ≤ x.toNat ∧ x.toNat ≤ 122) ∨ (65 ≤ x.toNat ∧ x.toNat ≤ 90))

def worB (x : UInt8) : Bool := letB x || decide ((48 ≤ x.toNat ∧ x.toNat ≤ 57) ∨ x.toNat = 45)

def nameS (s : Str) : Bool := decide (1 ≤ s.length ∧ s.length ≤ 64) && (match s with | [] => false | c :: _ => letB c) && s.all worB

theorem F119_eq (x : UInt8) (a b : Nat) : F119 (x.toNat : Int) (a : Int) (b : Int) = some (decide (a ≤ x.toNat ∧ x.toNat ≤ b)) := by
  unfold F119
  by_cases h : (a : Int) ≤ x.toNat
  · rw [if_pos h]; congr 1; rw [decide_eq_decide]; omega
  · rw [if_neg h, decide_eq_false (by omega)]

theorem F80_eq (s : Str) (h : s.length ≤ 1000000) : F80 s = some (nameS s) := by
  unfold F80
  rw [gd_pos (by omega), loopO_find s (fun i x => if (letB x || (decide (¬ i = 0) && worB x)) = true then none else some (.inr false)) (.inl ()) (by omega)
    (fun i hi => by
      simp only [F80_b5]
      rw [if_pos (by omega), gd_pos (by omega), Int.toNat_natCast, getD_some hi]
      generalize s[i] = x
      have e1 : F119 (x.toNat : Int) 97 122 = _ := F119_eq x 97 122
      have e2 : F119 (x.toNat : Int) 65 90 = _ := F119_eq x 65 90
      have e3 : F119 (x.toNat : Int) 48 57 = _ := F119_eq x 48 57
      rw [e1, e2, e3]
      simp only [Option.bind_some, decide_eq_true_eq]
      by_cases h1 : 97 ≤ x.toNat ∧ x.toNat ≤ 122
      · have : letB x = true := by simp only [letB, decide_eq_true_eq]; exact .inl h1
        simp [h1, this]
      · by_cases h2 : 65 ≤ x.toNat ∧ x.toNat ≤ 90
        · have : letB x = true := by simp only [letB, decide_eq_true_eq]; exact .inr h2
          simp [h1, h2, this]
        · have hl : letB x = false := by simp only [letB, decide_eq_false_iff_not]; omega
          rw [if_pos h1, if_pos h2]
          by_cases h0 : i = 0
          · subst h0
            simp [hl]
          · have h0' : ¬ ((i : Int) = 0) := by omega
            rw [if_neg h0']
            by_cases h3 : 48 ≤ x.toNat ∧ x.toNat ≤ 57
            · have : worB x = true := by simp only [worB, Bool.or_eq_true, decide_eq_true_eq]; exact .inr (.inl h3)
              simp [h3, this, h0]
            · rw [if_pos h3]
              by_cases h4 : (x.toNat : Int) = 45
              · have : worB x = true := by simp only [worB, Bool.or_eq_true, decide_eq_true_eq]; exact .inr (.inr (by omega))
                simp [h4, this, h0]
              · have : worB x = false := by simp only [worB, Bool.or_eq_false_iff, hl, decide_eq_false_iff_not, true_and]; omega
                rw [if_pos h4]
                simp [this, hl])
    (by simp only [F80_b5]; rw [if_neg (by omega)])]
  unfold nameS
  cases s with
  | nil => simp [findI, F80_k5]
  | cons c t =>
    rw [findI_cons]
    by_cases hc : letB c = true
    · have hw : worB c = true := by simp [worB, hc]
      simp only [hc, Bool.true_or, if_true]
      rw [findI_congr (g := fun _ x => if worB x = true then none else some (.inr false)) (fun i x hi => by
        have : ¬ i = 0 := by omega
        by_cases hx : letB x = true
        · have : worB x = true := by simp [worB, hx]
          simp [hx, this]
        · simp [this, hx]), findI_all]
      by_cases ha : t.all worB = true
      · simp only [ha, if_true, Option.bind_some, Sum.elim_inl, F80_k5, List.all_cons, hw, Bool.and_true]
        by_cases h2 : (1 : Int) ≤ (c :: t).length
        · rw [if_pos h2]; simp; omega
        · simp at h2; omega
      · rw [if_neg ha]
        simp [List.all_cons, Bool.eq_false_iff.2 ha]
    · have hc' : letB c = false := Bool.eq_false_iff.2 hc
      simp [hc']

end Go.Idl

namespace Go.Idl

open Go

/-! ### The order of texts -/

def lt8 (a b : Str) : Prop := Op.bytesLess a b = true

instance (a b : Str) : Decidable (lt8 a b) := inferInstanceAs (Decidable (_ = true))

theorem lt8_iff (a b : Str) : lt8 a b ↔ a < b := by rw [lt8, Go.Proofs.bytesLess_eq, decide_eq_true_eq]

theorem lt8_irrefl (a : Str) : ¬ lt8 a a := by rw [lt8_iff]; exact List.lt_irrefl a

theorem lt8_trans {a b c : Str} (h : lt8 a b) (k : lt8 b c) : lt8 a c := by rw [lt8_iff] at *; exact List.lt_trans h k

theorem lt8_tri {a b : Str} (h : ¬ lt8 a b) (hne : ¬ a = b) : lt8 b a := by
  rw [lt8_iff] at *
  have h1 : b ≤ a := List.not_lt.1 h
  rcases List.le_iff_lt_or_eq.1 h1 with h2 | h2
  · exact h2
  · exact absurd h2.symm hne

abbrev Rise (l : List Str) : Prop := l.Pairwise lt8

theorem rise_uniq : ∀ {l m : List Str}, Rise l → Rise m → (∀ x, x ∈ l ↔ x ∈ m) → l = m
  | [], [], _, _, _ => rfl
  | [], y :: m, _, _, h => by have := (h y).2 (by simp); simp at this
  | x :: l, [], _, _, h => by have := (h x).1 (by simp); simp at this
  | x :: l, y :: m, hl, hm, h => by
    rw [Rise, List.pairwise_cons] at hl hm
    have hxy : x = y := by
      have h1 := (h x).1 (by simp)
      have h2 := (h y).2 (by simp)
      rcases List.mem_cons.1 h1 with h1 | h1
      · exact h1
      · rcases List.mem_cons.1 h2 with h2 | h2
        · exact h2.symm
        · exact absurd (lt8_trans (hm.1 x h1) (hl.1 y h2)) (lt8_irrefl y)
    subst hxy
    rw [rise_uniq hl.2 hm.2 fun z => ?_]
    constructor
    · intro hz
      have := (h z).1 (by simp [hz])
      rcases List.mem_cons.1 this with e | e
      · exact absurd (e ▸ hl.1 z hz) (lt8_irrefl _)
      · exact e
    · intro hz
      have := (h z).2 (by simp [hz])
      rcases List.mem_cons.1 this with e | e
      · exact absurd (e ▸ hm.1 z hz) (lt8_irrefl _)
      · exact e

theorem rise_nodup {l : List Str} (h : Rise l) : l.Nodup := by
  refine h.imp fun {a b} hab e => ?_
  subst e
  exact lt8_irrefl _ hab

theorem sortS_mem (l : List Str) (x : Str) : x ∈ sortS l ↔ x ∈ l := by simp [sortS]

theorem sortS_rise {l : List Str} (h : l.Nodup) : Rise (sortS l) := by
  have hs : (sortS l).Pairwise (fun a b => a ≤ b) := by
    have := List.pairwise_mergeSort (le := fun (x y : Str) => decide (x ≤ y)) (fun a b c h1 h2 => by simp only [decide_eq_true_eq] at *; exact List.le_trans h1 h2) (fun a b => by simp only [Bool.or_eq_true, decide_eq_true_eq]; exact List.le_total a b) l
    exact this.imp fun h => by simpa using h
  have hn : (sortS l).Nodup := (List.mergeSort_perm l _).nodup_iff.2 h
  have hb := List.pairwise_and_iff.2 ⟨hs, hn⟩
  refine hb.imp fun {a b} hab => ?_
  rw [lt8_iff]
  rcases List.le_iff_lt_or_eq.1 hab.1 with h2 | h2
  · exact h2
  · exact absurd h2 hab.2

/-! ### Tables -/

section

variable {κ β : Type} [DecidableEq κ]

theorem mget_set (m : List (κ × β)) (k : κ) (v : β) (n : κ) : mget (mset m k v) n = if n = k then some v else mget m n := by
  induction m with
  | nil =>
    simp only [mset, mget]
    by_cases h : k = n
    · simp [h]
    · rw [if_neg h, if_neg (fun e => h e.symm)]
  | cons p t ih =>
    simp only [mset]
    by_cases h : p.1 = k
    · rw [if_pos h]
      simp only [mget]
      by_cases hn : k = n
      · simp [hn]
      · rw [if_neg hn, if_neg (fun e => hn e.symm), h, if_neg hn]
    · rw [if_neg h]
      simp only [mget]
      by_cases hn : p.1 = n
      · rw [if_pos hn, if_pos hn, if_neg (fun e => h (hn.trans e))]
      · rw [if_neg hn, if_neg hn]
        exact ih

theorem mget_keys {m : List (κ × β)} {n : κ} : n ∈ m.map (·.1) ↔ (mget m n).isSome = true := by
  induction m with
  | nil => simp [mget]
  | cons p t ih =>
    simp only [List.map_cons, List.mem_cons, mget] at ih ⊢
    by_cases h : p.1 = n
    · simp [h]
    · rw [if_neg h, ← ih]
      constructor
      · rintro (e | e)
        · exact absurd e.symm h
        · exact e
      · exact .inr

theorem keys_set {m : List (κ × β)} {k : κ} {v : β} {n : κ} : n ∈ (mset m k v).map (·.1) ↔ n = k ∨ n ∈ m.map (·.1) := by
  rw [mget_keys, mget_set, mget_keys]
  by_cases h : n = k
  · simp [h]
  · simp [h]

theorem nodup_set {m : List (κ × β)} (h : (m.map (·.1)).Nodup) (k : κ) (v : β) : ((mset m k v).map (·.1)).Nodup := by
  induction m with
  | nil => simp [mset]
  | cons p t ih =>
    simp only [List.map_cons, List.nodup_cons] at h
    simp only [mset]
    by_cases hp : p.1 = k
    · rw [if_pos hp]
      simp only [List.map_cons, List.nodup_cons]
      exact ⟨hp ▸ h.1, h.2⟩
    · rw [if_neg hp]
      simp only [List.map_cons, List.nodup_cons]
      refine ⟨fun hm => ?_, ih h.2⟩
      rcases keys_set.1 hm with e | e
      · exact hp e
      · exact h.1 e

theorem mdel_sub {m : List (κ × β)} {k : κ} : (mdel m k).Sublist m := by
  induction m with
  | nil => exact .slnil
  | cons p t ih =>
    simp only [mdel]
    split
    · exact List.sublist_cons_self _ _
    · exact ih.cons_cons _

theorem nodup_del {m : List (κ × β)} (h : (m.map (·.1)).Nodup) (k : κ) : ((mdel m k).map (·.1)).Nodup := h.sublist (mdel_sub.map _)

theorem mget_del {m : List (κ × β)} (hd : (m.map (·.1)).Nodup) (k n : κ) : mget (mdel m k) n = if n = k then none else mget m n := by
  induction m with
  | nil => simp [mdel, mget]
  | cons p t ih =>
    simp only [List.map_cons, List.nodup_cons] at hd
    simp only [mdel]
    by_cases h : p.1 = k
    · rw [if_pos h]
      by_cases hn : n = k
      · subst hn
        rw [if_pos rfl]
        have := hd.1
        rw [h, mget_keys] at this
        simpa using this
      · rw [if_neg hn]
        simp only [mget]
        rw [if_neg (fun e => hn (e.symm.trans h))]
    · rw [if_neg h]
      simp only [mget]
      by_cases hn : p.1 = n
      · rw [if_pos hn, if_pos hn, if_neg (fun e => h (hn.trans e))]
      · rw [if_neg hn, if_neg hn]
        exact ih hd.2

end

/-! ### A list by rising Hrefs, and the tables -/

section

variable {α : Type} {hf uf : α → Str}

structure Tabs (hf uf : α → Str) (m : List (Str × α)) (n : List (Str × Str)) (L : List α) : Prop where
  rise : L.Pairwise fun a b => lt8 (hf a) (hf b)
  mn : (m.map (·.1)).Nodup
  nn : (n.map (·.1)).Nodup
  mg : ∀ h x, mget m h = some x ↔ x ∈ L ∧ hf x = h
  ng : ∀ u h, mget n u = some h ↔ ∃ x, x ∈ L ∧ uf x = u ∧ hf x = h
  uu : L.Pairwise fun a b => ¬ uf a = uf b

variable {m : List (Str × α)} {n : List (Str × Str)} {L : List α}

theorem Tabs.nil : Tabs hf uf [] [] [] := ⟨by simp, by simp, by simp, by simp [mget], by simp [mget], by simp⟩

theorem Tabs.hrise (t : Tabs hf uf m n L) : Rise (L.map hf) := List.pairwise_map.2 t.rise

theorem Tabs.keys (t : Tabs hf uf m n L) (h : Str) : h ∈ m.map (·.1) ↔ h ∈ L.map hf := by
  rw [mget_keys, Option.isSome_iff_exists, List.mem_map]
  exact ⟨fun ⟨x, hx⟩ => ⟨x, (t.mg h x).1 hx⟩, fun ⟨x, hx⟩ => ⟨x, (t.mg h x).2 hx⟩⟩

theorem Tabs.len (t : Tabs hf uf m n L) : m.length = L.length := by
  have := ((List.perm_ext_iff_of_nodup t.mn (rise_nodup t.hrise)).2 t.keys).length_eq
  simpa using this

theorem Tabs.sort (t : Tabs hf uf m n L) : sortS (m.map (·.1)) = L.map hf :=
  rise_uniq (sortS_rise t.mn) t.hrise fun x => by rw [sortS_mem]; exact t.keys x

theorem Tabs.inj (t : Tabs hf uf m n L) {x y : α} (hx : x ∈ L) (hy : y ∈ L) (e : hf x = hf y) : x = y := by
  have h1 := (t.mg (hf x) x).2 ⟨hx, rfl⟩
  have h2 := (t.mg (hf x) y).2 ⟨hy, e.symm⟩
  rw [h1] at h2
  exact Option.some.inj h2

theorem Tabs.injU (t : Tabs hf uf m n L) {x y : α} (hx : x ∈ L) (hy : y ∈ L) (e : uf x = uf y) : x = y := by
  have h1 := (t.ng (uf x) (hf x)).2 ⟨x, hx, rfl, rfl⟩
  have h2 := (t.ng (uf x) (hf y)).2 ⟨y, hy, e.symm, rfl⟩
  rw [h1] at h2
  exact t.inj hx hy (Option.some.inj h2)

theorem Tabs.get (t : Tabs hf uf m n L) {x : α} (hx : x ∈ L) : mget m (hf x) = some x := (t.mg _ _).2 ⟨hx, rfl⟩

theorem Tabs.getU (t : Tabs hf uf m n L) {x : α} (hx : x ∈ L) : mget n (uf x) = some (hf x) := (t.ng _ _).2 ⟨x, hx, rfl, rfl⟩

theorem Tabs.nothing (t : Tabs hf uf m n L) {h : Str} : mget m h = none ↔ ∀ x ∈ L, ¬ hf x = h := by
  rw [Option.eq_none_iff_forall_ne_some]
  exact ⟨fun q x hx e => q x ((t.mg h x).2 ⟨hx, e⟩), fun q x e => q x ((t.mg h x).1 e).1 ((t.mg h x).1 e).2⟩

theorem Tabs.nothingU (t : Tabs hf uf m n L) {u : Str} : mget n u = none ↔ ∀ x ∈ L, ¬ uf x = u := by
  rw [Option.eq_none_iff_forall_ne_some]
  exact ⟨fun q x hx e => q (hf x) ((t.ng u _).2 ⟨x, hx, e, rfl⟩), fun q h e => by obtain ⟨x, h1, h2, _⟩ := (t.ng u h).1 e; exact q x h1 h2⟩

def cutL (hf : α → Str) (h : Str) : List α → Nat
  | [] => 0
  | y :: l => if lt8 (hf y) h then cutL hf h l + 1 else 0

theorem cutL_le (h : Str) : ∀ l : List α, cutL hf h l ≤ l.length
  | [] => Nat.le_refl _
  | y :: l => by
    have := cutL_le h l
    simp only [cutL, List.length_cons]
    split <;> omega

def insL (hf : α → Str) (x : α) (l : List α) : List α := l.take (cutL hf (hf x) l) ++ x :: l.drop (cutL hf (hf x) l)

theorem insL_mem {x y : α} {l : List α} : y ∈ insL hf x l ↔ y = x ∨ y ∈ l := by
  conv => rhs; rw [← List.take_append_drop (cutL hf (hf x) l) l]
  simp only [insL, List.mem_append, List.mem_cons]
  constructor
  · rintro (h | h | h)
    · exact .inr (.inl h)
    · exact .inl h
    · exact .inr (.inr h)
  · rintro (h | h | h)
    · exact .inr (.inl h)
    · exact .inl h
    · exact .inr (.inr h)

theorem insL_len (x : α) (l : List α) : (insL hf x l).length = l.length + 1 := by
  have := cutL_le (hf := hf) (hf x) l
  simp only [insL, List.length_append, List.length_cons, List.length_take, List.length_drop]
  omega

theorem insL_cons (x y : α) (l : List α) : insL hf x (y :: l) = if lt8 (hf y) (hf x) then y :: insL hf x l else x :: y :: l := by
  unfold insL
  simp only [cutL]
  split
  · simp
  · simp

theorem insL_rise {x : α} : ∀ {l : List α}, (l.Pairwise fun a b => lt8 (hf a) (hf b)) → (∀ y ∈ l, ¬ hf y = hf x) → (insL hf x l).Pairwise fun a b => lt8 (hf a) (hf b)
  | [], _, _ => by simp [insL, cutL]
  | y :: l, h, hn => by
    rw [List.pairwise_cons] at h
    rw [insL_cons]
    split
    · rename_i hy
      rw [List.pairwise_cons]
      refine ⟨fun z hz => ?_, insL_rise h.2 fun z hz => hn z (by simp [hz])⟩
      rcases insL_mem.1 hz with e | e
      · exact e ▸ hy
      · exact h.1 z e
    · rename_i hy
      have hxy := lt8_tri hy (hn y (by simp))
      rw [List.pairwise_cons, List.pairwise_cons]
      refine ⟨fun z hz => ?_, h⟩
      rcases List.mem_cons.1 hz with e | e
      · exact e ▸ hxy
      · exact lt8_trans hxy (h.1 z e)

theorem insL_perm (x : α) (l : List α) : (insL hf x l).Perm (x :: l) := by
  conv => rhs; rw [← List.take_append_drop (cutL hf (hf x) l) l]
  exact List.perm_middle

theorem Tabs.add (t : Tabs hf uf m n L) {x : α} (h1 : ∀ y ∈ L, ¬ hf y = hf x) (h2 : ∀ y ∈ L, ¬ uf y = uf x) : Tabs hf uf (mset m (hf x) x) (mset n (uf x) (hf x)) (insL hf x L) := by
  refine ⟨insL_rise t.rise h1, nodup_set t.mn _ _, nodup_set t.nn _ _, fun h y => ?_, fun u h => ?_, ?_⟩
  · rw [mget_set, insL_mem]
    by_cases e : h = hf x
    · rw [if_pos e]
      constructor
      · rintro q; cases q; exact ⟨.inl rfl, e.symm⟩
      · rintro ⟨q | q, q2⟩
        · rw [q]
        · exact absurd (q2.trans e) (h1 y q)
    · rw [if_neg e, t.mg]
      constructor
      · rintro ⟨q, q2⟩; exact ⟨.inr q, q2⟩
      · rintro ⟨q | q, q2⟩
        · subst q; exact absurd q2.symm e
        · exact ⟨q, q2⟩
  · rw [mget_set]
    by_cases e : u = uf x
    · rw [if_pos e]
      constructor
      · rintro q; cases q; exact ⟨x, insL_mem.2 (.inl rfl), e.symm, rfl⟩
      · rintro ⟨y, q, q2, q3⟩
        rcases insL_mem.1 q with q | q
        · subst q; rw [q3]
        · exact absurd (q2.trans e) (h2 y q)
    · rw [if_neg e, t.ng]
      constructor
      · rintro ⟨y, q, q2⟩; exact ⟨y, insL_mem.2 (.inr q), q2⟩
      · rintro ⟨y, q, q2, q3⟩
        rcases insL_mem.1 q with q | q
        · subst q; exact absurd q2.symm e
        · exact ⟨y, q, q2, q3⟩
  · refine (insL_perm x L).pairwise_iff (fun {a b} h e => h e.symm) |>.2 ?_
    rw [List.pairwise_cons]
    exact ⟨fun y hy e => h2 y hy e.symm, t.uu⟩

theorem Tabs.set (t : Tabs hf uf m n L) {k : Nat} (hk : k < L.length) {x : α} (h1 : hf x = hf L[k]) (h2 : uf x = uf L[k]) : Tabs hf uf (mset m (hf x) x) (mset n (uf x) (hf x)) (L.set k x) := by
  have hm : L.map hf = (L.set k x).map hf := by
    rw [List.map_set, h1]
    apply List.ext_getElem
    · simp
    · intro i q q2
      simp only [List.getElem_map, List.getElem_set]
      split
      · rename_i e; subst e; rfl
      · rfl
  have hu : L.map uf = (L.set k x).map uf := by
    rw [List.map_set, h2]
    apply List.ext_getElem
    · simp
    · intro i q q2
      simp only [List.getElem_map, List.getElem_set]
      split
      · rename_i e; subst e; rfl
      · rfl
  have hmem : ∀ y, y ∈ L.set k x ↔ y = x ∨ (y ∈ L ∧ ¬ hf y = hf x) := by
    intro y
    constructor
    · intro hy
      obtain ⟨i, hi, e⟩ := List.getElem_of_mem hy
      simp only [List.length_set] at hi
      rw [List.getElem_set] at e
      split at e
      · exact .inl e.symm
      · rename_i ne
        subst e
        refine .inr ⟨List.getElem_mem _, fun e => ne ?_⟩
        rw [h1] at e
        have := List.getElem_inj (rise_nodup t.hrise) (i := i) (j := k) (h₀ := by simpa using hi) (h₁ := by simpa using hk)
        simp only [List.getElem_map] at this
        exact (this.1 e).symm
    · rintro (e | ⟨q, q2⟩)
      · subst e
        exact List.mem_set hk y
      · obtain ⟨i, hi, e⟩ := List.getElem_of_mem q
        have hne : ¬ k = i := by
          intro e2
          subst e2
          subst e
          exact q2 h1.symm
        have : (L.set k x)[i]'(by simpa using hi) = y := by rw [List.getElem_set, if_neg hne, e]
        rw [← this]
        exact List.getElem_mem _
  have hLk : L[k] ∈ L := List.getElem_mem _
  refine ⟨?_, nodup_set t.mn _ _, nodup_set t.nn _ _, fun h y => ?_, fun u h => ?_, ?_⟩
  · have := t.hrise; rw [hm] at this; exact List.pairwise_map.1 this
  · rw [mget_set, hmem]
    by_cases e : h = hf x
    · rw [if_pos e]
      constructor
      · rintro q; cases q; exact ⟨.inl rfl, e.symm⟩
      · rintro ⟨q | q, q2⟩
        · rw [q]
        · exact absurd (q2.trans e) q.2
    · rw [if_neg e, t.mg]
      constructor
      · rintro ⟨q, q2⟩; exact ⟨.inr ⟨q, fun q3 => e (q2.symm.trans q3)⟩, q2⟩
      · rintro ⟨q | q, q2⟩
        · subst q; exact absurd q2.symm e
        · exact ⟨q.1, q2⟩
  · rw [mget_set]
    by_cases e : u = uf x
    · rw [if_pos e]
      constructor
      · rintro q; cases q; exact ⟨x, (hmem _).2 (.inl rfl), e.symm, rfl⟩
      · rintro ⟨y, q, q2, q3⟩
        rcases (hmem _).1 q with q | q
        · subst q; rw [q3]
        · have := t.injU q.1 hLk (q2.trans (e.trans h2))
          exact absurd (this ▸ h1.symm) q.2
    · rw [if_neg e, t.ng]
      constructor
      · rintro ⟨y, q, q2, q3⟩
        refine ⟨y, (hmem _).2 (.inr ⟨q, fun q4 => e ?_⟩), q2, q3⟩
        have := t.inj q hLk (q4.trans h1)
        subst this
        exact q2.symm.trans h2.symm
      · rintro ⟨y, q, q2, q3⟩
        rcases (hmem _).1 q with q | q
        · subst q; exact absurd q2.symm e
        · exact ⟨y, q.1, q2, q3⟩
  · have h3 : (L.map uf).Pairwise fun a b => ¬ a = b := List.pairwise_map.2 t.uu
    rw [hu] at h3
    exact List.pairwise_map.1 h3

theorem Tabs.drop (t : Tabs hf uf m n L) {k : Nat} (hk : k < L.length) : Tabs hf uf (mdel m (hf L[k])) (mdel n (uf L[k])) (L.take k ++ L.drop (k + 1)) := by
  have hLk : L[k] ∈ L := List.getElem_mem _
  have hs : (L.take k ++ L.drop (k + 1)).Sublist L := by
    conv => rhs; rw [← List.take_append_drop k L, List.drop_eq_getElem_cons hk]
    exact List.Sublist.append_left (List.sublist_cons_self _ _) _
  have hmem : ∀ y, y ∈ L.take k ++ L.drop (k + 1) ↔ (y ∈ L ∧ ¬ hf y = hf L[k]) := by
    intro y
    have hp : L.Perm (L[k] :: (L.take k ++ L.drop (k + 1))) := by
      conv => lhs; rw [← List.take_append_drop k L, List.drop_eq_getElem_cons hk]
      exact List.perm_middle
    have hr : (L[k] :: (L.take k ++ L.drop (k + 1))).Pairwise fun a b => ¬ hf a = hf b := by
      refine (hp.pairwise_iff (fun {a b} h e => h e.symm)).1 ?_
      refine t.rise.imp fun {a b} h e => ?_
      rw [e] at h
      exact lt8_irrefl _ h
    rw [List.pairwise_cons] at hr
    constructor
    · intro hy
      exact ⟨hs.subset hy, fun e => hr.1 y hy e.symm⟩
    · rintro ⟨q, q2⟩
      rcases List.mem_cons.1 (hp.mem_iff.1 q) with e | e
      · exact absurd (by rw [e]) q2
      · exact e
  refine ⟨t.rise.sublist hs, nodup_del t.mn _, nodup_del t.nn _, fun h y => ?_, fun u h => ?_, t.uu.sublist hs⟩
  · rw [mget_del t.mn, hmem]
    by_cases e : h = hf L[k]
    · rw [if_pos e]
      constructor
      · intro q; cases q
      · rintro ⟨q, q2⟩; exact absurd (q2.trans e) q.2
    · rw [if_neg e, t.mg]
      constructor
      · rintro ⟨q, q2⟩; exact ⟨⟨q, fun q3 => e (q2.symm.trans q3)⟩, q2⟩
      · rintro ⟨q, q2⟩; exact ⟨q.1, q2⟩
  · rw [mget_del t.nn]
    by_cases e : u = uf L[k]
    · rw [if_pos e]
      constructor
      · intro q; cases q
      · rintro ⟨y, q, q2, q3⟩
        have := t.injU ((hmem y).1 q).1 hLk (q2.trans e)
        exact absurd (by rw [this]) ((hmem y).1 q).2
    · rw [if_neg e, t.ng]
      constructor
      · rintro ⟨y, q, q2, q3⟩
        refine ⟨y, (hmem _).2 ⟨q, fun q4 => e ?_⟩, q2, q3⟩
        have := t.inj q hLk q4
        subst this
        exact q2.symm
      · rintro ⟨y, q, q2, q3⟩; exact ⟨y, ((hmem y).1 q).1, q2, q3⟩

end

/-! ### Where something stands -/

section

variable {α : Type}

def idxL (p : α → Bool) (l : List α) : Int := match l.findIdx? p with | some i => (i : Int) | none => -1

theorem idxL_cases (p : α → Bool) (l : List α) : (idxL p l = -1 ∧ ∀ x ∈ l, p x = false) ∨ ∃ k : Nat, ∃ h : k < l.length, idxL p l = (k : Int) ∧ p l[k] = true := by
  unfold idxL
  cases hf : l.findIdx? p with
  | none => exact .inl ⟨rfl, List.findIdx?_eq_none_iff.1 hf⟩
  | some k =>
    obtain ⟨h1, h2, _⟩ := List.findIdx?_eq_some_iff_getElem.1 hf
    exact .inr ⟨k, h1, rfl, h2⟩

end

end Go.Idl

namespace Go.Idl

open Go

/-! ### Names of entries -/

def rdnB (x : S89) : Bool := nameS x.fType && decide (x.fType.map lowB = x.fType) && decide (1 ≤ x.fValue.length ∧ x.fValue.length ≤ 200)

def rightD (d : List S89) : Bool := decide (d.length ≤ 16) && d.all rdnB

def bigD (d : List S89) : Prop := d.length ≤ 1000000 ∧ ∀ x, x ∈ d → x.fType.length ≤ 1000000 ∧ x.fValue.length ≤ 1000000

theorem F81_eq (s : Str) (h : s.length ≤ 1000000) : F81 s = some (s.map lowB) := gd_pos (by omega)

theorem F79_eq (x : S89) (h : x.fType.length ≤ 1000000 ∧ x.fValue.length ≤ 1000000) : F79 x = some (rdnB x) := by
  unfold F79 rdnB
  rw [F80_eq _ h.1, F81_eq _ h.1]
  simp only [Option.bind_some]
  by_cases h1 : nameS x.fType = true
  · rw [if_pos h1, h1]
    by_cases h2 : x.fType.map lowB = x.fType
    · rw [if_pos h2, decide_eq_true h2]
      by_cases h3 : (1 : Int) ≤ x.fValue.length
      · rw [if_pos h3]; congr 1; simp only [Bool.true_and]; rw [decide_eq_decide]; omega
      · rw [if_neg h3, decide_eq_false (p := 1 ≤ x.fValue.length ∧ _) (by omega)]; rfl
    · rw [if_neg h2, decide_eq_false h2]; simp
  · rw [if_neg h1, Bool.eq_false_iff.2 h1]; simp

theorem F120_eq (d : List S89) (h : bigD d) : F120 d = some (!d.all rdnB) := by
  unfold F120 F149
  obtain ⟨j, hj, hf⟩ := findI_idx rdnB d 0
  rw [loopO_find d (fun i x => if rdnB x = true then none else some (.inr (i : Int))) (.inl ()) (by have := h.1; omega)
    (fun i hi => by
      simp only [F149_b4, F121]
      rw [if_pos (by omega), gd_pos (by omega), Int.toNat_natCast, getD_some hi, F79_eq _ (h.2 _ (List.getElem_mem _))]
      simp only [Option.bind_some]
      cases rdnB d[i] <;> simp)
    (by simp only [F149_b4]; rw [if_neg (by omega)]), hf]
  by_cases h1 : d.all rdnB = true
  · rw [if_pos h1, h1]; simp [F149_k4]
  · rw [if_neg h1, Bool.eq_false_iff.2 h1]; simp [hj]

theorem F54_eq (d : List S89) (h : bigD d) : F54 d = some (if rightD d = true then 0 else 2) := by
  unfold F54 rightD
  by_cases h1 : (16 : Int) < d.length
  · rw [if_pos h1, decide_eq_false (by omega)]; simp
  · rw [if_neg h1, decide_eq_true (by omega)]
    unfold F82
    rw [F120_eq d h]
    simp only [Option.bind_some, Bool.not_not, Bool.true_and]
    by_cases h2 : d.all rdnB = true
    · rw [if_neg (by simpa using h2), if_pos h2]
    · rw [if_pos h2, if_neg h2]

/-! ### Sameness -/

/-! ### Places -/

def cardI (l : List S39) (h : Str) : Int := idxL (fun x : S39 => decide (x.fHref = h)) l

def entI (l : List S39) (u : Str) : Int := idxL (fun x : S39 => decide (x.fUuid = u)) l

end Go.Idl

namespace Go.Idl

open Go

abbrev Mp := List (Str × S39)

abbrev Np := List (Str × Str)

/-! ### The list's steps -/

def goodB (x : S39) : Bool := hrefS x.fHref && uuidS x.fUuid && checkS x.fShadow

def addD (L : List S39) (x : S39) : List S39 × Int :=
  if goodB x = true then (if 0 ≤ cardI L x.fHref then (L, 300) else if 0 ≤ entI L x.fUuid then (L, 300) else if 64 ≤ (L.length : Int) then (L, 3) else (insL (·.fHref) x L, 0)) else (L, 2)

def rightPr (y : S33) : Bool := ((uuidS y.fUuid && decide (y.fDn = [])) || (decide (y.fUuid = []) && (decide (¬ y.fDn = []) && rightD y.fDn))) && (hrefS y.fHref && checkS y.fShadow)

/-! ### Bounds -/

def okX (x : S39) : Prop := x.fHref.length ≤ 1000000 ∧ x.fUuid.length ≤ 1000000 ∧ bigC x.fShadow

theorem cardI_pos (L : List S39) (h : Str) : (0 ≤ cardI L h ∧ ∃ hk : (cardI L h).toNat < L.length, L[(cardI L h).toNat].fHref = h) ∨ (cardI L h = -1 ∧ ∀ x ∈ L, ¬ x.fHref = h) := by
  unfold cardI
  rcases idxL_cases (fun x : S39 => decide (x.fHref = h)) L with ⟨h1, h2⟩ | ⟨k, hk, h1, h2⟩
  · exact .inr ⟨h1, fun x hx => by simpa using h2 x hx⟩
  · refine .inl ⟨by omega, ?_⟩
    have e : (idxL (fun x : S39 => decide (x.fHref = h)) L).toNat = k := by omega
    simp only [e]
    exact ⟨hk, by simpa using h2⟩

theorem entI_pos (L : List S39) (u : Str) : (0 ≤ entI L u ∧ ∃ hk : (entI L u).toNat < L.length, L[(entI L u).toNat].fUuid = u) ∨ (entI L u = -1 ∧ ∀ x ∈ L, ¬ x.fUuid = u) := by
  unfold entI
  rcases idxL_cases (fun x : S39 => decide (x.fUuid = u)) L with ⟨h1, h2⟩ | ⟨k, hk, h1, h2⟩
  · exact .inr ⟨h1, fun x hx => by simpa using h2 x hx⟩
  · refine .inl ⟨by omega, ?_⟩
    have e : (idxL (fun x : S39 => decide (x.fUuid = u)) L).toNat = k := by omega
    simp only [e]
    exact ⟨hk, by simpa using h2⟩

/-! ### The reference -/

end Go.Idl

namespace Go.Idl

open Go

def okP (y : S33) : Prop := y.fHref.length ≤ 1000000 ∧ y.fUuid.length ≤ 1000000 ∧ bigD y.fDn ∧ bigC y.fShadow

structure Inv (m : Mp) (n : Np) (pr : Option S33) (d : S35) : Prop where
  tabs : Tabs (fun x : S39 => x.fHref) (fun x : S39 => x.fUuid) m n d.fL
  good : ∀ x ∈ d.fL, goodB x = true ∧ okX x
  len : d.fL.length ≤ 64
  pro : (pr = none ∧ d.fP = S33.zero) ∨ (pr = some d.fP ∧ rightPr d.fP = true ∧ okP d.fP)

theorem Inv.nil : Inv [] [] none ⟨[], S33.zero⟩ := ⟨Tabs.nil, by simp, by simp, .inl ⟨rfl, rfl⟩⟩

variable {m : Mp} {n : Np} {pr : Option S33} {d : S35}

theorem Inv.shape (I : Inv m n pr d) (h : Str) : ((mget m h).getD S39.zero).fShadow.length = 8 := by
  cases e : mget m h with
  | none => rfl
  | some x => exact (I.good x ((I.tabs.mg h x).1 e).1).2.2.2.1

theorem Inv.big (I : Inv m n pr d) (h : Str) : bigC ((mget m h).getD S39.zero).fShadow := by
  cases e : mget m h with
  | none => exact ⟨rfl, by simp [S39.zero]⟩
  | some x => exact (I.good x ((I.tabs.mg h x).1 e).1).2.2.2

theorem Inv.card (I : Inv m n pr d) (h : Str) : (mget m h).isSome = decide (0 ≤ cardI d.fL h) := by
  rcases cardI_pos d.fL h with ⟨q, hk, e⟩ | ⟨q, e⟩
  · rw [decide_eq_true q]
    have := I.tabs.get (List.getElem_mem hk)
    rw [e] at this
    rw [this]; rfl
  · rw [q]
    rw [(I.tabs.nothing (h := h)).2 e]; rfl

theorem Inv.ent (I : Inv m n pr d) (u : Str) : (mget n u).isSome = decide (0 ≤ entI d.fL u) := by
  rcases entI_pos d.fL u with ⟨q, hk, e⟩ | ⟨q, e⟩
  · rw [decide_eq_true q]
    have := I.tabs.getU (List.getElem_mem hk)
    rw [e] at this
    rw [this]; rfl
  · rw [q]
    rw [(I.tabs.nothingU (u := u)).2 e]; rfl

/-! ### What is asked -/

theorem F14_eq (I : Inv m n pr d) : F14 m n pr = some d.fL := by
  have hl := I.len
  have hm := I.tabs.len
  have hk : ∀ p, p ∈ m → p.1.length ≤ 1000000 := fun p hp => by
    have : p.1 ∈ d.fL.map fun x : S39 => x.fHref := (I.tabs.keys p.1).1 (List.mem_map_of_mem hp)
    obtain ⟨x, hx, e⟩ := List.mem_map.1 this
    rw [← e]
    exact (I.good x hx).2.1
  unfold F14 F42 F43
  rw [gd_pos ⟨by omega, hk⟩, I.tabs.sort]
  simp only [Option.bind_some]
  obtain ⟨r, h1, h2⟩ := loopO_for3 (step := fun (s : Int × List S39) => F14_b9 m (d.fL.map fun x : S39 => x.fHref) s.1 s.2) (Post := fun y => y = d.fL) d.fL.length (fun i a => a = d.fL.take i) (a := []) (by simp)
    (fun i a hi hI => by
      have hw := wrap_nat (i := i) (by omega)
      have hi' : i < (d.fL.map fun x : S39 => x.fHref).length := by simpa using hi
      have hx := List.getElem_mem hi
      simp only [F14_b9]
      rw [if_pos (by simp; omega), gd_pos (by simp; omega), Int.toNat_natCast, getD_some hi', List.getElem_map, I.tabs.get hx]
      simp only [Option.getD_some]
      rw [F45_big _ (I.good _ hx).2.2.2]
      simp only [Option.bind_some]
      have hal : a.length ≤ 64 := by rw [hI]; simp; omega
      rw [gd_pos (I.good _ hx).2.2.2.1, gd_pos (by simp; omega), hw]
      exact .inl ⟨_, rfl, by rw [hI, List.take_succ_eq_append_getElem hi]⟩)
    (fun a hI => by
      simp only [F14_b9]
      rw [if_neg (by simp)]
      exact ⟨_, rfl, by rw [hI, List.take_of_length_le (Nat.le_refl _)]⟩)
  rw [h1, h2]
  rfl

theorem F52_eq (y : S33) (h : okP y) : F52 y = some y := by
  unfold F52 F78 F58
  rw [gd_pos h.2.2.2.1, gd_pos h.2.2.1.1, gd_pos h.2.2.2]
  simp only [Option.bind_some]
  rw [gd_pos h.2.2.2.1]

theorem Inv.prbig (I : Inv m n pr d) : okP d.fP := by
  rcases I.pro with ⟨_, e2⟩ | ⟨_, _, e3⟩
  · rw [e2]; exact ⟨by simp [S33.zero], by simp [S33.zero], ⟨by simp [S33.zero], by simp [S33.zero]⟩, ⟨rfl, by simp [S33.zero]⟩⟩
  · exact e3

theorem F26_eq (I : Inv m n pr d) : F26 m n pr = some (d.fP, pr.isSome) := by
  unfold F26 F42
  simp only [Option.bind_some]
  rcases I.pro with ⟨e1, e2⟩ | ⟨e1, e2, e3⟩
  · rw [e1, e2]
    rfl
  · rw [e1]
    simp only [Option.isNone_some, Bool.false_eq_true, if_false, Option.isSome_some, Option.getD_some]
    rw [gd_pos trivial, gd_pos e3.2.2.2.1, F52_eq _ e3]
    simp only [Option.bind_some]
    rw [gd_pos e3.2.2.2.1]

theorem F21_eq (I : Inv m n pr d) (h : Str) : F21 m n pr h = some ((mget m h).getD S39.zero, (mget m h).isSome) := by
  unfold F21 F42
  simp only [Option.bind_some]
  rw [gd_pos (I.shape h), F45_big _ (I.big h)]
  simp only [Option.bind_some]
  rw [gd_pos (I.shape h)]

theorem F18_eq (I : Inv m n pr d) (u : Str) : F18 m n pr u = some ((mget m ((mget n u).getD [])).getD S39.zero, (mget m ((mget n u).getD [])).isSome) := by
  unfold F18 F42
  simp only [Option.bind_some]
  rw [F21_eq I]
  simp only [Option.bind_some]
  rw [gd_pos (I.shape _)]

/-! ### What changes -/

theorem F29_inv (I : Inv m n pr d) (x : S39) (hx : okX x) : ∃ m' n', F29 m n pr x = some ((addD d.fL x).2, m', n') ∧ Inv m' n' pr ⟨(addD d.fL x).1, d.fP⟩ := by
  have hl := I.len
  have hm := I.tabs.len
  unfold F29 F42 F57 F56 addD goodB
  rw [gd_pos hx.2.2.1, F55_eq _ hx.1, F53_eq _ hx.2.1, gd_pos hx.2.2, gd_pos (I.shape _), I.card, I.ent, F45_big _ hx.2.2]
  simp only [Option.bind_some]
  by_cases a1 : hrefS x.fHref = true
  · rw [if_neg (c := ¬ hrefS x.fHref = true) (by simpa using a1)]
    by_cases a2 : uuidS x.fUuid = true
    · rw [if_neg (c := ¬ uuidS x.fUuid = true) (by simpa using a2)]
      by_cases a3 : checkS x.fShadow = true
      · rw [if_pos (c := checkS x.fShadow = true) a3, if_neg (c := ¬ (0 : Int) = 0) (by simp), if_pos (c := (hrefS x.fHref && uuidS x.fUuid && checkS x.fShadow) = true) (by simp [a1, a2, a3])]
        by_cases a4 : 0 ≤ cardI d.fL x.fHref
        · rw [if_pos a4, decide_eq_true a4]
          exact ⟨m, n, by simp, I⟩
        · rw [if_neg a4, decide_eq_false a4]
          by_cases a5 : 0 ≤ entI d.fL x.fUuid
          · rw [if_pos a5, decide_eq_true a5]
            exact ⟨m, n, by simp, I⟩
          · rw [if_neg a5, decide_eq_false a5]
            by_cases a6 : (64 : Int) ≤ d.fL.length
            · rw [if_pos a6]
              exact ⟨m, n, by simp [hm, a6], I⟩
            · rw [if_neg a6]
              refine ⟨mset m x.fHref x, mset n x.fUuid x.fHref, by simp [F49, gd_pos hx.2.2.1, hm]; omega, ?_⟩
              have q1 : ∀ y ∈ d.fL, ¬ y.fHref = x.fHref := by
                rcases cardI_pos d.fL x.fHref with ⟨q, _⟩ | ⟨_, q⟩
                · exact absurd q a4
                · exact q
              have q2 : ∀ y ∈ d.fL, ¬ y.fUuid = x.fUuid := by
                rcases entI_pos d.fL x.fUuid with ⟨q, _⟩ | ⟨_, q⟩
                · exact absurd q a5
                · exact q
              refine ⟨I.tabs.add q1 q2, fun y hy => ?_, by rw [insL_len]; omega, I.pro⟩
              rcases insL_mem.1 hy with e | e
              · subst e
                exact ⟨by simp [goodB, a1, a2, a3], hx⟩
              · exact I.good y e
      · rw [if_neg a3, if_pos (c := ¬ (2 : Int) = 0) (by simp), if_neg (c := (hrefS x.fHref && uuidS x.fUuid && checkS x.fShadow) = true) (by simp [a3])]
        exact ⟨m, n, rfl, I⟩
    · rw [if_pos a2, if_neg (c := (hrefS x.fHref && uuidS x.fUuid && checkS x.fShadow) = true) (by simp [a2])]
      exact ⟨m, n, rfl, I⟩
  · rw [if_pos a1, if_neg (c := (hrefS x.fHref && uuidS x.fUuid && checkS x.fShadow) = true) (by simp [a1])]
    exact ⟨m, n, rfl, I⟩

end Go.Idl

namespace Go.Idl

open Go

variable {m : Mp} {n : Np} {pr : Option S33} {d : S35}

/-! ### A step -/

theorem zeroP_eq : (⟨[], [], [], [[], [], [], [], [], [], [], []]⟩ : S33) = S33.zero := rfl

theorem Inv.sh (I : Inv m n pr d) : ∀ x ∈ d.fL, x.fShadow.length = 8 := fun x hx => (I.good x hx).2.2.2.1

theorem Inv.bigs (I : Inv m n pr d) : ∀ x ∈ d.fL, bigC x.fShadow := fun x hx => (I.good x hx).2.2.2

theorem Inv.psh (I : Inv m n pr d) : d.fP.fShadow.length = 8 := I.prbig.2.2.2.1

/-! ### The same as the document's -/

/-! ### No more than is done here -/

end Go.Idl

namespace Go.Idl

set_option maxHeartbeats 8000000

set_option pp.deepTerms false

set_option maxRecDepth 60000

open Go Go.Proofs.Tryz

/-! cardcase/cardcaselaw20.PairsOnce -/

end Go.Idl

namespace Go.Idl

set_option maxHeartbeats 8000000

set_option pp.deepTerms false

set_option maxRecDepth 60000

open Go Go.Proofs.Tryz

/-! cardcase/cardcaselaw20.PairsPlay -/

/-! slices.Equal[[]cardcase/api.Pair,cardcase/api.Pair] -/

/-! cardcase/pairs.Same -/

/-! cardcase/cardcaseref20.Same -/

end Go.Idl

namespace Go.Idl

set_option maxHeartbeats 8000000

set_option pp.deepTerms false

set_option maxRecDepth 60000

open Go Go.Proofs.Tryz

/-! cardcase/cardcaselaw20.PairsCopies -/

/-! (*cardcase/pairs.Pairs).none -/

noncomputable def F42s2  : Option Bool :=
 some true

theorem F42s2_ok {H : IHeap} {K : IEnd → IHeap → Prop}  {r : Bool} (h : F42s2  = some r) (hK : K (.ret (.v (.bool r))) H) : ICalls prog 42 [.v (.pointer none)] H K := by
 refine ICalls_iwp (N := 13) func42 (by kernel_rfl) rfl (by kernel_rfl) (by kernel_rfl) fun cb hcb hw hbd hnb => ?_
 clear hbd hnb
 subst hcb
 unfold F42s2 at h
 refine wG ?_
 refine wG ?_
 refine vO ?_
 obtain rfl := Option.some.inj h
 refine sG ?_
 exact retA (.refl hw) hK

/-! (*cardcase/pairs.Pairs).Card -/

noncomputable def F21s2 (a1 : List UInt8) : Option (S39 × Bool) :=
 (F42s2 ).bind fun (x4 : Bool) => some (((⟨[], [], [[], [], [], [], [], [], [], []]⟩ : S39), false))

theorem F21s2_ok {H : IHeap} {K : IEnd → IHeap → Prop} (a1 : List UInt8) {r : S39 × Bool} (h : F21s2 a1 = some r) (hK : K (.ret (.tu [.ag (.v (str r.1.fHref) :: .v (str r.1.fUuid) :: (r.1.fShadow.map fun x => .sl 1 (x.map fun x => [.v (str x)]))), .v (.bool r.2)])) H) : ICalls prog 21 [.v (.pointer none), .v (str a1)] H K := by
 refine ICalls_iwp (N := 24) func21 (by kernel_rfl) rfl (by kernel_rfl) (by kernel_rfl) fun cb hcb hw hbd hnb => ?_
 clear hbd hnb
 subst hcb
 unfold F21s2 at h
 refine wG ?_
 refine IWp_seqF fun cb hc2 => ?_
 refine IWp_seqF fun cb hc3 => ?_
 refine vG ?_
 obtain ⟨x4, hx4, h⟩ := bind_some' h
 cases (show some true = some x4 from hx4)
 refine F42s2_ok  hx4 ?_
 refine sG ?_
 subst hc3
 refine IWp_cond_t eA rfl ?_
 refine IWp_seqF fun cb hc5 => ?_
 refine v0 ?_
 simp -implicitDefEqProofs (disch := omega) [go_sem, bdP]
 subst hc5
 refine vO ?_
 obtain rfl := Option.some.inj h
 refine sG ?_
 refine retG_fzE (J := H) (r' := _) (Ext.endH (by exact extA (Ext.refl hw))) eA (.wk _ (.tu [.ag ([.v (str []), .v (str []), .sl 1 ((([] : List (List UInt8))).map fun x => [.v (str x)]), .sl 1 ((([] : List (List UInt8))).map fun x => [.v (str x)]), .sl 1 ((([] : List (List UInt8))).map fun x => [.v (str x)]), .sl 1 ((([] : List (List UInt8))).map fun x => [.v (str x)]), .sl 1 ((([] : List (List UInt8))).map fun x => [.v (str x)]), .sl 1 ((([] : List (List UInt8))).map fun x => [.v (str x)]), .sl 1 ((([] : List (List UInt8))).map fun x => [.v (str x)]), .sl 1 ((([] : List (List UInt8))).map fun x => [.v (str x)])]), .v (.bool false)]) (by repeat (first | exact WkL.nil | refine WkL.cons ?_ ?_ | exact Wk.refl _ | exact Wk.nil _ | refine Wk.agL ?_ | refine Wk.tuL ?_)) (by exact nbA)) hK

/-! (*cardcase/pairs.Pairs).none -/

noncomputable def F42s3 (a0_1 : Option S33) : Option Bool :=
 some true

theorem F42s3_ok {H : IHeap} {K : IEnd → IHeap → Prop} (a0_1 : Option S33) (ka0 : Nat) (oka0 : H.obj ka0 = some (.cells ([.v (.map none), .v (.map none), optP (fun (x : S33) => .v (str x.fHref) :: .v (str x.fUuid) :: .sl 2 (x.fDn.map fun x => [.v (str x.fType), .v (str x.fValue)]) :: (x.fShadow.map fun x => .sl 1 (x.map fun x => [.v (str x)]))) a0_1]))) {r : Bool} (h : F42s3 a0_1 = some r) (hK : K (.ret (.v (.bool r))) H) : ICalls prog 42 [.p ka0 0] H K := by
 refine ICalls_iwp (N := 13) func42 (by kernel_rfl) rfl (by kernel_rfl) (by kernel_rfl) fun cb hcb hw hbd hnb => ?_
 clear hbd hnb
 subst hcb
 unfold F42s3 at h
 have hka0 : ka0 < H.next := Nat.lt_of_not_le fun q => by rw [hw _ q] at oka0; cases oka0
 refine wG ?_
 refine wF oka0 ?_
 refine vO ?_
 obtain rfl := Option.some.inj h
 refine sG ?_
 exact retA (.refl hw) hK

/-! (*cardcase/pairs.Pairs).Entry -/

noncomputable def F18s2 (a0_1 : Option S33) (a1 : List UInt8) : Option (S39 × Bool) :=
 (F42s3 a0_1).bind fun (x4 : Bool) => some (((⟨[], [], [[], [], [], [], [], [], [], []]⟩ : S39), false))

theorem F18s2_ok {H : IHeap} {K : IEnd → IHeap → Prop} (a0_1 : Option S33) (a1 : List UInt8) (ka0 : Nat) (oka0 : H.obj ka0 = some (.cells ([.v (.map none), .v (.map none), optP (fun (x : S33) => .v (str x.fHref) :: .v (str x.fUuid) :: .sl 2 (x.fDn.map fun x => [.v (str x.fType), .v (str x.fValue)]) :: (x.fShadow.map fun x => .sl 1 (x.map fun x => [.v (str x)]))) a0_1]))) {r : S39 × Bool} (h : F18s2 a0_1 a1 = some r) (hK : K (.ret (.tu [.ag (.v (str r.1.fHref) :: .v (str r.1.fUuid) :: (r.1.fShadow.map fun x => .sl 1 (x.map fun x => [.v (str x)]))), .v (.bool r.2)])) H) : ICalls prog 18 [.p ka0 0, .v (str a1)] H K := by
 refine ICalls_iwp (N := 20) func18 (by kernel_rfl) rfl (by kernel_rfl) (by kernel_rfl) fun cb hcb hw hbd hnb => ?_
 clear hbd hnb
 subst hcb
 unfold F18s2 at h
 have hka0 : ka0 < H.next := Nat.lt_of_not_le fun q => by rw [hw _ q] at oka0; cases oka0
 refine wG ?_
 refine IWp_seqF fun cb hc2 => ?_
 refine IWp_seqF fun cb hc3 => ?_
 refine vG ?_
 obtain ⟨x4, hx4, h⟩ := bind_some' h
 cases (show some true = some x4 from hx4)
 refine F42s3_ok a0_1 ka0 (eF oka0) hx4 ?_
 refine sG ?_
 subst hc3
 refine IWp_cond_t eA rfl ?_
 refine IWp_seqF fun cb hc5 => ?_
 refine v0 ?_
 simp -implicitDefEqProofs (disch := omega) [go_sem, bdP]
 subst hc5
 refine vO ?_
 obtain rfl := Option.some.inj h
 refine sG ?_
 refine retG_fzE (J := H) (r' := _) (Ext.endH (by exact extA (Ext.refl hw))) eA (.wk _ (.tu [.ag ([.v (str []), .v (str []), .sl 1 ((([] : List (List UInt8))).map fun x => [.v (str x)]), .sl 1 ((([] : List (List UInt8))).map fun x => [.v (str x)]), .sl 1 ((([] : List (List UInt8))).map fun x => [.v (str x)]), .sl 1 ((([] : List (List UInt8))).map fun x => [.v (str x)]), .sl 1 ((([] : List (List UInt8))).map fun x => [.v (str x)]), .sl 1 ((([] : List (List UInt8))).map fun x => [.v (str x)]), .sl 1 ((([] : List (List UInt8))).map fun x => [.v (str x)]), .sl 1 ((([] : List (List UInt8))).map fun x => [.v (str x)])]), .v (.bool false)]) (by repeat (first | exact WkL.nil | refine WkL.cons ?_ ?_ | exact Wk.refl _ | exact Wk.nil _ | refine Wk.agL ?_ | refine Wk.tuL ?_)) (by exact nbA)) hK

/-! (*cardcase/pairs.Pairs).Promised -/

noncomputable def F26s2  : Option (S33 × Bool) :=
 (F42s2 ).bind fun (x4 : Bool) => some (((⟨[], [], [], [[], [], [], [], [], [], [], []]⟩ : S33), false))

theorem F26s2_ok {H : IHeap} {K : IEnd → IHeap → Prop}  {r : S33 × Bool} (h : F26s2  = some r) (hK : K (.ret (.tu [.ag (.v (str r.1.fHref) :: .v (str r.1.fUuid) :: .sl 2 (r.1.fDn.map fun x => [.v (str x.fType), .v (str x.fValue)]) :: (r.1.fShadow.map fun x => .sl 1 (x.map fun x => [.v (str x)]))), .v (.bool r.2)])) H) : ICalls prog 26 [.v (.pointer none)] H K := by
 refine ICalls_iwp (N := 21) func26 (by kernel_rfl) rfl (by kernel_rfl) (by kernel_rfl) fun cb hcb hw hbd hnb => ?_
 clear hbd hnb
 subst hcb
 unfold F26s2 at h
 refine wG ?_
 refine IWp_seqF fun cb hc2 => ?_
 refine IWp_seqF fun cb hc3 => ?_
 refine vG ?_
 obtain ⟨x4, hx4, h⟩ := bind_some' h
 cases (show some true = some x4 from hx4)
 refine F42s2_ok  hx4 ?_
 refine sG ?_
 subst hc3
 refine IWp_cond_t eA rfl ?_
 refine IWp_seqF fun cb hc5 => ?_
 refine v0 ?_
 simp -implicitDefEqProofs (disch := omega) [go_sem, bdP]
 subst hc5
 refine vO ?_
 obtain rfl := Option.some.inj h
 refine sG ?_
 refine retG_fzE (J := H) (r' := _) (Ext.endH (by exact extA (Ext.refl hw))) eA (.wk _ (.tu [.ag ([.v (str []), .v (str []), .sl 2 (([] : List S89).map fun x => [.v (str x.fType), .v (str x.fValue)]), .sl 1 ((([] : List (List UInt8))).map fun x => [.v (str x)]), .sl 1 ((([] : List (List UInt8))).map fun x => [.v (str x)]), .sl 1 ((([] : List (List UInt8))).map fun x => [.v (str x)]), .sl 1 ((([] : List (List UInt8))).map fun x => [.v (str x)]), .sl 1 ((([] : List (List UInt8))).map fun x => [.v (str x)]), .sl 1 ((([] : List (List UInt8))).map fun x => [.v (str x)]), .sl 1 ((([] : List (List UInt8))).map fun x => [.v (str x)]), .sl 1 ((([] : List (List UInt8))).map fun x => [.v (str x)])]), .v (.bool false)]) (by repeat (first | exact WkL.nil | refine WkL.cons ?_ ?_ | exact Wk.refl _ | exact Wk.nil _ | refine Wk.agL ?_ | refine Wk.tuL ?_)) (by exact nbA)) hK

/-! (*cardcase/pairs.Pairs).All -/

noncomputable def F14s2  : Option (List S39) :=
 (F42s2 ).bind fun (x5 : Bool) => some ([] : List S39)

theorem F14s2_ok {H : IHeap} {K : IEnd → IHeap → Prop}  {r : (List S39)} (h : F14s2  = some r) (hK : K (.ret (.fn (.func 46) [] [.cp [.sl 10 (r.map fun x => .v (str x.fHref) :: .v (str x.fUuid) :: (x.fShadow.map fun x => .sl 1 (x.map fun x => [.v (str x)])))]])) H) : ICalls prog 14 [.v (.pointer none)] H K := by
 refine ICalls_iwp (N := 34) func14 (by kernel_rfl) rfl (by kernel_rfl) (by kernel_rfl) fun cb hcb hw hbd hnb => ?_
 clear hbd hnb
 subst hcb
 unfold F14s2 at h
 refine wG ?_
 refine wG ?_
 refine IWp_seqF fun cb hc3 => ?_
 refine IWp_seqF fun cb hc4 => ?_
 refine vG ?_
 obtain ⟨x5, hx5, h⟩ := bind_some' h
 cases (show some true = some x5 from hx5)
 refine F42s2_ok  hx5 ?_
 refine sG ?_
 subst hc4
 refine IWp_cond_f eA rfl ?_
 refine vO ?_
 subst hc3
 refine wG ?_
 refine vO ?_
 obtain rfl := Option.some.inj h
 refine sG ?_
 refine retG_fzE (J := H) (r' := .fn (.func 46) [] [.cp [.sl 10 (([] : List S39).map fun x => .v (str x.fHref) :: .v (str x.fUuid) :: (x.fShadow.map fun x => .sl 1 (x.map fun x => [.v (str x)])))]]) (Ext.endH (by exact extA (Ext.refl hw))) rfl (Fz.clos1 (fz_ptrN (hw _ (by omega)) eA)) hK

/-! (*cardcase/pairs.Pairs).Promise -/

noncomputable def F27s2 (a1 : S33) : Option Int :=
 gd (a1.fShadow.length = 8) ((F53 a1.fUuid).bind fun (x4 : Bool) => if x4 = true then (if (a1.fDn.length : Int) = 0 then ((F42s2 ).bind fun (x7 : Bool) => some 1) else (if a1.fUuid = [] then (if 0 < (a1.fDn.length : Int) then ((F54 a1.fDn).bind fun (x9 : Int) => (F42s2 ).bind fun (x12 : Bool) => some 1) else ((F42s2 ).bind fun (x16 : Bool) => some 1)) else ((F42s2 ).bind fun (x21 : Bool) => some 1))) else (if a1.fUuid = [] then (if 0 < (a1.fDn.length : Int) then ((F54 a1.fDn).bind fun (x25 : Int) => (F42s2 ).bind fun (x28 : Bool) => some 1) else ((F42s2 ).bind fun (x32 : Bool) => some 1)) else ((F42s2 ).bind fun (x37 : Bool) => some 1)))

theorem F27s2_ok {H : IHeap} {K : IEnd → IHeap → Prop} (a1 : S33) {r : Int} (h : F27s2 a1 = some r) (hK : K (.ret (.v (.int .i64 r))) H) : ICalls prog 27 [.v (.pointer none), .ag (.v (str a1.fHref) :: .v (str a1.fUuid) :: .sl 2 (a1.fDn.map fun x => [.v (str x.fType), .v (str x.fValue)]) :: (a1.fShadow.map fun x => .sl 1 (x.map fun x => [.v (str x)])))] H K := by
 refine ICalls_iwp (N := 55) func27 (by kernel_rfl) rfl (by kernel_rfl) (by kernel_rfl) fun cb hcb hw hbd hnb => ?_
 clear hbd hnb
 subst hcb
 unfold F27s2 at h
 obtain ⟨g2, h⟩ := gd_some.1 h
 refine wG ?_
 refine IWp_seqF fun cb hc3 => ?_
 refine vF g2 ?_
 obtain ⟨x4, hx4, h⟩ := bind_some' h
 refine F53_ok a1.fUuid hx4 ?_
 refine sG ?_
 refine splitG_f h eA ?_ ?_
 ·intro c40 h
  refine sF g2 ?_
  refine splitG_f h eA ?_ ?_
  ·intro c24 h
   simp (disch := omega) at c24
   refine sG ?_
   subst hc3
   refine IWp_seqF fun cb hc5 => ?_
   refine IWp_block ?_
   refine IWp_seqF fun cb hc6 => ?_
   refine vG ?_
   obtain ⟨x7, hx7, h⟩ := bind_some' h
   cases (show some true = some x7 from hx7)
   refine F42s2_ok  hx7 ?_
   refine sG ?_
   subst hc6
   refine IWp_cond_t eA rfl ?_
   refine wG ?_
   refine vO ?_
   obtain rfl := Option.some.inj h
   refine sG ?_
   exact retA (.refl hw) hK
  intro c24 h
  simp (disch := omega) at c24
  refine sF g2 ?_
  refine splitG_f h rfl ?_ ?_
  ·intro c23 h
   refine sF g2 ?_
   refine splitG_f h eA ?_ ?_
   ·intro c18 h
    simp (disch := omega) at c18
    refine sF g2 ?_
    obtain ⟨x9, hx9, h⟩ := bind_some' h
    refine F54_ok a1.fDn hx9 ?_
    refine sG ?_
    subst hc3
    refine IWp_seqF fun cb hc10 => ?_
    refine IWp_block ?_
    refine IWp_seqF fun cb hc11 => ?_
    refine vG ?_
    obtain ⟨x12, hx12, h⟩ := bind_some' h
    cases (show some true = some x12 from hx12)
    refine F42s2_ok  hx12 ?_
    refine sG ?_
    subst hc11
    refine IWp_cond_t eA rfl ?_
    refine wG ?_
    refine vO ?_
    obtain rfl := Option.some.inj h
    refine sG ?_
    exact retA (.refl hw) hK
   intro c18 h
   simp (disch := omega) at c18
   refine sG ?_
   subst hc3
   refine IWp_seqF fun cb hc14 => ?_
   refine IWp_block ?_
   refine IWp_seqF fun cb hc15 => ?_
   refine vG ?_
   obtain ⟨x16, hx16, h⟩ := bind_some' h
   cases (show some true = some x16 from hx16)
   refine F42s2_ok  hx16 ?_
   refine sG ?_
   subst hc15
   refine IWp_cond_t eA rfl ?_
   refine wG ?_
   refine vO ?_
   obtain rfl := Option.some.inj h
   refine sG ?_
   exact retA (.refl hw) hK
  intro c23 h
  refine sG ?_
  subst hc3
  refine IWp_seqF fun cb hc19 => ?_
  refine IWp_block ?_
  refine IWp_seqF fun cb hc20 => ?_
  refine vG ?_
  obtain ⟨x21, hx21, h⟩ := bind_some' h
  cases (show some true = some x21 from hx21)
  refine F42s2_ok  hx21 ?_
  refine sG ?_
  subst hc20
  refine IWp_cond_t eA rfl ?_
  refine wG ?_
  refine vO ?_
  obtain rfl := Option.some.inj h
  refine sG ?_
  exact retA (.refl hw) hK
 intro c40 h
 simp (disch := omega) at c40
 refine sF g2 ?_
 refine splitG_f h rfl ?_ ?_
 ·intro c39 h
  refine sF g2 ?_
  refine splitG_f h eA ?_ ?_
  ·intro c34 h
   simp (disch := omega) at c34
   refine sF g2 ?_
   obtain ⟨x25, hx25, h⟩ := bind_some' h
   refine F54_ok a1.fDn hx25 ?_
   refine sG ?_
   subst hc3
   refine IWp_seqF fun cb hc26 => ?_
   refine IWp_block ?_
   refine IWp_seqF fun cb hc27 => ?_
   refine vG ?_
   obtain ⟨x28, hx28, h⟩ := bind_some' h
   cases (show some true = some x28 from hx28)
   refine F42s2_ok  hx28 ?_
   refine sG ?_
   subst hc27
   refine IWp_cond_t eA rfl ?_
   refine wG ?_
   refine vO ?_
   obtain rfl := Option.some.inj h
   refine sG ?_
   exact retA (.refl hw) hK
  intro c34 h
  simp (disch := omega) at c34
  refine sG ?_
  subst hc3
  refine IWp_seqF fun cb hc30 => ?_
  refine IWp_block ?_
  refine IWp_seqF fun cb hc31 => ?_
  refine vG ?_
  obtain ⟨x32, hx32, h⟩ := bind_some' h
  cases (show some true = some x32 from hx32)
  refine F42s2_ok  hx32 ?_
  refine sG ?_
  subst hc31
  refine IWp_cond_t eA rfl ?_
  refine wG ?_
  refine vO ?_
  obtain rfl := Option.some.inj h
  refine sG ?_
  exact retA (.refl hw) hK
 intro c39 h
 refine sG ?_
 subst hc3
 refine IWp_seqF fun cb hc35 => ?_
 refine IWp_block ?_
 refine IWp_seqF fun cb hc36 => ?_
 refine vG ?_
 obtain ⟨x37, hx37, h⟩ := bind_some' h
 cases (show some true = some x37 from hx37)
 refine F42s2_ok  hx37 ?_
 refine sG ?_
 subst hc36
 refine IWp_cond_t eA rfl ?_
 refine wG ?_
 refine vO ?_
 obtain rfl := Option.some.inj h
 refine sG ?_
 exact retA (.refl hw) hK

/-! (*cardcase/pairs.Pairs).Clear -/

noncomputable def F28s2 (a0_1 : Option S33) : Option Int :=
 (F42s3 a0_1).bind fun (x4 : Bool) => some 1

theorem F28s2_ok {H : IHeap} {K : IEnd → IHeap → Prop} (a0_1 : Option S33) (ka0 : Nat) (oka0 : H.obj ka0 = some (.cells ([.v (.map none), .v (.map none), optP (fun (x : S33) => .v (str x.fHref) :: .v (str x.fUuid) :: .sl 2 (x.fDn.map fun x => [.v (str x.fType), .v (str x.fValue)]) :: (x.fShadow.map fun x => .sl 1 (x.map fun x => [.v (str x)]))) a0_1]))) {r : Int} (h : F28s2 a0_1 = some r) (hK : K (.ret (.v (.int .i64 r))) H) : ICalls prog 28 [.p ka0 0] H K := by
 refine ICalls_iwp (N := 8) func28 (by kernel_rfl) rfl (by kernel_rfl) (by kernel_rfl) fun cb hcb hw hbd hnb => ?_
 clear hbd hnb
 subst hcb
 unfold F28s2 at h
 have hka0 : ka0 < H.next := Nat.lt_of_not_le fun q => by rw [hw _ q] at oka0; cases oka0
 refine wG ?_
 refine IWp_seqF fun cb hc2 => ?_
 refine IWp_seqF fun cb hc3 => ?_
 refine vG ?_
 obtain ⟨x4, hx4, h⟩ := bind_some' h
 cases (show some true = some x4 from hx4)
 refine F42s3_ok a0_1 ka0 (by assumption) hx4 ?_
 refine sG ?_
 subst hc3
 refine IWp_cond_t eA rfl ?_
 refine wG ?_
 refine vO ?_
 obtain rfl := Option.some.inj h
 refine sG ?_
 exact retA (.refl hw) hK

/-! (*cardcase/pairs.Pairs).Add -/

noncomputable def F29s2 (a1 : S39) : Option Int :=
 gd (a1.fShadow.length = 8) ((F42s2 ).bind fun (x8 : Bool) => some 1)

theorem F29s2_ok {H : IHeap} {K : IEnd → IHeap → Prop} (a1 : S39) {r : Int} (h : F29s2 a1 = some r) (hK : K (.ret (.v (.int .i64 r))) H) : ICalls prog 29 [.v (.pointer none), .ag (.v (str a1.fHref) :: .v (str a1.fUuid) :: (a1.fShadow.map fun x => .sl 1 (x.map fun x => [.v (str x)])))] H K := by
 refine ICalls_iwp (N := 42) func29 (by kernel_rfl) rfl (by kernel_rfl) (by kernel_rfl) fun cb hcb hw hbd hnb => ?_
 clear hbd hnb
 subst hcb
 unfold F29s2 at h
 obtain ⟨g2, h⟩ := gd_some.1 h
 refine wG ?_
 refine IWp_scopeF 0 rfl fun cb hc3 => ?_
 refine wG ?_
 refine IWp_seqF fun cb hc5 => ?_
 refine wG ?_
 refine IWp_seqF fun cb hc7 => ?_
 refine vG ?_
 obtain ⟨x8, hx8, h⟩ := bind_some' h
 cases (show some true = some x8 from hx8)
 refine F42s2_ok  hx8 ?_
 refine sG ?_
 subst hc7
 refine IWp_cond_t eA rfl ?_
 refine vO ?_
 subst hc3
 refine wO ?_
 refine wG ?_
 refine vO ?_
 obtain rfl := Option.some.inj h
 refine sG ?_
 exact retA (.refl hw) hK

/-! (*cardcase/pairs.Pairs).Set -/

noncomputable def F30s2 (a0_1 : Option S33) (a1 : List UInt8) (a2 : List (List (List UInt8))) : Option Int :=
 gd (a2.length = 8) ((F42s3 a0_1).bind fun (x5 : Bool) => some 1)

theorem F30s2_ok {H : IHeap} {K : IEnd → IHeap → Prop} (a0_1 : Option S33) (a1 : List UInt8) (a2 : List (List (List UInt8))) (ka0 : Nat) (oka0 : H.obj ka0 = some (.cells ([.v (.map none), .v (.map none), optP (fun (x : S33) => .v (str x.fHref) :: .v (str x.fUuid) :: .sl 2 (x.fDn.map fun x => [.v (str x.fType), .v (str x.fValue)]) :: (x.fShadow.map fun x => .sl 1 (x.map fun x => [.v (str x)]))) a0_1]))) {r : Int} (h : F30s2 a0_1 a1 a2 = some r) (hK : K (.ret (.v (.int .i64 r))) H) : ICalls prog 30 [.p ka0 0, .v (str a1), .ag (a2.map fun x => .sl 1 (x.map fun x => [.v (str x)]))] H K := by
 refine ICalls_iwp (N := 37) func30 (by kernel_rfl) rfl (by kernel_rfl) (by kernel_rfl) fun cb hcb hw hbd hnb => ?_
 clear hbd hnb
 subst hcb
 unfold F30s2 at h
 have hka0 : ka0 < H.next := Nat.lt_of_not_le fun q => by rw [hw _ q] at oka0; cases oka0
 obtain ⟨g2, h⟩ := gd_some.1 h
 refine wG ?_
 refine IWp_seqF fun cb hc3 => ?_
 refine IWp_block ?_
 refine IWp_seqF fun cb hc4 => ?_
 refine vG ?_
 obtain ⟨x5, hx5, h⟩ := bind_some' h
 cases (show some true = some x5 from hx5)
 refine F42s3_ok a0_1 ka0 (eF oka0) hx5 ?_
 refine sG ?_
 subst hc4
 refine IWp_cond_t eA rfl ?_
 refine wG ?_
 refine vO ?_
 obtain rfl := Option.some.inj h
 refine sG ?_
 exact retA (.refl hw) hK

/-! (*cardcase/pairs.Pairs).Drop -/

noncomputable def F32s2 (a1 : List UInt8) : Option Int :=
 (F42s2 ).bind fun (x4 : Bool) => some 1

theorem F32s2_ok {H : IHeap} {K : IEnd → IHeap → Prop} (a1 : List UInt8) {r : Int} (h : F32s2 a1 = some r) (hK : K (.ret (.v (.int .i64 r))) H) : ICalls prog 32 [.v (.pointer none), .v (str a1)] H K := by
 refine ICalls_iwp (N := 27) func32 (by kernel_rfl) rfl (by kernel_rfl) (by kernel_rfl) fun cb hcb hw hbd hnb => ?_
 clear hbd hnb
 subst hcb
 unfold F32s2 at h
 refine wG ?_
 refine IWp_seqF fun cb hc2 => ?_
 refine IWp_seqF fun cb hc3 => ?_
 refine vG ?_
 obtain ⟨x4, hx4, h⟩ := bind_some' h
 cases (show some true = some x4 from hx4)
 refine F42s2_ok  hx4 ?_
 refine sG ?_
 subst hc3
 refine IWp_cond_t eA rfl ?_
 refine wG ?_
 refine vO ?_
 obtain rfl := Option.some.inj h
 refine sG ?_
 exact retA (.refl hw) hK

/-! (*cardcase/pairs.Pairs).Promised -/

noncomputable def F26s3 (a0_1 : Option S33) : Option (S33 × Bool) :=
 (F42s3 a0_1).bind fun (x4 : Bool) => some (((⟨[], [], [], [[], [], [], [], [], [], [], []]⟩ : S33), false))

theorem F26s3_ok {H : IHeap} {K : IEnd → IHeap → Prop} (a0_1 : Option S33) (ka0 : Nat) (oka0 : H.obj ka0 = some (.cells ([.v (.map none), .v (.map none), optP (fun (x : S33) => .v (str x.fHref) :: .v (str x.fUuid) :: .sl 2 (x.fDn.map fun x => [.v (str x.fType), .v (str x.fValue)]) :: (x.fShadow.map fun x => .sl 1 (x.map fun x => [.v (str x)]))) a0_1]))) {r : S33 × Bool} (h : F26s3 a0_1 = some r) (hK : K (.ret (.tu [.ag (.v (str r.1.fHref) :: .v (str r.1.fUuid) :: .sl 2 (r.1.fDn.map fun x => [.v (str x.fType), .v (str x.fValue)]) :: (r.1.fShadow.map fun x => .sl 1 (x.map fun x => [.v (str x)]))), .v (.bool r.2)])) H) : ICalls prog 26 [.p ka0 0] H K := by
 refine ICalls_iwp (N := 21) func26 (by kernel_rfl) rfl (by kernel_rfl) (by kernel_rfl) fun cb hcb hw hbd hnb => ?_
 clear hbd hnb
 subst hcb
 unfold F26s3 at h
 have hka0 : ka0 < H.next := Nat.lt_of_not_le fun q => by rw [hw _ q] at oka0; cases oka0
 refine wG ?_
 refine IWp_seqF fun cb hc2 => ?_
 refine IWp_seqF fun cb hc3 => ?_
 refine vG ?_
 obtain ⟨x4, hx4, h⟩ := bind_some' h
 cases (show some true = some x4 from hx4)
 refine F42s3_ok a0_1 ka0 (eF oka0) hx4 ?_
 refine sG ?_
 subst hc3
 refine IWp_cond_t eA rfl ?_
 refine IWp_seqF fun cb hc5 => ?_
 refine v0 ?_
 simp -implicitDefEqProofs (disch := omega) [go_sem, bdP]
 subst hc5
 refine vO ?_
 obtain rfl := Option.some.inj h
 refine sG ?_
 refine retG_fzE (J := H) (r' := _) (Ext.endH (by exact extA (Ext.refl hw))) eA (.wk _ (.tu [.ag ([.v (str []), .v (str []), .sl 2 (([] : List S89).map fun x => [.v (str x.fType), .v (str x.fValue)]), .sl 1 ((([] : List (List UInt8))).map fun x => [.v (str x)]), .sl 1 ((([] : List (List UInt8))).map fun x => [.v (str x)]), .sl 1 ((([] : List (List UInt8))).map fun x => [.v (str x)]), .sl 1 ((([] : List (List UInt8))).map fun x => [.v (str x)]), .sl 1 ((([] : List (List UInt8))).map fun x => [.v (str x)]), .sl 1 ((([] : List (List UInt8))).map fun x => [.v (str x)]), .sl 1 ((([] : List (List UInt8))).map fun x => [.v (str x)]), .sl 1 ((([] : List (List UInt8))).map fun x => [.v (str x)])]), .v (.bool false)]) (by repeat (first | exact WkL.nil | refine WkL.cons ?_ ?_ | exact Wk.refl _ | exact Wk.nil _ | refine Wk.agL ?_ | refine Wk.tuL ?_)) (by exact nbA)) hK

/-! (*cardcase/pairs.Pairs).All -/

noncomputable def F14s3 (a0_1 : Option S33) : Option (List S39) :=
 (F42s3 a0_1).bind fun (x5 : Bool) => some ([] : List S39)

theorem F14s3_ok {H : IHeap} {K : IEnd → IHeap → Prop} (a0_1 : Option S33) (ka0 : Nat) (oka0 : H.obj ka0 = some (.cells ([.v (.map none), .v (.map none), optP (fun (x : S33) => .v (str x.fHref) :: .v (str x.fUuid) :: .sl 2 (x.fDn.map fun x => [.v (str x.fType), .v (str x.fValue)]) :: (x.fShadow.map fun x => .sl 1 (x.map fun x => [.v (str x)]))) a0_1]))) {r : (List S39)} (h : F14s3 a0_1 = some r) (hK : K (.ret (.fn (.func 46) [] [.cp [.sl 10 (r.map fun x => .v (str x.fHref) :: .v (str x.fUuid) :: (x.fShadow.map fun x => .sl 1 (x.map fun x => [.v (str x)])))]])) H) : ICalls prog 14 [.p ka0 0] H K := by
 refine ICalls_iwp (N := 34) func14 (by kernel_rfl) rfl (by kernel_rfl) (by kernel_rfl) fun cb hcb hw hbd hnb => ?_
 clear hbd hnb
 subst hcb
 unfold F14s3 at h
 have hka0 : ka0 < H.next := Nat.lt_of_not_le fun q => by rw [hw _ q] at oka0; cases oka0
 refine wG ?_
 refine wG ?_
 refine IWp_seqF fun cb hc3 => ?_
 refine IWp_seqF fun cb hc4 => ?_
 refine vG ?_
 obtain ⟨x5, hx5, h⟩ := bind_some' h
 cases (show some true = some x5 from hx5)
 refine F42s3_ok a0_1 ka0 (eF oka0) hx5 ?_
 refine sG ?_
 subst hc4
 refine IWp_cond_f eA rfl ?_
 refine vO ?_
 subst hc3
 refine wG ?_
 refine vO ?_
 obtain rfl := Option.some.inj h
 refine sG ?_
 refine retG_fzE (J := H) (r' := .fn (.func 46) [] [.cp [.sl 10 (([] : List S39).map fun x => .v (str x.fHref) :: .v (str x.fUuid) :: (x.fShadow.map fun x => .sl 1 (x.map fun x => [.v (str x)])))]]) (Ext.endH (by exact extA (Ext.refl hw))) rfl (Fz.clos1 (fz_ptrN (hw _ (by omega)) eA)) hK

end Go.Idl

namespace Go.Idl

set_option maxHeartbeats 8000000

set_option pp.deepTerms false

set_option maxRecDepth 60000

open Go Go.Proofs.Tryz

/-! (*cardcase/pairs.Pairs).Rows -/

noncomputable def F33s2_k9 (v13 : List S78) : Option (List S78) :=
 some v13

noncomputable def F33s2_b9 (el12 : Int × S39) (v10 : List S78) : Option ((List S78) ⊕ (List S78)) :=
 gd (el12.2.fShadow.length = 8) ((F61 el12.2.fShadow).bind fun (x18 : (List UInt8) × Int) => gd (((([112]) : List UInt8).length : Int) + el12.2.fHref.length ≤ 9223372036854775807) (gd ((el12.2.fUuid.length : Int) + (([10]) : List UInt8).length ≤ 9223372036854775807) (gd (((el12.2.fUuid ++ ([10])).length : Int) + x18.1.length ≤ 9223372036854775807) (gd ((v10.length + ([(⟨([112]) ++ el12.2.fHref, (el12.2.fUuid ++ ([10])) ++ x18.1⟩ : S78)]).length) * 32 ≤ 140737488355328) (some (.inl (v10 ++ ([(⟨([112]) ++ el12.2.fHref, (el12.2.fUuid ++ ([10])) ++ x18.1⟩ : S78)]))))))))

noncomputable def F33s2_k3 (a0_1 : Option S33) (v4 : List S78) : Option (List S78) :=
 (F14s3 a0_1).bind fun (x8 : (List S39)) => gd (∀ x, x ∈ x8 → bigC x.fShadow) ((rangeR (ρ := (List S78)) (fun (el12 : Int × S39) (s : (List S78)) => F33s2_b9 el12 s) (fun (s : (List S78)) => s) (enumI x8) v4).bind fun (e : (List S78)) => F33s2_k9 e)

noncomputable def F33s2 (a0_1 : Option S33) : Option (List S78) :=
 (F26s3 a0_1).bind fun (x28 : S33 × Bool) => gd (x28.1.fShadow.length = 8) (if x28.2 = true then ((F60 x28.1.fDn).bind fun (x33 : (List UInt8) × Int) => (F61 x28.1.fShadow).bind fun (x35 : (List UInt8) × Int) => (F62 ([x28.1.fHref, x28.1.fUuid, x33.1, x35.1]) ([10])).bind fun (x36 : (List UInt8)) => gd (([(⟨[105], x36⟩ : S78)]).length * 32 ≤ 140737488355328) (F33s2_k3 a0_1 ([(⟨[105], x36⟩ : S78)]))) else (F33s2_k3 a0_1 []))

theorem F33s2_ok {H : IHeap} {K : IEnd → IHeap → Prop} (a0_1 : Option S33) (ka0 : Nat) (oka0 : H.obj ka0 = some (.cells ([.v (.map none), .v (.map none), optP (fun (x : S33) => .v (str x.fHref) :: .v (str x.fUuid) :: .sl 2 (x.fDn.map fun x => [.v (str x.fType), .v (str x.fValue)]) :: (x.fShadow.map fun x => .sl 1 (x.map fun x => [.v (str x)]))) a0_1]))) (hV : TOK prog H) {r : (List S78)} (h : F33s2 a0_1 = some r) (hK : K (.ret (.sl 2 (r.map fun x => [.v (str x.fKey), .v (str x.fValue)]))) H) : ICalls prog 33 [.p ka0 0] H K := by
 refine ICalls_iwp (N := 67) func33 (by kernel_rfl) rfl (by kernel_rfl) (by kernel_rfl) fun cb hcb hw hbd hnb => ?_
 clear hbd hnb
 subst hcb
 unfold F33s2 at h
 have hka0 : ka0 < H.next := Nat.lt_of_not_le fun q => by rw [hw _ q] at oka0; cases oka0
 refine wG ?_
 refine wG ?_
 refine IWp_seqC (fun tm' H' => ∃ n5 : Nat, ∃ v4 : List S78, Ext H H' ∧ H.next + 1 ≤ H'.next ∧ H.next ≤ n5 ∧ n5 < H'.next ∧ ¬ ka0 = n5 ∧ ¬ H.next = n5 ∧ tm' 0 = .p ka0 0 ∧ tm' 3 = .p H.next 0 ∧ H'.obj ka0 = some (.cells ([.v (.map none), .v (.map none), optP (fun (x : S33) => .v (str x.fHref) :: .v (str x.fUuid) :: .sl 2 (x.fDn.map fun x => [.v (str x.fType), .v (str x.fValue)]) :: (x.fShadow.map fun x => .sl 1 (x.map fun x => [.v (str x)]))) a0_1])) ∧ H'.obj H.next = some (.cells ([.os n5 v4.length])) ∧ H'.obj n5 = some (.row 2 (v4.map fun x => [.v (str x.fKey), .v (str x.fValue)])) ∧ F33s2_k3 a0_1 v4 = some r) ?_ fun cb hc3 => ?_
 ·rintro tm3 H3 ⟨n5, v4, he3, hl3, hr0_3, hs0_3, hq38, hq39, t0_3, t3_3, ob0_3, ob1_3, or0_3, h⟩
  unfold F33s2_k3 at h
  refine IWp_seqF fun cb hc6 => ?_
  refine IWp_seqF fun cb hc7 => ?_
  refine vF t0_3 ?_
  obtain ⟨x8, hx8, h⟩ := bind_some' h
  refine F14s3_ok a0_1 ka0 (by assumption) hx8 ?_
  refine sG ?_
  subst hc7
  obtain ⟨gi9, h⟩ := gd_some.1 h
  obtain ⟨y9, hl9q, hk9⟩ := bind_some' h
  refine IWp_tailC (fun tm' H' => ∃ n14 : Nat, ∃ v13 : List S78, v13 = y9 ∧ Ext H H' ∧ H3.next ≤ H'.next ∧ H.next ≤ n14 ∧ n14 < H'.next ∧ ¬ ka0 = n14 ∧ ¬ H.next = n14 ∧ tm' 3 = .p H.next 0 ∧ H'.obj ka0 = some (.cells ([.v (.map none), .v (.map none), optP (fun (x : S33) => .v (str x.fHref) :: .v (str x.fUuid) :: .sl 2 (x.fDn.map fun x => [.v (str x.fType), .v (str x.fValue)]) :: (x.fShadow.map fun x => .sl 1 (x.map fun x => [.v (str x)]))) a0_1])) ∧ H'.obj H.next = some (.cells ([.os n14 v13.length])) ∧ H'.obj n14 = some (.row 2 (v13.map fun x => [.v (str x.fKey), .v (str x.fValue)]))) ?_ fun cb hc9 => ?_
  ·rintro tm9e H9e ⟨n14, v13, rfl, he9e, hl9e, hr0_9e, hs0_9e, hq23, hq24, t3_9e, ob0_9e, ob1_9e, or0_9e⟩
   have h : F33s2_k9 v13 = some r := hk9
   unfold F33s2_k9 at h
   simp -implicitDefEqProofs only [go_sem]
   subst hc6
   refine wF (nd t3_9e ob1_9e) ?_
   refine IWp.gh (Gh.freeze (d := 2) (k := n14) (sz := 2) (es := v13.map fun x => [.v (str x.fKey), .v (str x.fValue)]) (eF or0_9e) eA) ?_
   refine vO ?_
   obtain rfl := Option.some.inj h
   refine sG ?_
   refine retG_pureE (extA he9e) rfl nbA hK
  refine IWp_block ?_
  refine IWp_rangeF (gf := 46) (cap := [.cp [.sl 10 (x8.map fun x => .v (str x.fHref) :: .v (str x.fUuid) :: (x.fShadow.map fun x => .sl 1 (x.map fun x => [.v (str x)])))]]) (C := []) (enc := fun (el12 : Int × S39) => [.v (.int .i64 el12.1), .ag (.v (str el12.2.fHref) :: .v (str el12.2.fUuid) :: (el12.2.fShadow.map fun x => .sl 1 (x.map fun x => [.v (str x)])))]) (fun (s : (List S78)) _ H' => ∃ n11 : Nat, Ext H H' ∧ H3.next ≤ H'.next ∧ H.next ≤ n11 ∧ n11 < H'.next ∧ ¬ ka0 = n11 ∧ ¬ H.next = n11 ∧ H'.obj ka0 = some (.cells ([.v (.map none), .v (.map none), optP (fun (x : S33) => .v (str x.fHref) :: .v (str x.fUuid) :: .sl 2 (x.fDn.map fun x => [.v (str x.fType), .v (str x.fValue)]) :: (x.fShadow.map fun x => .sl 1 (x.map fun x => [.v (str x)]))) a0_1])) ∧ H'.obj H.next = some (.cells ([.os n11 s.length])) ∧ H'.obj n11 = some (.row 2 (s.map fun x => [.v (str x.fKey), .v (str x.fValue)]))) hl9q (by kernel_rfl) (by rfl) (all46 (x8) gi9) ?_ (fun _ _ _ _ hh => hh) (by intro _ _ _ _ p hp; cases hp) (fun _ => rfl) ?_ ?_
  ·exact ⟨n5, by exact extA he3, by omega, by with_reducible assumption, by with_reducible assumption, by with_reducible assumption, by with_reducible assumption, by with_reducible assumption, by with_reducible assumption, by with_reducible assumption⟩
  ·rintro I9 hI9 el12 v10 x9 H9 ⟨n11, he9, hl9, hr0_9, hs0_9, hq25, hq26, ob0_9, ob1_9, or0_9⟩ h hret9
   replace h : F33s2_b9 el12 v10 = some x9 := h
   unfold F33s2_b9 at h
   skip
   obtain ⟨g16, h⟩ := gd_some.1 h
   refine vF g16 ?_
   refine IWp_block ?_
   refine IWp_seqF fun cb hc17 => ?_
   refine vF g16 ?_
   obtain ⟨x18, hx18, h⟩ := bind_some' h
   refine F61_ok el12.2.fShadow (by exact hV.of (he9).sn) hx18 ?_
   refine sG ?_
   subst hc17
   obtain ⟨g19, h⟩ := gS h
   obtain ⟨g20, h⟩ := gS h
   obtain ⟨g21, h⟩ := gS h
   obtain ⟨g22, h⟩ := gS h
   refine v0 ?_
   simp -implicitDefEqProofs (disch := omega) [go_sem, bdP, t3_3, ob1_9, or0_9, g16]
   obtain rfl := Option.some.inj h
   refine loopN_mk hI9 (v10 ++ ([(⟨([112]) ++ el12.2.fHref, (el12.2.fUuid ++ ([10])) ++ x18.1⟩ : S78)])) ?_
   refine .same ⟨n11, by exact extA he9, by (simp -implicitDefEqProofs (disch := omega) [go_sem] <;> omega), by with_reducible assumption, by (simp -implicitDefEqProofs (disch := omega) [go_sem] <;> omega), by with_reducible assumption, by with_reducible assumption, ?_, ?_, ?_⟩ <;> (simp -implicitDefEqProofs (disch := omega) [go_sem, ob0_9] <;> omega)
  rintro v10 H9 ⟨n11, he9, hl9, hr0_9, hs0_9, hq25, hq26, ob0_9, ob1_9, or0_9⟩ hy9
  simp -implicitDefEqProofs only [go_sem]
  refine hc9 _ _ ?_
  refine .same ⟨n11, v10, hy9, by exact extA he9, by (simp -implicitDefEqProofs (disch := omega) [go_sem] <;> omega), by with_reducible assumption, by (simp -implicitDefEqProofs (disch := omega) [go_sem] <;> omega), by with_reducible assumption, by with_reducible assumption, ?_, ?_, ?_, ?_⟩ <;> (simp -implicitDefEqProofs (disch := omega) [go_sem, t3_3, ob0_9, ob1_9, or0_9] <;> omega)
 refine IWp_seqF fun cb hc27 => ?_
 refine vG ?_
 obtain ⟨x28, hx28, h⟩ := bind_some' h
 refine F26s3_ok a0_1 ka0 (eF oka0) hx28 ?_
 obtain ⟨g29, h⟩ := gd_some.1 h
 refine sF g29 ?_
 subst hc27
 refine wG ?_
 refine IWp_cond_i h eA rfl ?_ ?_
 ·intro c31 h
  refine IWp_seqF fun cb hc32 => ?_
  refine vF g29 ?_
  obtain ⟨x33, hx33, h⟩ := bind_some' h
  refine F60_ok x28.1.fDn hx33 ?_
  refine sG ?_
  subst hc32
  refine IWp_seqF fun cb hc34 => ?_
  refine vF g29 ?_
  obtain ⟨x35, hx35, h⟩ := bind_some' h
  refine F61_ok x28.1.fShadow (by exact hV.of rfl) hx35 ?_
  refine sG ?_
  subst hc34
  refine IWp_drawP [8] [0, 1, 2, 3, 4, 5, 6, 7, 8, 9, 10, 11, 12] (by kernel_rfl) (by kernel_rfl) (fun _ _ _ _ h => h) ?_
  simp -implicitDefEqProofs (disch := omega) [go_sem, bdP, g29]
  obtain ⟨x36, hx36, h⟩ := bind_some' h
  refine PureC.mk _ (fun _ _ hK => ICalls.eqA eA (F62_ok ([x28.1.fHref, x28.1.fUuid, x33.1, x35.1]) ([10]) hx36 hK)) ?_
  obtain ⟨g37, h⟩ := gS h
  refine sF g29 ?_
  refine hc3 _ _ ?_
  refine .same ⟨H.next + 2, ([(⟨[105], x36⟩ : S78)]), by exact extA (Ext.refl hw), by (simp -implicitDefEqProofs (disch := omega) [go_sem] <;> omega), by omega, by (simp -implicitDefEqProofs (disch := omega) [go_sem] <;> omega), by omega, by omega, ?_, ?_, ?_, ?_, ?_, h⟩ <;> (simp -implicitDefEqProofs (disch := omega) [go_sem, oka0] <;> omega)
 intro c31 h
 simp (disch := omega) at c31
 refine vO ?_
 refine hc3 _ _ ?_
 refine UpI.gh (Gh.nilrowBox (kb := H.next) (sz := 2) (cs := [.v (.slice none 0 0)]) (cs' := [.os (H.next + 2) 0]) (by omega) eA (NzL.row NzL.nil)) ?_
 refine .same ⟨H.next + 2, [], by exact extA (Ext.refl hw), by (simp -implicitDefEqProofs (disch := omega) [go_sem] <;> omega), by omega, by (simp -implicitDefEqProofs (disch := omega) [go_sem] <;> omega), by omega, by omega, ?_, ?_, ?_, ?_, ?_, h⟩ <;> (simp -implicitDefEqProofs (disch := omega) [go_sem, oka0] <;> omega)

/-! (*cardcase/pairs.Pairs).Len -/

noncomputable def F34s2  : Option Int :=
 (F42s2 ).bind fun (x4 : Bool) => some 0

theorem F34s2_ok {H : IHeap} {K : IEnd → IHeap → Prop}  {r : Int} (h : F34s2  = some r) (hK : K (.ret (.v (.int .i64 r))) H) : ICalls prog 34 [.v (.pointer none)] H K := by
 refine ICalls_iwp (N := 11) func34 (by kernel_rfl) rfl (by kernel_rfl) (by kernel_rfl) fun cb hcb hw hbd hnb => ?_
 clear hbd hnb
 subst hcb
 unfold F34s2 at h
 refine wG ?_
 refine IWp_seqF fun cb hc2 => ?_
 refine IWp_seqF fun cb hc3 => ?_
 refine vG ?_
 obtain ⟨x4, hx4, h⟩ := bind_some' h
 cases (show some true = some x4 from hx4)
 refine F42s2_ok  hx4 ?_
 refine sG ?_
 subst hc3
 refine IWp_cond_t eA rfl ?_
 refine wG ?_
 refine vO ?_
 obtain rfl := Option.some.inj h
 refine sG ?_
 exact retA (.refl hw) hK

/-! (*cardcase/pairs.Pairs).Copy -/

noncomputable def F22s2 (a0_1 : Option S33) : Option Unit :=
 (F42s3 a0_1).bind fun (x4 : Bool) => some ()

theorem F22s2_ok {H : IHeap} {K : IEnd → IHeap → Prop} (a0_1 : Option S33) (ka0 : Nat) (oka0 : H.obj ka0 = some (.cells ([.v (.map none), .v (.map none), optP (fun (x : S33) => .v (str x.fHref) :: .v (str x.fUuid) :: .sl 2 (x.fDn.map fun x => [.v (str x.fType), .v (str x.fValue)]) :: (x.fShadow.map fun x => .sl 1 (x.map fun x => [.v (str x)]))) a0_1]))) {r : Unit} (h : F22s2 a0_1 = some r) (hK : K (.ret (.v (.pointer none))) H) : ICalls prog 22 [.p ka0 0] H K := by
 refine ICalls_iwp (N := 31) func22 (by kernel_rfl) rfl (by kernel_rfl) (by kernel_rfl) fun cb hcb hw hbd hnb => ?_
 clear hbd hnb
 subst hcb
 unfold F22s2 at h
 have hka0 : ka0 < H.next := Nat.lt_of_not_le fun q => by rw [hw _ q] at oka0; cases oka0
 refine wG ?_
 refine IWp_seqF fun cb hc2 => ?_
 refine IWp_seqF fun cb hc3 => ?_
 refine vG ?_
 obtain ⟨x4, hx4, h⟩ := bind_some' h
 cases (show some true = some x4 from hx4)
 refine F42s3_ok a0_1 ka0 (by assumption) hx4 ?_
 refine sG ?_
 subst hc3
 refine IWp_cond_t eA rfl ?_
 refine wG ?_
 refine vO ?_
 obtain rfl := Option.some.inj h
 refine sG ?_
 exact retG_pure (by exact extA (Ext.refl hw)) (.v _) hK

/-! cardcase/pairs.Same -/

noncomputable def F23s2 (a1_1 : Option S33) : Option Bool :=
 (F42s2 ).bind fun (x4 : Bool) => (F42s2 ).bind fun (x6 : Bool) => (F42s3 a1_1).bind fun (x7 : Bool) => some true

theorem F23s2_ok {H : IHeap} {K : IEnd → IHeap → Prop} (a1_1 : Option S33) (ka1 : Nat) (oka1 : H.obj ka1 = some (.cells ([.v (.map none), .v (.map none), optP (fun (x : S33) => .v (str x.fHref) :: .v (str x.fUuid) :: .sl 2 (x.fDn.map fun x => [.v (str x.fType), .v (str x.fValue)]) :: (x.fShadow.map fun x => .sl 1 (x.map fun x => [.v (str x)]))) a1_1]))) {r : Bool} (h : F23s2 a1_1 = some r) (hK : K (.ret (.v (.bool r))) H) : ICalls prog 23 [.v (.pointer none), .p ka1 0] H K := by
 refine ICalls_iwp (N := 22) func23 (by kernel_rfl) rfl (by kernel_rfl) (by kernel_rfl) fun cb hcb hw hbd hnb => ?_
 clear hbd hnb
 subst hcb
 unfold F23s2 at h
 have hka1 : ka1 < H.next := Nat.lt_of_not_le fun q => by rw [hw _ q] at oka1; cases oka1
 refine wG ?_
 refine IWp_seqF fun cb hc2 => ?_
 refine IWp_seqF fun cb hc3 => ?_
 refine vG ?_
 obtain ⟨x4, hx4, h⟩ := bind_some' h
 cases (show some true = some x4 from hx4)
 refine F42s2_ok  hx4 ?_
 refine sG ?_
 subst hc3
 refine IWp_cond_t eA rfl ?_
 refine IWp_seqF fun cb hc5 => ?_
 refine vG ?_
 obtain ⟨x6, hx6, h⟩ := bind_some' h
 cases (show some true = some x6 from hx6)
 refine F42s2_ok  hx6 ?_
 refine sG ?_
 obtain ⟨x7, hx7, h⟩ := bind_some' h
 cases (show some true = some x7 from hx7)
 refine F42s3_ok a1_1 ka1 (by assumption) hx7 ?_
 refine sG ?_
 subst hc5
 refine vO ?_
 obtain rfl := Option.some.inj h
 refine sG ?_
 exact retA (.refl hw) hK

/-! cardcase/pairs.Same -/

noncomputable def F23s3 (a1_0_0 : List (List UInt8 × S39)) (a1_0_1 : List (List UInt8 × (List UInt8))) (a1_1 : Option S33) : Option Bool :=
 (F42s2 ).bind fun (x4 : Bool) => (F42s2 ).bind fun (x6 : Bool) => (F42 a1_0_0 a1_0_1 a1_1).bind fun (x7 : Bool) => some false

theorem F23s3_ok {H : IHeap} {K : IEnd → IHeap → Prop} (a1_0_0 : List (List UInt8 × S39)) (a1_0_1 : List (List UInt8 × (List UInt8))) (a1_1 : Option S33) (ka1 : Nat) (ka1_0_0 : Nat) (ka1_0_1 : Nat) (oka1 : H.obj ka1 = some (.cells ([.mp ka1_0_0, .mp ka1_0_1, optP (fun (x : S33) => .v (str x.fHref) :: .v (str x.fUuid) :: .sl 2 (x.fDn.map fun x => [.v (str x.fType), .v (str x.fValue)]) :: (x.fShadow.map fun x => .sl 1 (x.map fun x => [.v (str x)]))) a1_1]))) (oka1_0_0 : H.obj ka1_0_0 = some (.map (mE (fun (x : S39) => .ag (.v (str x.fHref) :: .v (str x.fUuid) :: (x.fShadow.map fun x => .sl 1 (x.map fun x => [.v (str x)])))) a1_0_0))) (oka1_0_1 : H.obj ka1_0_1 = some (.map (mE (fun (x : List UInt8) => .v (str x)) a1_0_1))) {r : Bool} (h : F23s3 a1_0_0 a1_0_1 a1_1 = some r) (hK : K (.ret (.v (.bool r))) H) : ICalls prog 23 [.v (.pointer none), .p ka1 0] H K := by
 refine ICalls_iwp (N := 22) func23 (by kernel_rfl) rfl (by kernel_rfl) (by kernel_rfl) fun cb hcb hw hbd hnb => ?_
 clear hbd hnb
 subst hcb
 unfold F23s3 at h
 have hka1 : ka1 < H.next := Nat.lt_of_not_le fun q => by rw [hw _ q] at oka1; cases oka1
 have hka1_0_0 : ka1_0_0 < H.next := Nat.lt_of_not_le fun q => by rw [hw _ q] at oka1_0_0; cases oka1_0_0
 have hka1_0_1 : ka1_0_1 < H.next := Nat.lt_of_not_le fun q => by rw [hw _ q] at oka1_0_1; cases oka1_0_1
 refine wG ?_
 refine IWp_seqF fun cb hc2 => ?_
 refine IWp_seqF fun cb hc3 => ?_
 refine vG ?_
 obtain ⟨x4, hx4, h⟩ := bind_some' h
 cases (show some true = some x4 from hx4)
 refine F42s2_ok  hx4 ?_
 refine sG ?_
 subst hc3
 refine IWp_cond_t eA rfl ?_
 refine IWp_seqF fun cb hc5 => ?_
 refine vG ?_
 obtain ⟨x6, hx6, h⟩ := bind_some' h
 cases (show some true = some x6 from hx6)
 refine F42s2_ok  hx6 ?_
 refine sG ?_
 obtain ⟨x7, hx7, h⟩ := bind_some' h
 cases (show some false = some x7 from hx7)
 refine F42_ok a1_0_0 a1_0_1 a1_1 ka1 ka1_0_0 ka1_0_1 (by assumption) (by assumption) (by assumption) hx7 ?_
 refine sG ?_
 subst hc5
 refine vO ?_
 obtain rfl := Option.some.inj h
 refine sG ?_
 exact retA (.refl hw) hK

/-! cardcase/cardcaselaw20.PairsNil -/

noncomputable def F6_k24 (a0 : List UInt8) (x10 : S39 × Bool) (x13 : S39 × Bool) (x16 : S33 × Bool) (v27 : Bool) : Option Bool :=
 if ¬ (x10.2 = true) then (if ¬ (x13.2 = true) then (if ¬ (x16.2 = true) then ((F27s2 (⟨[], [], [], [[], [], [], [], [], [], [], []]⟩ : S33)).bind fun (x29 : Int) => if x29 = 1 then ((F28s2 none).bind fun (x30 : Int) => if x30 = 1 then ((F29s2 (⟨a0, [], [[], [], [], [], [], [], [], []]⟩ : S39)).bind fun (x31 : Int) => if x31 = 1 then ((F31 ).bind fun (x32 : (List (List (List UInt8)))) => (F30s2 none a0 x32).bind fun (x33 : Int) => if x33 = 1 then ((F32s2 a0).bind fun (x34 : Int) => if x34 = 1 then ((F33s2 none).bind fun (x35 : (List S78)) => if (x35.length : Int) = 0 then ((F34s2 ).bind fun (x36 : Int) => if x36 = 0 then ((F22s2 none).bind fun (x37 : Unit) => (F23s2 none).bind fun (x38 : Bool) => if x38 = true then ((F12 ).bind fun (x39 : (List (List UInt8 × S39)) × (List (List UInt8 × (List UInt8))) × (Option S33)) => (F23s3 x39.1 x39.2.1 x39.2.2).bind fun (x40 : Bool) => if ¬ (x40 = true) then ((F11 ).bind fun (x41 : Bool) => some x41) else (some false)) else (some false)) else (some false)) else (some false)) else (some false)) else (some false)) else (some false)) else (some false)) else (some false)) else (some false)) else (some false)) else (some false)

noncomputable def F6_b24 (el26 : Int × S39) (v25 : Bool) : Option (Bool ⊕ (Bool ⊕ Bool)) :=
 some (.inr (.inr false))

noncomputable def F6 (a0 : List UInt8) : Option Bool :=
 if 200 < (a0.length : Int) then ((F11 ).bind fun (x6 : Bool) => some x6) else ((F21s2 a0).bind fun (x10 : S39 × Bool) => gd (x10.1.fShadow.length = 8) ((F18s2 none a0).bind fun (x13 : S39 × Bool) => gd (x13.1.fShadow.length = 8) ((F26s2 ).bind fun (x16 : S33 × Bool) => gd (x16.1.fShadow.length = 8) ((F14s2 ).bind fun (x19 : (List S39)) => gd (∀ x, x ∈ x19 → bigC x.fShadow) ((rangeR (ρ := Bool ⊕ Bool) (fun (el26 : Int × S39) (s : Bool) => F6_b24 el26 s) (fun (s : Bool) => .inl s) (enumI x19) false).bind fun y => Sum.elim (fun (e : Bool) => F6_k24 a0 x10 x13 x16 e) (fun (q : Bool) => some q) y)))))

theorem F6_ok {H : IHeap} {K : IEnd → IHeap → Prop} (a0 : List UInt8) (hV : TOK prog H) {r : Bool} (h : F6 a0 = some r) (hK : K (.ret (.v (.bool r))) H) : ICalls prog 6 [.v (str a0)] H K := by
 refine ICalls_iwp (N := 113) func6 (by kernel_rfl) rfl (by kernel_rfl) (by kernel_rfl) fun cb hcb hw hbd hnb => ?_
 clear hbd hnb
 subst hcb
 unfold F6 at h
 refine wG ?_
 refine IWp_seqF fun cb hc2 => ?_
 refine wG ?_
 refine IWp_cond_i h eA rfl ?_ ?_
 ·intro c4 h
  refine IWp_seqF fun cb hc5 => ?_
  refine vG ?_
  obtain ⟨x6, hx6, h⟩ := bind_some' h
  refine F11_ok  (by exact hV.of rfl) hx6 ?_
  refine sG ?_
  subst hc5
  refine vO ?_
  obtain rfl := Option.some.inj h
  refine sG ?_
  exact retA (.refl hw) hK
 intro c4 h
 simp (disch := omega) at c4
 refine vO ?_
 subst hc2
 refine wG ?_
 refine IWp_seqF fun cb hc8 => ?_
 refine v0 ?_
 simp -implicitDefEqProofs (disch := omega) [go_sem, bdP]
 subst hc8
 refine IWp_seqF fun cb hc9 => ?_
 refine vG ?_
 obtain ⟨x10, hx10, h⟩ := bind_some' h
 refine F21s2_ok a0 hx10 ?_
 obtain ⟨g11, h⟩ := gd_some.1 h
 refine sF g11 ?_
 subst hc9
 refine IWp_seqF fun cb hc12 => ?_
 refine vG ?_
 obtain ⟨x13, hx13, h⟩ := bind_some' h
 refine F18s2_ok none a0 (H.next + 1) eA hx13 ?_
 obtain ⟨g14, h⟩ := gd_some.1 h
 refine sF g14 ?_
 subst hc12
 refine IWp_seqF fun cb hc15 => ?_
 refine vG ?_
 obtain ⟨x16, hx16, h⟩ := bind_some' h
 refine F26s2_ok  hx16 ?_
 obtain ⟨g17, h⟩ := gd_some.1 h
 refine sF g17 ?_
 subst hc15
 refine IWp_seqF fun cb hc18 => ?_
 refine vG ?_
 obtain ⟨x19, hx19, h⟩ := bind_some' h
 refine F14s2_ok  hx19 ?_
 refine sG ?_
 subst hc18
 refine IWp_seqF fun cb hc20 => ?_
 refine wG ?_
 refine IWp_cond_f eA rfl ?_
 refine vO ?_
 subst hc20
 refine IWp_seqF fun cb hc22 => ?_
 refine wG ?_
 obtain ⟨gi24, h⟩ := gd_some.1 h
 obtain ⟨y24, hl24q, hk24⟩ := bind_some' h
 refine IWp_tailC (fun tm' H' => ∃ v27 : Bool, .inl v27 = y24 ∧ Ext H H' ∧ H.next + 5 ≤ H'.next ∧ tm' 0 = .v (str a0) ∧ tm' 2 = .p H.next 0 ∧ tm' 3 = .v (.pointer none) ∧ tm' 4 = .p (H.next + 1) 0 ∧ tm' 6 = .v (.bool x10.2) ∧ tm' 8 = .v (.bool x13.2) ∧ tm' 10 = .v (.bool x16.2) ∧ H'.obj H.next = some (.cells ([.v (.bool v27)])) ∧ H'.obj (H.next + 1) = some (.cells ([.v (.map none), .v (.map none), optP (fun (x : S33) => .v (str x.fHref) :: .v (str x.fUuid) :: .sl 2 (x.fDn.map fun x => [.v (str x.fType), .v (str x.fValue)]) :: (x.fShadow.map fun x => .sl 1 (x.map fun x => [.v (str x)]))) none])) ∧ H'.obj (H.next + 2) = some (.cells (.v (str x10.1.fHref) :: .v (str x10.1.fUuid) :: (x10.1.fShadow.map fun x => .sl 1 (x.map fun x => [.v (str x)])))) ∧ H'.obj (H.next + 3) = some (.cells (.v (str x13.1.fHref) :: .v (str x13.1.fUuid) :: (x13.1.fShadow.map fun x => .sl 1 (x.map fun x => [.v (str x)])))) ∧ H'.obj (H.next + 4) = some (.cells (.v (str x16.1.fHref) :: .v (str x16.1.fUuid) :: .sl 2 (x16.1.fDn.map fun x => [.v (str x.fType), .v (str x.fValue)]) :: (x16.1.fShadow.map fun x => .sl 1 (x.map fun x => [.v (str x)]))))) ?_ fun cb hc24 => ?_
 ·rintro tm24e H24e ⟨v27, rfl, he24e, hl24e, t0_24e, t2_24e, t3_24e, t4_24e, t6_24e, t8_24e, t10_24e, ob0_24e, ob1_24e, ob2_24e, ob3_24e, ob4_24e⟩
  have h : F6_k24 a0 x10 x13 x16 v27 = some r := hk24
  unfold F6_k24 at h
  simp -implicitDefEqProofs only [go_sem]
  subst hc22
  refine IWp_seqF fun cb hc28 => ?_
  refine vF t6_24e ?_
  refine splitG_f h eA ?_ ?_
  ·intro c53 h
   simp (disch := omega) at c53
   refine sF t8_24e ?_
   refine splitG_f h eA ?_ ?_
   ·intro c52 h
    simp (disch := omega) at c52
    refine sF t10_24e ?_
    refine splitG_f h eA ?_ ?_
    ·intro c51 h
     simp (disch := omega) at c51
     simp -implicitDefEqProofs (disch := omega) [go_sem, bdP, t3_24e]
     obtain ⟨x29, hx29, h⟩ := bind_some' h
     refine ICalls.wkL (args' := [.v (.pointer none), .ag (.v (str ((⟨[], [], [], [[], [], [], [], [], [], [], []]⟩ : S33).fHref)) :: .v (str ((⟨[], [], [], [[], [], [], [], [], [], [], []]⟩ : S33).fUuid)) :: .sl 2 (((⟨[], [], [], [[], [], [], [], [], [], [], []]⟩ : S33).fDn).map fun x => [.v (str x.fType), .v (str x.fValue)]) :: (((⟨[], [], [], [[], [], [], [], [], [], [], []]⟩ : S33).fShadow).map fun x => .sl 1 (x.map fun x => [.v (str x)])))]) (by repeat (first | exact WkL.nil | refine WkL.cons ?_ ?_ | exact Wk.refl _ | exact Wk.nil _ | refine Wk.agL ?_)) (F27s2_ok (⟨[], [], [], [[], [], [], [], [], [], [], []]⟩ : S33) hx29 ?_)
     refine sG ?_
     refine splitG_f h rfl ?_ ?_
     ·intro c50 h
      refine sF t4_24e ?_
      obtain ⟨x30, hx30, h⟩ := bind_some' h
      refine F28s2_ok none (H.next + 1) (by assumption) hx30 ?_
      refine sG ?_
      refine splitG_f h rfl ?_ ?_
      ·intro c49 h
       simp -implicitDefEqProofs (disch := omega) [go_sem, bdP, t0_24e, t3_24e]
       obtain ⟨x31, hx31, h⟩ := bind_some' h
       refine ICalls.wkL (args' := [.v (.pointer none), .ag (.v (str ((⟨a0, [], [[], [], [], [], [], [], [], []]⟩ : S39).fHref)) :: .v (str ((⟨a0, [], [[], [], [], [], [], [], [], []]⟩ : S39).fUuid)) :: (((⟨a0, [], [[], [], [], [], [], [], [], []]⟩ : S39).fShadow).map fun x => .sl 1 (x.map fun x => [.v (str x)])))]) (by repeat (first | exact WkL.nil | refine WkL.cons ?_ ?_ | exact Wk.refl _ | exact Wk.nil _ | refine Wk.agL ?_)) (F29s2_ok (⟨a0, [], [[], [], [], [], [], [], [], []]⟩ : S39) hx31 ?_)
       refine sG ?_
       refine splitG_f h rfl ?_ ?_
       ·intro c48 h
        refine sF (nd t0_24e t4_24e) ?_
        obtain ⟨x32, hx32, h⟩ := bind_some' h
        refine F31_ok  hx32 ?_
        refine sG ?_
        obtain ⟨x33, hx33, h⟩ := bind_some' h
        refine F30s2_ok none a0 x32 (H.next + 1) (by assumption) hx33 ?_
        refine sG ?_
        refine splitG_f h rfl ?_ ?_
        ·intro c47 h
         refine sF (nd t0_24e t3_24e) ?_
         obtain ⟨x34, hx34, h⟩ := bind_some' h
         refine F32s2_ok a0 hx34 ?_
         refine sG ?_
         refine splitG_f h rfl ?_ ?_
         ·intro c46 h
          refine sF t4_24e ?_
          obtain ⟨x35, hx35, h⟩ := bind_some' h
          refine F33s2_ok none (H.next + 1) (by assumption) (by exact hV.of (he24e).sn) hx35 ?_
          refine sG ?_
          refine splitG_f h eA ?_ ?_
          ·intro c45 h
           simp (disch := omega) at c45
           refine sF t3_24e ?_
           obtain ⟨x36, hx36, h⟩ := bind_some' h
           refine F34s2_ok  hx36 ?_
           refine sG ?_
           refine splitG_f h rfl ?_ ?_
           ·intro c44 h
            refine sF t4_24e ?_
            obtain ⟨x37, hx37, h⟩ := bind_some' h
            refine F22s2_ok none (H.next + 1) (by assumption) hx37 ?_
            refine sF (nd t3_24e t4_24e) ?_
            obtain ⟨x38, hx38, h⟩ := bind_some' h
            refine F23s2_ok none (H.next + 1) (by assumption) hx38 ?_
            refine sG ?_
            refine splitG_f h eA ?_ ?_
            ·intro c43 h
             refine sF t3_24e ?_
             obtain ⟨x39, hx39, h⟩ := bind_some' h
             refine F12_ok  hx39 ?_
             refine sG ?_
             obtain ⟨x40, hx40, h⟩ := bind_some' h
             refine F23s3_ok x39.1 x39.2.1 x39.2.2 H24e.next (H24e.next + 1) (H24e.next + 2) eA eA eA hx40 ?_
             refine sG ?_
             refine splitG_f h eA ?_ ?_
             ·intro c42 h
              simp (disch := omega) at c42
              refine sG ?_
              obtain ⟨x41, hx41, h⟩ := bind_some' h
              refine F11_ok  (by exact hV.of (he24e).sn) hx41 ?_
              refine sF (nd t2_24e ob0_24e) ?_
              subst hc28
              refine vO ?_
              obtain rfl := Option.some.inj h
              refine sF t2_24e ?_
              refine retG_pureE (extA he24e) rfl nbA hK
             intro c42 h
             simp (disch := omega) at c42
             refine sF (nd t2_24e ob0_24e) ?_
             subst hc28
             refine vO ?_
             obtain rfl := Option.some.inj h
             refine sF t2_24e ?_
             refine retG_pureE (extA he24e) rfl nbA hK
            intro c43 h
            simp (disch := omega) at c43
            refine sF (nd t2_24e ob0_24e) ?_
            subst hc28
            refine vO ?_
            obtain rfl := Option.some.inj h
            refine sF t2_24e ?_
            refine retG_pureE (extA he24e) rfl nbA hK
           intro c44 h
           refine sF (nd t2_24e ob0_24e) ?_
           subst hc28
           refine vO ?_
           obtain rfl := Option.some.inj h
           refine sF t2_24e ?_
           refine retG_pureE (extA he24e) rfl nbA hK
          intro c45 h
          simp (disch := omega) at c45
          refine sF (nd t2_24e ob0_24e) ?_
          subst hc28
          refine vO ?_
          obtain rfl := Option.some.inj h
          refine sF t2_24e ?_
          refine retG_pureE (extA he24e) rfl nbA hK
         intro c46 h
         refine sF (nd t2_24e ob0_24e) ?_
         subst hc28
         refine vO ?_
         obtain rfl := Option.some.inj h
         refine sF t2_24e ?_
         refine retG_pureE (extA he24e) rfl nbA hK
        intro c47 h
        refine sF (nd t2_24e ob0_24e) ?_
        subst hc28
        refine vO ?_
        obtain rfl := Option.some.inj h
        refine sF t2_24e ?_
        refine retG_pureE (extA he24e) rfl nbA hK
       intro c48 h
       refine sF (nd t2_24e ob0_24e) ?_
       subst hc28
       refine vO ?_
       obtain rfl := Option.some.inj h
       refine sF t2_24e ?_
       refine retG_pureE (extA he24e) rfl nbA hK
      intro c49 h
      refine sF (nd t2_24e ob0_24e) ?_
      subst hc28
      refine vO ?_
      obtain rfl := Option.some.inj h
      refine sF t2_24e ?_
      refine retG_pureE (extA he24e) rfl nbA hK
     intro c50 h
     refine sF (nd t2_24e ob0_24e) ?_
     subst hc28
     refine vO ?_
     obtain rfl := Option.some.inj h
     refine sF t2_24e ?_
     refine retG_pureE (extA he24e) rfl nbA hK
    intro c51 h
    simp (disch := omega) at c51
    refine sF (nd t2_24e ob0_24e) ?_
    subst hc28
    refine vO ?_
    obtain rfl := Option.some.inj h
    refine sF t2_24e ?_
    refine retG_pureE (extA he24e) rfl nbA hK
   intro c52 h
   simp (disch := omega) at c52
   refine sF (nd t2_24e ob0_24e) ?_
   subst hc28
   refine vO ?_
   obtain rfl := Option.some.inj h
   refine sF t2_24e ?_
   refine retG_pureE (extA he24e) rfl nbA hK
  intro c53 h
  simp (disch := omega) at c53
  refine sF (nd t2_24e ob0_24e) ?_
  subst hc28
  refine vO ?_
  obtain rfl := Option.some.inj h
  refine sF t2_24e ?_
  refine retG_pureE (extA he24e) rfl nbA hK
 refine IWp_block ?_
 refine IWp_rangeF (gf := 46) (cap := [.cp [.sl 10 (x19.map fun x => .v (str x.fHref) :: .v (str x.fUuid) :: (x.fShadow.map fun x => .sl 1 (x.map fun x => [.v (str x)])))]]) (C := []) (enc := fun (el26 : Int × S39) => [.v (.int .i64 el26.1), .ag (.v (str el26.2.fHref) :: .v (str el26.2.fUuid) :: (el26.2.fShadow.map fun x => .sl 1 (x.map fun x => [.v (str x)])))]) (fun (s : Bool) _ H' => Ext H H' ∧ H.next + 5 ≤ H'.next ∧ H'.obj H.next = some (.cells ([.v (.bool s)])) ∧ H'.obj (H.next + 1) = some (.cells ([.v (.map none), .v (.map none), optP (fun (x : S33) => .v (str x.fHref) :: .v (str x.fUuid) :: .sl 2 (x.fDn.map fun x => [.v (str x.fType), .v (str x.fValue)]) :: (x.fShadow.map fun x => .sl 1 (x.map fun x => [.v (str x)]))) none])) ∧ H'.obj (H.next + 2) = some (.cells (.v (str x10.1.fHref) :: .v (str x10.1.fUuid) :: (x10.1.fShadow.map fun x => .sl 1 (x.map fun x => [.v (str x)])))) ∧ H'.obj (H.next + 3) = some (.cells (.v (str x13.1.fHref) :: .v (str x13.1.fUuid) :: (x13.1.fShadow.map fun x => .sl 1 (x.map fun x => [.v (str x)])))) ∧ H'.obj (H.next + 4) = some (.cells (.v (str x16.1.fHref) :: .v (str x16.1.fUuid) :: .sl 2 (x16.1.fDn.map fun x => [.v (str x.fType), .v (str x.fValue)]) :: (x16.1.fShadow.map fun x => .sl 1 (x.map fun x => [.v (str x)]))))) hl24q (by kernel_rfl) (by rfl) (all46 (x19) gi24) ?_ (fun _ _ _ _ hh => hh) (by intro _ _ _ _ p hp; cases hp) (fun _ => rfl) ?_ ?_
 ·exact ⟨by exact extA (Ext.refl hw), by (simp -implicitDefEqProofs (disch := omega) [go_sem] <;> omega), by (simp -implicitDefEqProofs (disch := omega) [go_sem] <;> omega), by (simp -implicitDefEqProofs (disch := omega) [go_sem] <;> omega), by (simp -implicitDefEqProofs (disch := omega) [go_sem] <;> omega), by (simp -implicitDefEqProofs (disch := omega) [go_sem] <;> omega), by (simp -implicitDefEqProofs (disch := omega) [go_sem] <;> omega)⟩
 ·rintro I24 hI24 el26 v25 x24 H24 ⟨he24, hl24, ob0_24, ob1_24, ob2_24, ob3_24, ob4_24⟩ h hret24
  replace h : F6_b24 el26 v25 = some x24 := h
  unfold F6_b24 at h
  skip
  refine vO ?_
  refine IWp_block ?_
  refine wF ob0_24 ?_
  refine vO ?_
  obtain rfl := Option.some.inj h
  obtain rfl := hret24 _ rfl
  replace h : some false = some r := hk24
  obtain rfl := Option.some.inj h
  refine sG ?_
  refine retG_pureE (extA he24) rfl nbA hK
 rintro v25 H24 ⟨he24, hl24, ob0_24, ob1_24, ob2_24, ob3_24, ob4_24⟩ hy24
 simp -implicitDefEqProofs only [go_sem]
 refine hc24 _ _ ?_
 refine .same ⟨v25, hy24, by exact extA he24, by (simp -implicitDefEqProofs (disch := omega) [go_sem] <;> omega), ?_, ?_, ?_, ?_, ?_, ?_, ?_, ?_, ?_, ?_, ?_, ?_⟩ <;> (simp -implicitDefEqProofs (disch := omega) [go_sem, ob0_24, ob1_24, ob2_24, ob3_24, ob4_24] <;> omega)

end Go.Idl

namespace Go.Idl

open Go

variable {m : Mp} {n : Np} {pr : Option S33} {d : S35}

/-! ### The pair that is known -/

def annE : List (List Str) := [[[65, 110, 110]], [], [], [], [], [], [], []]

def oneE : S39 := ⟨[47, 98, 111, 111, 107, 47, 97], [117, 49], annE⟩

def twoE : S39 := ⟨[47, 98, 111, 111, 107, 47, 98], [117, 49], annE⟩

theorem bigE : bigC annE := by decide

theorem okE1 : okX oneE := ⟨by decide, by decide, bigE⟩

theorem okE2 : okX twoE := ⟨by decide, by decide, bigE⟩

theorem checkE : checkS annE = true := by decide

theorem add1 : addD [] oneE = ([oneE], 0) := by
  have h : goodB oneE = true := by decide
  unfold addD
  rw [if_pos h]
  rfl

theorem add2 : addD [oneE] twoE = ([oneE], 300) := by
  have h : goodB twoE = true := by decide
  have e1 : cardI [oneE] twoE.fHref = -1 := by decide
  have e2 : entI [oneE] twoE.fUuid = 0 := by decide
  unfold addD
  rw [if_pos h, e1, e2]
  rfl

theorem textE : textS annE = [102, 117, 108, 108, 32, 49, 10, 51, 32, 65, 110, 110, 10] := by
  have d1 : Lib.decDigits 1 = [49] := by unfold Lib.decDigits; rfl
  have d3 : Lib.decDigits 3 = [51] := by unfold Lib.decDigits; rfl
  have e : textS annE = (namesS.getD 0 [] ++ 32 :: Lib.decDigits 1 ++ [10]) ++ (Lib.decDigits 3 ++ 32 :: [65, 110, 110] ++ [10]) := by
    simp [textS, fieldT, annE]
  rw [e, d1, d3]
  rfl

theorem F11_eq : F11 = some true := by
  obtain ⟨m1, n1, e1, I1⟩ := F29_inv Inv.nil oneE okE1
  rw [show (⟨[], S33.zero⟩ : S35).fL = [] from rfl, add1] at e1 I1
  obtain ⟨m2, n2, e2, I2⟩ := F29_inv I1 twoE okE2
  rw [show (⟨[oneE], S33.zero⟩ : S35).fL = [oneE] from rfl, add2] at e2 I2
  have h31 : F31 = some annE := rfl
  have h8 : annE.length = 8 := rfl
  have g1 : mget n2 [117, 49] = some oneE.fHref := I2.tabs.getU (x := oneE) (by simp)
  have g2 : mget m2 oneE.fHref = some oneE := I2.tabs.get (x := oneE) (by simp)
  have h18 : F18 m2 n2 none [117, 49] = some (oneE, true) := by
    rw [F18_eq I2, g1]
    simp only [Option.getD_some]
    rw [g2]; rfl
  have h61 : F61 annE = some (textS annE, 0) := by
    unfold F61
    rw [gd_pos (by decide), if_pos checkE, if_pos checkE]
  have h33 : F33 m2 n2 none = some [(⟨[112] ++ oneE.fHref, (oneE.fUuid ++ [10]) ++ textS annE⟩ : S78)] := by
    unfold F33
    rw [F26_eq I2]
    simp only [Option.bind_some, Option.isSome_none, Bool.false_eq_true, if_false]
    rw [gd_pos I2.psh]
    unfold F33_k3
    rw [F14_eq I2]
    simp only [Option.bind_some]
    rw [gd_pos I2.bigs]
    unfold rangeR
    have hen : enumI [oneE] = [((0 : Int), oneE)] := rfl
    rw [hen, rangeO_cons]
    have hs : F33_b9 ((0 : Int), oneE) [] = some (.inl [(⟨[112] ++ oneE.fHref, (oneE.fUuid ++ [10]) ++ textS annE⟩ : S78)]) := by
      unfold F33_b9
      rw [gd_pos (show ((0 : Int), oneE).2.fShadow.length = 8 from rfl), show ((0 : Int), oneE).2.fShadow = annE from rfl, h61]
      simp only [Option.bind_some]
      rw [textE]
      rw [gd_pos (by decide), gd_pos (by decide), gd_pos (by decide), gd_pos (by decide)]
      rfl
    rw [hs]
    rfl
  unfold F11
  rw [show F12 = some ([], [], none) from rfl, h31]
  simp only [Option.bind_some]
  rw [gd_pos h8, show (⟨[47, 98, 111, 111, 107, 47, 97], [117, 49], annE⟩ : S39) = oneE from rfl, e1]
  simp only [Option.bind_some]
  rw [gd_pos h8, show (⟨[47, 98, 111, 111, 107, 47, 98], [117, 49], annE⟩ : S39) = twoE from rfl, e2]
  simp only [Option.bind_some]
  rw [h18]
  simp only [Option.bind_some]
  rw [gd_pos (show oneE.fShadow.length = 8 from rfl), h33, textE]
  rfl

/-! ### Any calls -/

end Go.Idl

namespace Go.Idl

open Go

variable {m : Mp} {n : Np} {pr : Option S33} {d : S35}

/-! ### Pairs that are not there -/

theorem F6_eq (h : Str) : F6 h = some true := by
  have e1 : F21s2 h = some (S39.zero, false) := rfl
  have e2 : F18s2 none h = some (S39.zero, false) := rfl
  have e3 : F26s2 = some (S33.zero, false) := rfl
  have e4 : F14s2 = some [] := rfl
  have e27 : F27s2 S33.zero = some 1 := by
    unfold F27s2
    rw [gd_pos (show S33.zero.fShadow.length = 8 from rfl), F53_eq _ (by decide), show uuidS S33.zero.fUuid = false from rfl, F54_eq _ ⟨by decide, by simp [S33.zero]⟩]
    rfl
  have e28 : F28s2 none = some 1 := rfl
  have e29 : F29s2 ⟨h, [], [[], [], [], [], [], [], [], []]⟩ = some 1 := rfl
  have e31 : F31 = some annE := rfl
  have e30 : F30s2 none h annE = some 1 := rfl
  have e32 : F32s2 h = some 1 := rfl
  have e33 : F33s2 none = some [] := by
    unfold F33s2
    rw [show F26s3 none = some (S33.zero, false) from rfl]
    simp only [Option.bind_some, Bool.false_eq_true, if_false]
    rw [gd_pos (show S33.zero.fShadow.length = 8 from rfl)]
    unfold F33s2_k3
    rw [show F14s3 none = some [] from rfl]
    simp only [Option.bind_some]
    rw [gd_pos (show ∀ x, x ∈ ([] : List S39) → bigC x.fShadow by simp)]
    rfl
  have e34 : F34s2 = some 0 := rfl
  have e22 : F22s2 none = some () := rfl
  have e23 : F23s2 none = some true := rfl
  have e24 : F23s3 [] [] none = some false := rfl
  unfold F6
  rw [F11_eq]
  by_cases h0 : (200 : Int) < h.length
  · rw [if_pos h0]; rfl
  · rw [if_neg h0, e1, e2, e3, e4]
    simp only [Option.bind_some]
    rw [gd_pos (show S39.zero.fShadow.length = 8 from rfl), gd_pos (show S39.zero.fShadow.length = 8 from rfl), gd_pos (show S33.zero.fShadow.length = 8 from rfl), gd_pos (show ∀ x, x ∈ ([] : List S39) → bigC x.fShadow by simp)]
    rw [show rangeR (ρ := Bool ⊕ Bool) (fun (el26 : Int × S39) (s : Bool) => F6_b24 el26 s) (fun (s : Bool) => .inl s) (enumI ([] : List S39)) false = some (.inl false) from rfl]
    simp only [Option.bind_some, Sum.elim_inl]
    unfold F6_k24
    rw [zeroP_eq, F11_eq, e31, show F12 = some ([], [], none) from rfl]
    simp [e27, e28, e29, e30, e32, e33, e34, e22, e23, e24]

end Go.Idl

namespace Go.Idl

open Go Go.RowKit Go.ChangeShapes Go.WideShapes

def g0 : Gs := { oth := fun _ => False, mu := fun _ => undef, sh := fun _ => none, nx := 0 }

def H0 : IHeap := { next := 0, obj := fun _ => none, sn := [] }

theorem ow0 (b : Nat) : ¬ g0.ow b := by
  rintro (h | ⟨k, h, _⟩)
  · exact h
  · cases h

theorem below_of_mono {w w' : World} {g' : Gs} (m : Mono w g0 w' g') : Below w.heap.size w w' :=
  ⟨m.os, m.tape, m.output, m.size, fun k hk => m.keep k hk fun ⟨i, h, _⟩ => by cases h⟩

variable {P : Program} {w : World} {Hh : Type} {enc : TypeId × Value → Hh}

def Rd (P : Program) (w : World) {Hh : Type} (enc : TypeId × Value → Hh) (t : TypeId) (S : List IV → Prop) : Prop :=
  ∀ (base : Nat) (spare : Nat → Bool) (held : Bool) (fuel : Nat) (cs : List Value) (x : DataW Hh × List MemPlace), DataW.trod enc P w base spare held fuel t cs = some x →
    ∃ is, S is ∧ is.length = cs.length ∧ ∀ (j : Nat) (c : Value) (i : IV), cs[j]? = some c → is[j]? = some i → c.oneCell' = true ∧ R w g0 c i

theorem rd_one {c : Value} {i : IV} (ho : c.oneCell' = true) (hr : R w g0 c i) : ∀ (j : Nat) (c' : Value) (i' : IV), [c][j]? = some c' → [i][j]? = some i' → c'.oneCell' = true ∧ R w g0 c' i' := by
  intro j c' i' h1 h2
  cases j with
  | zero => simp at h1 h2; subst h1; subst h2; exact ⟨ho, hr⟩
  | succ j => simp at h1

theorem Rd.one {t : TypeId} {v : Value} {d : DataW Hh} {ps : List MemPlace} {S : List IV → Prop} {base : Nat} {spare : Nat → Bool} {held : Bool} (h : Rd P w enc t S) (hv : v.cells = #[v]) (hd : DataW.Trod enc P w base spare held t v d ps) : ∃ i, S [i] ∧ R w g0 v i := by
  obtain ⟨fuel, hf⟩ := hd
  obtain ⟨is, h1, h2, h3⟩ := h _ _ _ _ _ _ hf
  rw [hv] at h2 h3
  match is, h2, h1, h3 with
  | [i], _, h1, h3 => exact ⟨i, h1, (h3 0 v i rfl rfl).2⟩

theorem Rd.agg {t : TypeId} {cs : Array Value} {d : DataW Hh} {ps : List MemPlace} {S : List IV → Prop} {base : Nat} {spare : Nat → Bool} {held : Bool} (h : Rd P w enc t S) (hd : DataW.Trod enc P w base spare held t (.agg cs) d ps) : ∃ is, S is ∧ R w g0 (.agg cs) (.ag is) := by
  obtain ⟨fuel, hf⟩ := hd
  obtain ⟨is, h1, h2, h3⟩ := h _ _ _ _ _ _ hf
  have hcs : (Value.agg cs).cells.toList = cs.toList := rfl
  rw [hcs] at h2 h3
  refine ⟨is, h1, .ag cs is (by simpa using h2.symm) (fun j x hx => ?_) fun j x c hx hc => (h3 j x c (by simpa using hx) hc).2⟩
  have hlt : j < is.length := by
    have := (Array.getElem?_eq_some_iff.1 hx).1
    rw [h2]; simpa using this
  exact (h3 j x is[j] (by simpa using hx) (List.getElem?_eq_getElem hlt)).1

end Go.Idl

namespace Go.Idl

open Go Go.RowKit Go.ChangeShapes Go.WideShapes

def HV (vs : List (Nat × Array Value)) : IHeap := { next := 0, obj := fun _ => none, sn := [varsT vs] }

theorem simV (w : World) (vs : List (Nat × Array Value)) (h : ∀ p, p ∈ vs → ∃ el f, w.heap[p.1]? = some (.cells p.2 el f)) : Sim w g0 (HV vs) where
  nx := rfl
  sh := fun _ => rfl
  lt := fun k h => by cases h
  bk := fun k b h => by cases h
  inj := fun k k' b h => by cases h
  obj := fun k o h => by cases h
  old := fun b h => h.elim
  snap := fun p hp i hi => by
    obtain rfl : p = varsT vs := by simpa [HV] using hp
    have hl : i < vs.length := by simpa [varsT] using hi
    obtain ⟨el, f, h1⟩ := h _ (List.getElem_mem hl)
    simp only [varsT, List.getElem?_eq_getElem hl]
    exact .blk _ _ el f _ (ow0 _) h1

theorem of_var {P : Program} {w : World} {name : String} {b : Nat} {xs : Array Value} (hg : P.globalNamed name = some b) (h : w.var? P name = some xs) : ∃ el f, w.heap[b]? = some (.cells xs el f) := by
  unfold World.var? at h
  rw [hg] at h
  simp only [Option.bind_some] at h
  split at h
  · rename_i cs el f hc
    cases h
    exact ⟨el, f, hc⟩
  · cases h

theorem door_laid_shaped {H : Type} {enc : TypeId × Value → H} {a : Assume} {C : Checked} {os : Os} {f : FuncId} {fn : Func} {s : ChangeSpec} {conds : List PathCond} {apart fresh handsOn again : Bool} {X : World → Array Value → Prop}
    (hX : ∀ (w w' : World) (args : Array Value), w.heap = w'.heap → X w args → X w' args)
    (own : ownKnob C.prog.godebug = none) (started : os.Started) (noInit : C.prog.inits.idxOf? f = none) (hfn : C.prog.funcs[f]? = some fn)
    (witness : ∃ (w : World) (tape : Tape) (i : Input), w.os = os ∧ (w.forCall tape i).Shaped C.prog ∧ i.vars = [] ∧ Input.okWide C.prog (w.forCall tape i) .any w.heap.size f i ∧
      ((s.pre enc C.prog fn conds apart (w.forCall tape i).memory i.args ∧ X (w.forCall tape i).memory i.args) ∧ sizedMet enc C.prog fn (OpenSpec.ofChange s) apart (w.forCall tape i).memory i.args) ∧ a.holds C.prog (lone (Frame.enter C.prog f i.args .normal) [] (w.forCall tape i)))
    (contract : ∀ (W : World) (base : Nat) (args : Array Value) (ds gs : List (DataW H)) (before : List MemPlace),
      (∀ (j : Nat) t v, fn.params[j]? = some t → args[j]? = some v → Value.okWide C.prog W .any base t v) →
      DataW.Whole enc C.prog fn.params.toList s.vars apart W args.toList ds gs before →
      (DataW.weightsEach C.prog (fn.params.toList ++ s.plain.varTypes C.prog) (ds ++ gs)).all (· ≤ reachBytes) = true → X W args → W.ShapedOpen C.prog →
      Calls C.prog f args W fun e W' => ∃ v, e = .returned v ∧ s.post enc C.prog fn apart fresh handsOn again W args v W') :
    ReturnsInHanded a C os f .any (fun w args => (s.pre enc C.prog fn conds apart w args ∧ X w args) ∧ sizedMet enc C.prog fn (OpenSpec.ofChange s) apart w args) (s.post enc C.prog fn apart fresh handsOn again) := by
  refine returnsInHanded_of_calls own started noInit witness ?_
  intro w tape i _ shape _ ok pre _
  obtain ⟨_, _, _, fn2, hfn2, _, _, _, _, val⟩ := ok
  have e := Option.some.inj (hfn2.symm.trans hfn)
  subst e
  obtain ⟨⟨⟨ds, gs, before, whole, _⟩, laid⟩, sized⟩ := pre
  refine Calls.mono (contract (w.forCall tape i) w.heap.size i.args ds gs before val (DataW.Whole.of_heap (by rfl) whole) (sized.weights whole) (hX _ _ _ (by rfl) laid) shape) ?_
  rintro _ W' ⟨v, rfl, post⟩
  exact ChangeSpec.post_blind post

end Go.Idl

namespace Go.Idl

open Go Go.RowKit Go.ChangeShapes Go.WideShapes

variable {P : Program} {w : World} {Hh : Type} {enc : TypeId × Value → Hh}

def RdZ (P : Program) (w : World) {Hh : Type} (enc : TypeId × Value → Hh) (t : TypeId) (S : List IV → Prop) : Prop :=
  ∀ (base : Nat) (spare : Nat → Bool) (held : Bool) (fuel : Nat) (cs : List Value) (x : DataW Hh × List MemPlace), DataW.trod enc P w base spare held fuel t cs = some x → (∀ n ∈ x.1.weights P t, n ≤ reachBytes) →
    ∃ is, S is ∧ is.length = cs.length ∧ ∀ (j : Nat) (c : Value) (i : IV), cs[j]? = some c → is[j]? = some i → c.oneCell' = true ∧ R w g0 c i

theorem Rd.z {t : TypeId} {S : List IV → Prop} (h : Rd P w enc t S) : RdZ P w enc t S := fun base spare held fuel cs x hx _ => h base spare held fuel cs x hx

theorem RdZ.mono {t : TypeId} {S S' : List IV → Prop} (h : RdZ P w enc t S) (hs : ∀ is, S is → S' is) : RdZ P w enc t S' := fun base spare held fuel cs x hx hz => let ⟨is, h1, h2⟩ := h base spare held fuel cs x hx hz; ⟨is, hs _ h1, h2⟩

theorem RdZ_string {t : TypeId} (hu : P.underlying t = some .string) : RdZ P w enc t fun is => ∃ s : List UInt8, s.length ≤ reachBytes ∧ is = [.v (str s)] := by
  intro base spare held fuel cs x h hz
  obtain ⟨s, rfl, rfl, _⟩ := DataW.trod_string hu h
  refine ⟨_, ⟨bytes s, ?_, rfl⟩, rfl, rd_one rfl ?_⟩
  · have := hz s.data.toList.length (by simp [DataW.weights])
    simpa [bytes] using this
  · rw [show str (bytes s) = .string s by rw [str, mk_bytes]]
    exact .v _

theorem RdZ.one {t : TypeId} {v : Value} {d : DataW Hh} {ps : List MemPlace} {S : List IV → Prop} {base : Nat} {spare : Nat → Bool} {held : Bool} (h : RdZ P w enc t S) (hv : v.cells = #[v]) (hd : DataW.Trod enc P w base spare held t v d ps)
    {ts : List TypeId} {ds : List (DataW Hh)} (hw : (DataW.weightsEach P ts ds).all (· ≤ reachBytes) = true) {k : Nat} (h1 : ts[k]? = some t) (h2 : ds[k]? = some d) : ∃ i, S [i] ∧ R w g0 v i := by
  obtain ⟨fuel, hf⟩ := hd
  obtain ⟨is, h1, h2, h3⟩ := h _ _ _ _ _ _ hf fun n hn => by simpa using List.all_eq_true.1 hw _ (DataW.weights_mem_each h1 h2 n hn)
  rw [hv] at h2 h3
  match is, h2, h1, h3 with
  | [i], _, h1, h3 => exact ⟨i, h1, (h3 0 v i rfl rfl).2⟩

end Go.Idl

namespace Go.Proofs.YtbgebljjmpklkaaGreatDoor

open Go Go.ChangeShapes Go.WideShapes Go.ChangeAt Go.RowKit Go.Idl

theorem ownNone : ownKnob Tryz.prog.godebug = none := by kernel_rfl

theorem laidOutAll : laidOutB Tryz.prog = true := by kernel_rfl

def laidV : List (String × DataW Unit) := Rows.pairsOnceRow.laid

theorem door_metV (os : Os) (args : Array Value) : laidMetH Tryz.prog laidV ((World.doorLaid Tryz.prog 400 os).forCall (fun _ _ => 0) ⟨#[], args, []⟩).memory :=
  laidMetH_of_parts3 (fuel := 8) (laidMet_of_run' 8 (by kernel_rfl) (by kernel_rfl)) (by kernel_rfl) (by kernel_rfl)

theorem gTab : Tryz.prog.globalNamed "internal/strconv.uint64pow10" = some 1 := by kernel_rfl

theorem tok_laid {W : World} (hL : laidMetH Tryz.prog laidV W) : ∃ vs : List (Nat × Array Value), (∀ p, p ∈ vs → ∃ el f, W.heap[p.1]? = some (.cells p.2 el f)) ∧ TOK Tryz.prog (HV vs) := by
  have h0 : laidMet Tryz.prog laidV W := hL
  have h2 := h0.tail.tail
  have hT : Lib.TabIs Tryz.prog W "internal/strconv.uint64pow10" .u64 Lib.pow10Tab :=
    Lib.tabIs_of_head (t := 249) (e := 224) (n := 20) gTab (by kernel_rfl) Tryz.underlying249 Tryz.underlying224 (by kernel_rfl) (by kernel_rfl) h2
  refine ⟨[(1, (Lib.pow10Tab.map fun z => Value.int .u64 z).toArray)], ?_, ?_⟩
  · intro p hp
    simp only [List.mem_cons, List.not_mem_nil, or_false] at hp
    rcases hp with rfl
    exact of_var gTab hT
  · exact ⟨1, 0, _, gTab, rfl, List.mem_singleton.2 rfl⟩

section

variable {w : World} {Hh : Type} {enc : TypeId × Value → Hh}

theorem rd9 : RdZ Tryz.prog w enc 9 fun is => ∃ s : List UInt8, s.length ≤ reachBytes ∧ is = [.v (str s)] := RdZ_string Tryz.underlying9

end

end Go.Proofs.YtbgebljjmpklkaaGreatDoor

namespace Go.Proofs.YtbgebljjmpklkaaGreatDoor

open Go Go.ChangeShapes Go.WideShapes Go.ChangeAt Go.RowKit Go.Idl

set_option maxRecDepth 100000 in
theorem pairsNil_lifted (os : Os) (started : os.Started) (H : Type) (enc : TypeId × Value → H) :
    ReturnsInHanded {} Tryz.checked os 6 .any (fun w args => (Rows.pairsNilSpec.pre enc Tryz.prog Tryz.f6 [] false w args ∧ laidMetH Tryz.prog laidV w) ∧ sizedMet enc Tryz.prog Tryz.f6 (OpenSpec.ofChange Rows.pairsNilSpec) false w args)
      (Rows.pairsNilSpec.post enc Tryz.prog Tryz.f6 false true false false) := by
  refine door_laid_shaped (C := Tryz.checked) (X := fun w _ => laidMetH Tryz.prog laidV w) (fun _ _ _ hh h => h.of_heap hh) ownNone started (by kernel_rfl) Tryz.func6
    (ChangeSpec.witness_shaped (enc := enc) (C := Tryz.checked) (os := os) (X := fun w _ => laidMetH Tryz.prog laidV w) false (World.doorLaid Tryz.prog 400 os) #[.string ⟨#[]⟩] 8 rfl (World.shaped_of_RefB (by kernel_rfl) (by kernel_rfl)) (by kernel_rfl) (by kernel_rfl) (by kernel_rfl) (door_metV os _)) ?_
  intro W base args ds gs before hval0 hW hwt hL hshape
  have hval : ∀ (j : Nat) t v, Tryz.f6.params[j]? = some t → args[j]? = some v → Value.okWide Tryz.prog W .any base t v := hval0
  have hW' := hW
  obtain ⟨p, q, hA0, hV, rfl, hfz, hnd⟩ := hW
  have hA : DataW.TrodAll enc Tryz.prog W 0 (fun _ => true) true Tryz.f6.params.toList args.toList ds p := hA0
  rw [Tryz.params6] at hA hval
  obtain ⟨v0, d0, rfl, rfl, h0⟩ := trodAll_one hA
  obtain ⟨rfl, rfl⟩ := trodVars_none hV
  simp only [List.append_nil] at hW'
  have hlt := hW'.lt
  have hwt' : (DataW.weightsEach Tryz.prog [9] [d0]).all (· ≤ reachBytes) = true := hwt
  obtain ⟨s0, rfl⟩ := okWide_string Tryz.underlying9 (hval 0 9 v0 rfl rfl)
  obtain ⟨i0, ⟨x0, b0, e0⟩, r0⟩ := rd9.one rfl h0 hwt' (k := 0) rfl rfl
  simp only [List.cons.injEq, and_true] at e0
  subst e0
  obtain ⟨vs, hvs, hvok⟩ := tok_laid hL
  have hcall := (F6_ok (H := HV vs) (K := fun e _ => e = .ret (.v (.bool true))) x0 hvok (F6_eq x0 ) rfl).run W g0 #[.string s0] (simV W vs hvs) ⟨rfl, fun j x i hx hi => by
    match j, hx, hi with
    | 0, hx, hi => simp at hx hi; subst hx; subst hi; exact r0
    | j + 1, hx, hi => simp at hx⟩
  refine hcall.mono ?_
  rintro e W' ⟨ie, g', H', hm, _, hre, rfl⟩
  have hb := below_of_mono hm
  obtain ⟨rfl⟩ : e = .returned (.bool true) := by
    cases hre with
    | ret x i h => rw [h.v_eq]
  refine ⟨_, rfl, ?_⟩
  refine ⟨_, _, _, [], p, [], hW', trodAll_mk1 (shut_bool Tryz.underlying4 _), ?_, ?_, hb.frame _, fun h => by cases h⟩
  · have hl0 : ∀ x ∈ p, x.block < W.heap.size := fun x hx => hlt x (by simp [hx])
    have k0 := Below.trod laidOutAll (by kernel_rfl) (of_decide_eq_true (by kernel_rfl)) h0 hb hl0
    exact ⟨p, [], k0, rfl, by simp⟩
  · rfl

theorem pairsNil_row : Rows.PairsNilSaid :=
  OpenClaim.holds_of_wide 6 Tryz.f6 rfl rfl rfl rfl rfl rfl rfl ⟨rfl, rfl, rfl, rfl, rfl⟩ rfl rfl rfl rfl rfl (by kernel_rfl) Tryz.func6 (by kernel_rfl)
    (of_decide_eq_true (by kernel_rfl)) (by unfold Func.isWrapper; first | (rw [if_pos (by decide +kernel)]; kernel_rfl) | (rw [if_neg (by decide +kernel)]; exact ⟨rfl, rfl⟩))
    (fun os started H enc _ => pairsNil_lifted os started H enc)

theorem pairsNil_holds : Rows.PairsNilCardSaid :=
  Claim7.holds_tied_plain_at .later [] [.data, .data, .data] true (true, "5dbde0cbb162a84d239fd1634710af79b7da20f43e8be4b7c72be86c8a99f6d5") true
    pairsNil_row (fun _ h => by cases h) (by kernel_rfl) (fun _ h => by cases h) pairsNil_row_tie rfl ⟨rfl, rfl⟩ (by kernel_rfl) rfl
    (fun f fn hf hfn => by
      obtain rfl : f = 6 := Option.some.inj ((show Tryz.prog.funcNamed "cardcase/cardcaselaw20.PairsNil" = some 6 by kernel_rfl).symm.trans hf) |>.symm
      obtain rfl : fn = Tryz.f6 := (Option.some.inj (Tryz.func6.symm.trans hfn)).symm
      exact ⟨by kernel_rfl, fun j t ht => by
        rw [Tryz.params6] at ht
        have hm : t ∈ [9] := by simpa using Array.mem_of_getElem? ht
        have hall : ([9].all fun u => !Tryz.prog.wantsStandIn u) = true := by kernel_rfl
        exact (show Tryz.prog.wantsStandIn t = false by simpa using List.all_eq_true.1 hall t hm)⟩)
    (by kernel_rfl)

end Go.Proofs.YtbgebljjmpklkaaGreatDoor
