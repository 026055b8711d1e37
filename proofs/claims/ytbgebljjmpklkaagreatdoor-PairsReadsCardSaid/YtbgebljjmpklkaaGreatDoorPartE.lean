/- Reads what was parsed: the saying of the case law 20 Part 5. Conditions: none. -/
import Derived.Test.YtbgebljjmpklkaaGreatDoorPartD
import Derived.Shelf.Strings.Split
set_option linter.unusedSimpArgs false
set_option linter.unusedVariables false
namespace Go.Idl
set_option maxHeartbeats 8000000
set_option pp.deepTerms false
set_option maxRecDepth 60000
open Go Go.Proofs.Tryz
noncomputable def Kb (a0 : List UInt8) : Option Bool :=
 if 1 ≤ (a0.length : Int) then (some (decide ((a0.length : Int) ≤ 64))) else (some false)
noncomputable def Kc (a0 : List UInt8) (v6 : Int) : Option (Int ⊕ (Unit ⊕ Bool)) :=
 if v6 < (a0.length : Int) then (gd (0 ≤ v6 ∧ v6 < a0.length) ((FK (((a0.getD v6.toNat 0).toNat : Int)) 97 122).bind fun (x16 : Bool) => if ¬ (x16 = true) then ((FK (((a0.getD v6.toNat 0).toNat : Int)) 65 90).bind fun (x17 : Bool) => if ¬ (x17 = true) then (if v6 = 0 then (some (.inr (.inr false))) else ((FK (((a0.getD v6.toNat 0).toNat : Int)) 48 57).bind fun (x19 : Bool) => if ¬ (x19 = true) then (if ¬ (((a0.getD v6.toNat 0).toNat : Int)) = 45 then (some (.inr (.inr false))) else (some (.inl (IntKind.i64.wrap (v6 + 1))))) else (some (.inl (IntKind.i64.wrap (v6 + 1)))))) else (some (.inl (IntKind.i64.wrap (v6 + 1))))) else (some (.inl (IntKind.i64.wrap (v6 + 1)))))) else (some (.inr (.inl ())))
noncomputable def F80 (a0 : List UInt8) : Option Bool :=
 gd ((a0.length : Int) ≤ 9223372036854775807) ((AD (fun (s : Int) => Kc a0 s) 0).bind fun y => Sum.elim (fun (e : Unit) => Kb a0) (fun (q : Bool) => some q) y)
theorem Ti {H : A2} {K : Au → A2 → Prop} (a0 : List UInt8) {r : Bool} (h : F80 a0 = some r) (hK : K (.ret (.v (.bool r))) H) : Aa prog 80 [.v (str a0)] H K := by
 refine Ag (N := 43) func80 (by kernel_rfl) rfl (by kernel_rfl) (by kernel_rfl) fun cb hcb hw hbd hnb => ?_; clear hbd hnb; subst hcb; unfold F80 at h; refine wG ?_; refine A3 fun cb hc2 => ?_; refine A3 fun cb hc3 => ?_; obtain ⟨g4, h⟩ := Ad.1 h; refine vG ?_; refine Ft a0 rfl (by kernel_rfl) underlying9 underlying131 underlying5 (by (simp -implicitDefEqProofs (disch := omega) [go_sem]; done)) (by omega) ?_; refine sG ?_; subst hc3; obtain ⟨y5, hl5q, hk5⟩ := A4 h; refine AF (fun tm' H' => .inl () = y5 ∧ H = H' ∧ tm' 0 = .v (str a0)) ?_ fun cb hc5 => ?_
 ·rintro tm5e H5e ⟨rfl, rfl, t0_5e⟩
  have h : Kb a0 = some r := hk5; unfold Kb at h; simp -implicitDefEqProofs only [go_sem]; subst hc2; refine A3 fun cb hc7 => ?_; refine vF t0_5e ?_; refine A6 h rfl ?_ ?_
  ·intro c8 h; refine sF t0_5e ?_; subst hc7; refine vO ?_; obtain rfl := sI h; refine sG ?_; exact Ap (.refl hw) hK
  intro c8 h; simp (disch := omega) at c8; refine sG ?_; subst hc7; refine vO ?_; obtain rfl := sI h; refine sG ?_; exact Ap (.refl hw) hK
 refine Ah ?_; refine Az (fun (s : Int) tm' H' => H = H' ∧ tm' 0 = .v (str a0) ∧ tm' 6 = .sl 1 (a0.map fun x => [.v (.int .u8 x.toNat)]) ∧ tm' 7 = .v (.int .i64 (a0.length : Int)) ∧ tm' 8 = .v (.int .i64 s)) hl5q ?_ ?_
 ·exact sm
 rintro I5 hI5 v6 x5 tm5 H5 ⟨rfl, D1, NK, NL, HX⟩ h hret5
 replace h : Kc a0 v6 = some x5 := h; unfold Kc at h; refine wF (nd NL HX) ?_; refine A3 fun cb hc10 => ?_; refine A8 h eA rfl ?_ ?_
 ·intro c11 h; refine vO ?_; subst hc10; refine A3 fun cb hc12 => ?_; refine Ah ?_; obtain ⟨g14, h⟩ := Ad.1 h; refine wF (nd NK HX) ?_; refine A3 fun cb hc15 => ?_; refine vG ?_; obtain ⟨x16, hx16, h⟩ := A4 h; refine Aa.eqA eA (Fu (((a0.getD v6.toNat 0).toNat : Int)) 97 122 hx16 ?_); refine sG ?_; refine A6 h eA ?_ ?_
  ·intro c25 h; simp (disch := omega) at c25; refine sG ?_; obtain ⟨x17, hx17, h⟩ := A4 h; refine Aa.eqA eA (Fu (((a0.getD v6.toNat 0).toNat : Int)) 65 90 hx17 ?_); refine sG ?_; refine A6 h eA ?_ ?_
   ·intro c24 h; simp (disch := omega) at c24; refine sG ?_; refine A6 h rfl ?_ ?_
    ·intro c23 h; refine sG ?_; subst hc15; refine Ai eA rfl ?_; refine wG ?_; refine vO ?_; obtain rfl := sI h; obtain rfl := hret5 _ rfl; replace h : some false = some r := hk5; obtain rfl := sI h; refine sG ?_; exact Ap (.refl hw) hK
    intro c23 h; refine sG ?_; obtain ⟨x19, hx19, h⟩ := A4 h; refine Aa.eqA eA (Fu (((a0.getD v6.toNat 0).toNat : Int)) 48 57 hx19 ?_); refine sG ?_; refine A6 h eA ?_ ?_
    ·intro c22 h; simp (disch := omega) at c22; refine sG ?_; subst hc15; refine A8 h eA rfl ?_ ?_
     ·intro c20 h; simp (disch := omega) at c20; refine wG ?_; refine vO ?_; obtain rfl := sI h; obtain rfl := hret5 _ rfl; replace h : some false = some r := hk5; obtain rfl := sI h; refine sG ?_; exact Ap (.refl hw) hK
     intro c20 h; simp (disch := omega) at c20; refine vO ?_; subst hc12; refine vF HX ?_; obtain rfl := sI h; refine Aj hI5 (IntKind.i64.wrap (v6 + 1)) ?_; exact smF (nd D1 (nd NK NL))
    intro c22 h; simp (disch := omega) at c22; refine sG ?_; subst hc15; refine Al eA rfl ?_; refine vO ?_; subst hc12; refine vF HX ?_; obtain rfl := sI h; refine Aj hI5 (IntKind.i64.wrap (v6 + 1)) ?_; exact smF (nd D1 (nd NK NL))
   intro c24 h; simp (disch := omega) at c24; refine sG ?_; subst hc15; refine Al eA rfl ?_; refine vO ?_; subst hc12; refine vF HX ?_; obtain rfl := sI h; refine Aj hI5 (IntKind.i64.wrap (v6 + 1)) ?_; exact smF (nd D1 (nd NK NL))
  intro c25 h; simp (disch := omega) at c25; refine sG ?_; subst hc15; refine Al eA rfl ?_; refine vO ?_; subst hc12; refine vF HX ?_; obtain rfl := sI h; refine Aj hI5 (IntKind.i64.wrap (v6 + 1)) ?_; exact smF (nd D1 (nd NK NL))
 intro c11 h; simp (disch := omega) at c11; refine vO ?_; obtain rfl := sI h; have hy5 := hret5 _ rfl; refine hc5 _ _ ?_; refine .same ⟨hy5, rfl, by (simp -implicitDefEqProofs (disch := omega) [go_sem, D1] <;> omega)⟩
noncomputable def F79 (a0 : S89) : Option Bool :=
 (F80 a0.fType).bind fun (x3 : Bool) => if x3 = true then ((F81 a0.fType).bind fun (x4 : (List UInt8)) => if x4 = a0.fType then (if 1 ≤ (a0.A7.length : Int) then (some (decide ((a0.A7.length : Int) ≤ 200))) else (some false)) else (some false)) else (some false)
theorem YO {H : A2} {K : Au → A2 → Prop} (a0 : S89) {r : Bool} (h : F79 a0 = some r) (hK : K (.ret (.v (.bool r))) H) : Aa prog 79 [.ag ([.v (str a0.fType), .v (str a0.A7)])] H K := by
 refine Ag (N := 26) func79 (by kernel_rfl) rfl (by kernel_rfl) (by kernel_rfl) fun cb hcb hw hbd hnb => ?_; clear hbd hnb; subst hcb; unfold F79 at h; refine wG ?_; refine A3 fun cb hc2 => ?_; refine AB [2, 6] [0, 1, 2, 3, 4, 5, 6, 7, 8, 9, 10, 11, 12, 13, 14, 15, 16, 17, 18, 19, 20, 21, 22, 23] (by kernel_rfl) (by kernel_rfl) (fun _ _ _ _ h => h) ?_; refine sG ?_; obtain ⟨x3, hx3, h⟩ := A4 h; refine BS.mk _ (fun _ _ hK => Ti a0.fType hx3 hK) ?_; refine A6 h eA ?_ ?_
 ·intro c7 h; refine sG ?_; obtain ⟨x4, hx4, h⟩ := A4 h; refine BS.mk _ (fun _ _ hK => T6 a0.fType hx4 hK) ?_; refine sG ?_; refine A6 h rfl ?_ ?_
  ·intro c6 h; refine sG ?_; refine A6 h rfl ?_ ?_
   ·intro c5 h; refine sG ?_; subst hc2; refine vO ?_; obtain rfl := sI h; refine sG ?_; exact Ap (.refl hw) hK
   intro c5 h; simp (disch := omega) at c5; refine sG ?_; subst hc2; refine vO ?_; obtain rfl := sI h; refine sG ?_; exact Ap (.refl hw) hK
  intro c6 h; refine sG ?_; subst hc2; refine vO ?_; obtain rfl := sI h; refine sG ?_; exact Ap (.refl hw) hK
 intro c7 h; simp (disch := omega) at c7; refine sG ?_; subst hc2; refine vO ?_; obtain rfl := sI h; refine sG ?_; exact Ap (.refl hw) hK
noncomputable def VR (a0 : S89) : Option Bool :=
 (F79 a0).bind fun (x3 : Bool) => some (!x3)
theorem VS {H : A2} {K : Au → A2 → Prop} (a0 : S89) (ka1 : Nat) (NM : H.obj ka1 = some (.cells ([.v (.func (.func 79) #[] #[])]))) {r : Bool} (h : VR a0 = some r) (hK : K (.ret (.v (.bool r))) H) : Aa prog 121 [.ag ([.v (str a0.fType), .v (str a0.A7)]), .p ka1 0] H K := by
 refine Ag (N := 8) func121 (by kernel_rfl) rfl (by kernel_rfl) (by kernel_rfl) fun cb hcb hw hbd hnb => ?_; clear hbd hnb; subst hcb; unfold VR at h; have kn : ka1 < H.next := Nat.lt_of_not_le fun q => by rw [hw _ q] at NM; cases NM
 refine wG ?_; refine A3 fun cb hc2 => ?_; refine vF NM ?_; obtain ⟨x3, hx3, h⟩ := A4 h; refine YO a0 hx3 ?_; refine sG ?_; subst hc2; refine vO ?_; obtain rfl := sI h; refine sG ?_; exact Ap (.refl hw) hK
noncomputable def J3  : Option Int :=
 some (-1)
noncomputable def GX (a0 : List S89) (v5 : Int) : Option (Int ⊕ (Unit ⊕ Int)) :=
 if v5 < (a0.length : Int) then (gd (0 ≤ v5 ∧ v5 < a0.length) ((VR (a0.getD v5.toNat S89.zero)).bind fun (x14 : Bool) => if x14 = true then (some (.inr (.inr v5))) else (some (.inl (IntKind.i64.wrap (v5 + 1)))))) else (some (.inr (.inl ())))
noncomputable def VT (a0 : List S89) : Option Int :=
 (AD (fun (s : Int) => GX a0 s) 0).bind fun y => Sum.elim (fun (e : Unit) => J3) (fun (q : Int) => some q) y
theorem VU {H : A2} {K : Au → A2 → Prop} (a0 : List S89) (FZ : Nat) (Ke : H.obj FZ = some (.cells ([.v (.func (.func 79) #[] #[])]))) {r : Int} (h : VT a0 = some r) (hK : K (.ret (.v (.int .i64 r))) H) : Aa prog 149 [.sl 2 (a0.map fun x => [.v (str x.fType), .v (str x.A7)]), .fn (.func 121) [] [.p FZ 0]] H K := by
 refine Ag (N := 19) func149 (by kernel_rfl) rfl (by kernel_rfl) (by kernel_rfl) fun cb hcb hw hbd hnb => ?_; clear hbd hnb; subst hcb; unfold VT at h; have YP : FZ < H.next := Nat.lt_of_not_le fun q => by rw [hw _ q] at Ke; cases Ke
 refine wG ?_; refine A3 fun cb hc2 => ?_; refine wG ?_; obtain ⟨y4, hl4q, hk4⟩ := A4 h; refine AF (fun tm' H' => .inl () = y4 ∧ H = H') ?_ fun cb hc4 => ?_
 ·rintro tm4e H4e ⟨rfl, rfl⟩
  have h : J3 = some r := hk4; unfold J3 at h; simp -implicitDefEqProofs only [go_sem]; subst hc2; refine wG ?_; refine vO ?_; obtain rfl := sI h; refine sG ?_; exact Ap (.refl hw) hK
 refine Ah ?_; refine Az (fun (s : Int) tm' H' => H = H' ∧ tm' 0 = .sl 2 (a0.map fun x => [.v (str x.fType), .v (str x.A7)]) ∧ tm' 1 = .fn (.func 121) [] [.p FZ 0] ∧ tm' 7 = .v (.int .i64 (a0.length : Int)) ∧ tm' 8 = .v (.int .i64 s)) hl4q ?_ ?_
 ·exact sm
 rintro I4 hI4 v5 x4 tm4 H4 ⟨rfl, B4, F2, KT, OX⟩ h hret4
 replace h : GX a0 v5 = some x4 := h; unfold GX at h; refine wF (nd KT OX) ?_; refine A3 fun cb hc8 => ?_; refine A8 h eA rfl ?_ ?_
 ·intro c9 h; refine vO ?_; subst hc8; refine A3 fun cb hc10 => ?_; refine Ah ?_; refine wF OX ?_; refine A3 fun cb hc12 => ?_; obtain ⟨g13, h⟩ := Ad.1 h; refine vF (nd B4 F2) ?_; obtain ⟨x14, hx14, h⟩ := A4 h; refine Aa.eqA eA (VS (a0.getD v5.toNat S89.zero) FZ (by assumption) hx14 ?_); refine sG ?_; subst hc12; refine A8 h eA rfl ?_ ?_
  ·intro c15 h; refine wG ?_; refine vO ?_; obtain rfl := sI h; obtain rfl := hret4 _ rfl; replace h : some v5 = some r := hk4; obtain rfl := sI h; refine sG ?_; exact Ap (.refl hw) hK
  intro c15 h; simp (disch := omega) at c15; refine vO ?_; subst hc10; refine vF OX ?_; obtain rfl := sI h; refine Aj hI4 (IntKind.i64.wrap (v5 + 1)) ?_; exact smF (nd B4 (nd F2 KT))
 intro c9 h; simp (disch := omega) at c9; refine vO ?_; obtain rfl := sI h; have hy4 := hret4 _ rfl; refine hc4 _ _ ?_; refine .same ⟨hy4, rfl⟩
noncomputable def Tj (a0 : List S89) : Option Bool :=
 (VT a0).bind fun (x3 : Int) => some (decide (0 ≤ x3))
theorem VV {H : A2} {K : Au → A2 → Prop} (a0 : List S89) (FZ : Nat) (Ke : H.obj FZ = some (.cells ([.v (.func (.func 79) #[] #[])]))) {r : Bool} (h : Tj a0 = some r) (hK : K (.ret (.v (.bool r))) H) : Aa prog 120 [.sl 2 (a0.map fun x => [.v (str x.fType), .v (str x.A7)]), .fn (.func 121) [] [.p FZ 0]] H K := by
 refine Ag (N := 9) func120 (by kernel_rfl) rfl (by kernel_rfl) (by kernel_rfl) fun cb hcb hw hbd hnb => ?_; clear hbd hnb; subst hcb; unfold Tj at h; have YP : FZ < H.next := Nat.lt_of_not_le fun q => by rw [hw _ q] at Ke; cases Ke
 refine wG ?_; refine A3 fun cb hc2 => ?_; refine vG ?_; obtain ⟨x3, hx3, h⟩ := A4 h; refine VU a0 FZ (by assumption) hx3 ?_; refine sG ?_; subst hc2; refine vO ?_; obtain rfl := sI h; refine sG ?_; exact Ap (.refl hw) hK
noncomputable def F82 (a0 : List S89) : Option Bool :=
 (Tj a0).bind fun (x3 : Bool) => some (!x3)
theorem YQ {H : A2} {K : Au → A2 → Prop} (a0 : List S89) {r : Bool} (h : F82 a0 = some r) (hK : K (.ret (.v (.bool r))) H) : Aa prog 82 [.sl 2 (a0.map fun x => [.v (str x.fType), .v (str x.A7)]), .v (.func (.func 79) #[] #[])] H K := by
 refine Ag (N := 9) func82 (by kernel_rfl) rfl (by kernel_rfl) (by kernel_rfl) fun cb hcb hw hbd hnb => ?_; clear hbd hnb; subst hcb; unfold F82 at h; refine wG ?_; refine A3 fun cb hc2 => ?_; refine vG ?_; obtain ⟨x3, hx3, h⟩ := A4 h; refine VV a0 H.next eA hx3 ?_; refine sG ?_; subst hc2; refine vO ?_; obtain rfl := sI h; refine sG ?_; exact Ap (.refl hw) hK
noncomputable def F54 (a0 : List S89) : Option Int :=
 if 16 < (a0.length : Int) then (some 2) else ((F82 a0).bind fun (x6 : Bool) => if ¬ (x6 = true) then (some 2) else (some 0))
theorem OY {H : A2} {K : Au → A2 → Prop} (a0 : List S89) {r : Int} (h : F54 a0 = some r) (hK : K (.ret (.v (.int .i64 r))) H) : Aa prog 54 [.sl 2 (a0.map fun x => [.v (str x.fType), .v (str x.A7)])] H K := by
 refine Ag (N := 13) func54 (by kernel_rfl) rfl (by kernel_rfl) (by kernel_rfl) fun cb hcb hw hbd hnb => ?_; clear hbd hnb; subst hcb; unfold F54 at h; refine wG ?_; refine wG ?_; refine A3 fun cb hc3 => ?_; refine A3 fun cb hc4 => ?_; refine vG ?_; refine A6 h rfl ?_ ?_
 ·intro c10 h; refine sG ?_; subst hc4; refine Ai eA rfl ?_; refine wG ?_; refine vO ?_; obtain rfl := sI h; refine sG ?_; exact Ap (.refl hw) hK
 intro c10 h; simp (disch := omega) at c10; refine sG ?_; obtain ⟨x6, hx6, h⟩ := A4 h; refine YQ a0 hx6 ?_; refine sG ?_; subst hc4; refine A8 h eA rfl ?_ ?_
 ·intro c7 h; simp (disch := omega) at c7; refine wG ?_; refine vO ?_; obtain rfl := sI h; refine sG ?_; exact Ap (.refl hw) hK
 intro c7 h; simp (disch := omega) at c7; refine vO ?_; subst hc3; refine wG ?_; refine vO ?_; obtain rfl := sI h; refine sG ?_; exact Ap (.refl hw) hK
noncomputable def F27 (Ak : List (List UInt8 × S39)) (An : List (List UInt8 × (List UInt8))) (Aw : Option S33) (a1 : S33) : Option (Int × (Option S33)) :=
 gd (a1.A5.length = 8) ((F53 a1.Ac).bind fun (x4 : Bool) => if x4 = true then (if (a1.fDn.length : Int) = 0 then ((F42 Ak An Aw).bind fun (x7 : Bool) => (F55 a1.A9).bind fun (x9 : Bool) => if ¬ (x9 = true) then (some (2, Aw)) else ((F56 a1.A5).bind fun (x11 : Int) => if ¬ x11 = 0 then (some (2, Aw)) else ((F52 a1).bind fun (x15 : S33) => gd (x15.A5.length = 8) (some (0, some x15))))) else (if a1.Ac = [] then (if 0 < (a1.fDn.length : Int) then ((F54 a1.fDn).bind fun (x20 : Int) => (F42 Ak An Aw).bind fun (x23 : Bool) => if ¬ (x20 = 0) then (some (2, Aw)) else ((F55 a1.A9).bind fun (x26 : Bool) => if ¬ (x26 = true) then (some (2, Aw)) else ((F56 a1.A5).bind fun (x28 : Int) => if ¬ x28 = 0 then (some (2, Aw)) else ((F52 a1).bind fun (x32 : S33) => gd (x32.A5.length = 8) (some (0, some x32)))))) else ((F42 Ak An Aw).bind fun (x40 : Bool) => some (2, Aw))) else ((F42 Ak An Aw).bind fun (x46 : Bool) => some (2, Aw)))) else (if a1.Ac = [] then (if 0 < (a1.fDn.length : Int) then ((F54 a1.fDn).bind fun (x51 : Int) => (F42 Ak An Aw).bind fun (x54 : Bool) => if ¬ (x51 = 0) then (some (2, Aw)) else ((F55 a1.A9).bind fun (x57 : Bool) => if ¬ (x57 = true) then (some (2, Aw)) else ((F56 a1.A5).bind fun (x59 : Int) => if ¬ x59 = 0 then (some (2, Aw)) else ((F52 a1).bind fun (x63 : S33) => gd (x63.A5.length = 8) (some (0, some x63)))))) else ((F42 Ak An Aw).bind fun (x71 : Bool) => some (2, Aw))) else ((F42 Ak An Aw).bind fun (x77 : Bool) => some (2, Aw))))
theorem YR {H : A2} {K : Au → A2 → Prop} (Ak : List (List UInt8 × S39)) (An : List (List UInt8 × (List UInt8))) (Aw : Option S33) (a1 : S33) (ka0 : Nat) (Ae : Nat) (Af : Nat) (Ar : H.obj ka0 = some (.cells ([.mp Ae, .mp Af, Be (fun (x : S33) => .v (str x.A9) :: .v (str x.Ac) :: .sl 2 (x.fDn.map fun x => [.v (str x.fType), .v (str x.A7)]) :: (x.A5.map fun x => .sl 1 (x.map fun x => [.v (str x)]))) Aw]))) (Am : H.obj Ae = some (.map (mE (fun (x : S39) => .ag (.v (str x.A9) :: .v (str x.Ac) :: (x.A5.map fun x => .sl 1 (x.map fun x => [.v (str x)])))) Ak))) (Ao : H.obj Af = some (.map (mE (fun (x : List UInt8) => .v (str x)) An))) {r : Int × (Option S33)} (h : F27 Ak An Aw a1 = some r) (hK : K (.ret (.v (.int .i64 r.1))) (BE H [(ka0, .cells ([.mp Ae, .mp Af, Be (fun (x : S33) => .v (str x.A9) :: .v (str x.Ac) :: .sl 2 (x.fDn.map fun x => [.v (str x.fType), .v (str x.A7)]) :: (x.A5.map fun x => .sl 1 (x.map fun x => [.v (str x)]))) r.2]))])) : Aa prog 27 [.p ka0 0, .ag (.v (str a1.A9) :: .v (str a1.Ac) :: .sl 2 (a1.fDn.map fun x => [.v (str x.fType), .v (str x.A7)]) :: (a1.A5.map fun x => .sl 1 (x.map fun x => [.v (str x)])))] H K := by
 refine Ag (N := 55) func27 (by kernel_rfl) rfl (by kernel_rfl) (by kernel_rfl) fun cb hcb hw hbd hnb => ?_; clear hbd hnb; subst hcb; unfold F27 at h; have DZ : ka0 < H.next := Nat.lt_of_not_le fun q => by rw [hw _ q] at Ar; cases Ar
 have BV : Ae < H.next := Nat.lt_of_not_le fun q => by rw [hw _ q] at Am; cases Am
 have BW : Af < H.next := Nat.lt_of_not_le fun q => by rw [hw _ q] at Ao; cases Ao
 have D_ : ¬ ka0 = Ae := fun q => by rw [q] at Ar; rw [Ar] at Am; cases Am
 have Lq : ¬ Ae = ka0 := fun q => D_ q.symm; have Ka : ¬ ka0 = Af := fun q => by rw [q] at Ar; rw [Ar] at Ao; cases Ao
 have Th : ¬ Af = ka0 := fun q => Ka q.symm; obtain ⟨g2, h⟩ := Ad.1 h; refine wG ?_; refine A3 fun cb hc3 => ?_; refine vF g2 ?_; obtain ⟨x4, hx4, h⟩ := A4 h; refine Tf a1.Ac hx4 ?_; refine sG ?_; refine A6 h eA ?_ ?_
 ·intro c81 h; refine sF g2 ?_; refine A6 h eA ?_ ?_
  ·intro c50 h; simp (disch := omega) at c50; refine sG ?_; subst hc3; refine A3 fun cb hc5 => ?_; refine Ah ?_; refine A3 fun cb hc6 => ?_; refine vG ?_; obtain ⟨x7, hx7, h⟩ := A4 h; cases (show some false = some x7 from hx7); refine Ci Ak An Aw ka0 Ae Af (eF Ar) (eF Am) (eF Ao) hx7 ?_; refine sG ?_; subst hc6; refine Al eA rfl ?_; refine A3 fun cb hc8 => ?_; refine vF g2 ?_; obtain ⟨x9, hx9, h⟩ := A4 h; refine Mm a1.A9 hx9 ?_; refine sG ?_; refine A6 h eA ?_ ?_
   ·intro c19 h; simp (disch := omega) at c19; refine sG ?_; subst hc8; refine Ai eA rfl ?_; refine wG ?_; refine vO ?_; obtain rfl := sI h; refine sG ?_; refine Aq (r' := .v (.int .i64 2)) (io1 ka0 (.cells ([.mp Ae, .mp Af, Be (fun (x : S33) => .v (str x.A9) :: .v (str x.Ac) :: .sl 2 (x.fDn.map fun x => [.v (str x.fType), .v (str x.A7)]) :: (x.A5.map fun x => .sl 1 (x.map fun x => [.v (str x)]))) Aw])) (by exact As (Ext.AW (Ext.refl hw) ka0)) (by omega) (by simp -implicitDefEqProofs (disch := omega) [go_sem, Ar]) (by exact Bz)) rfl (.same (by exact nbA)) hK
   intro c19 h; simp (disch := omega) at c19; refine sF g2 ?_; obtain ⟨x11, hx11, h⟩ := A4 h; refine K7 a1.A5 hx11 ?_; refine sG ?_; subst hc8; refine A8 h eA rfl ?_ ?_
   ·intro c12 h; refine wG ?_; refine vO ?_; obtain rfl := sI h; refine sG ?_; refine Aq (r' := .v (.int .i64 2)) (io1 ka0 (.cells ([.mp Ae, .mp Af, Be (fun (x : S33) => .v (str x.A9) :: .v (str x.Ac) :: .sl 2 (x.fDn.map fun x => [.v (str x.fType), .v (str x.A7)]) :: (x.A5.map fun x => .sl 1 (x.map fun x => [.v (str x)]))) Aw])) (by exact As (Ext.AW (Ext.refl hw) ka0)) (by omega) (by simp -implicitDefEqProofs (disch := omega) [go_sem, Ar]) (by exact Bz)) rfl (.same (by exact nbA)) hK
   intro c12 h; simp (disch := omega) at c12; refine vO ?_; subst hc5; refine A3 fun cb hc14 => ?_; refine vF g2 ?_; obtain ⟨x15, hx15, h⟩ := A4 h; refine Ml a1 hx15 ?_; obtain ⟨g16, h⟩ := Ad.1 h; refine sF (nd g2 g16) ?_; subst hc14; refine A3 fun cb hc17 => ?_; refine vF Ar ?_; refine IWp.gh (Gh.SZ (k := H.next) (kb := ka0) (ck := .v (str x15.A9) :: .v (str x15.Ac) :: .sl 2 (x15.fDn.map fun x => [.v (str x.fType), .v (str x.A7)]) :: (x15.A5.map fun x => .sl 1 (x.map fun x => [.v (str x)]))) (cs := [.mp Ae, .mp Af, .p H.next 0]) (cs' := [.mp Ae, .mp Af, Be (fun (x : S33) => .v (str x.A9) :: .v (str x.Ac) :: .sl 2 (x.fDn.map fun x => [.v (str x.fType), .v (str x.A7)]) :: (x.A5.map fun x => .sl 1 (x.map fun x => [.v (str x)]))) (some x15)]) eA eA (by omega) (by repeat (first | exact GR.nil | refine GR.cons ?_ ?_ | exact FzP.p | exact FzP.same _))) ?_; subst hc17; refine wG ?_; refine vO ?_; obtain rfl := sI h; refine sG ?_; refine Aq (r' := .v (.int .i64 0)) (io1 ka0 (.cells ([.mp Ae, .mp Af, Be (fun (x : S33) => .v (str x.A9) :: .v (str x.Ac) :: .sl 2 (x.fDn.map fun x => [.v (str x.fType), .v (str x.A7)]) :: (x.A5.map fun x => .sl 1 (x.map fun x => [.v (str x)]))) (some x15)])) (by exact As (Ext.AW (Ext.refl hw) ka0)) (by omega) (by simp -implicitDefEqProofs (disch := omega) [go_sem]) (by exact Bz)) rfl (.same (by exact nbA)) hK
  intro c50 h; simp (disch := omega) at c50; refine sF g2 ?_; refine A6 h rfl ?_ ?_
  ·intro c49 h; refine sF g2 ?_; refine A6 h eA ?_ ?_
   ·intro c43 h; simp (disch := omega) at c43; refine sF g2 ?_; obtain ⟨x20, hx20, h⟩ := A4 h; refine OY a1.fDn hx20 ?_; refine sG ?_; subst hc3; refine A3 fun cb hc21 => ?_; refine Ah ?_; refine A3 fun cb hc22 => ?_; refine vG ?_; obtain ⟨x23, hx23, h⟩ := A4 h; cases (show some false = some x23 from hx23); refine Ci Ak An Aw ka0 Ae Af (eF Ar) (eF Am) (eF Ao) hx23 ?_; refine sG ?_; subst hc22; refine Al eA rfl ?_; refine A3 fun cb hc24 => ?_; refine vG ?_; refine A6 h eA ?_ ?_
    ·intro c37 h; refine sG ?_; subst hc24; refine Ai eA rfl ?_; refine wG ?_; refine vO ?_; obtain rfl := sI h; refine sG ?_; refine Aq (r' := .v (.int .i64 2)) (io1 ka0 (.cells ([.mp Ae, .mp Af, Be (fun (x : S33) => .v (str x.A9) :: .v (str x.Ac) :: .sl 2 (x.fDn.map fun x => [.v (str x.fType), .v (str x.A7)]) :: (x.A5.map fun x => .sl 1 (x.map fun x => [.v (str x)]))) Aw])) (by exact As (Ext.AW (Ext.refl hw) ka0)) (by omega) (by simp -implicitDefEqProofs (disch := omega) [go_sem, Ar]) (by exact Bz)) rfl (.same (by exact nbA)) hK
    intro c37 h; simp (disch := omega) at c37; refine sF g2 ?_; obtain ⟨x26, hx26, h⟩ := A4 h; refine Mm a1.A9 hx26 ?_; refine sG ?_; refine A6 h eA ?_ ?_
    ·intro c36 h; simp (disch := omega) at c36; refine sG ?_; subst hc24; refine Ai eA rfl ?_; refine wG ?_; refine vO ?_; obtain rfl := sI h; refine sG ?_; refine Aq (r' := .v (.int .i64 2)) (io1 ka0 (.cells ([.mp Ae, .mp Af, Be (fun (x : S33) => .v (str x.A9) :: .v (str x.Ac) :: .sl 2 (x.fDn.map fun x => [.v (str x.fType), .v (str x.A7)]) :: (x.A5.map fun x => .sl 1 (x.map fun x => [.v (str x)]))) Aw])) (by exact As (Ext.AW (Ext.refl hw) ka0)) (by omega) (by simp -implicitDefEqProofs (disch := omega) [go_sem, Ar]) (by exact Bz)) rfl (.same (by exact nbA)) hK
    intro c36 h; simp (disch := omega) at c36; refine sF g2 ?_; obtain ⟨x28, hx28, h⟩ := A4 h; refine K7 a1.A5 hx28 ?_; refine sG ?_; subst hc24; refine A8 h eA rfl ?_ ?_
    ·intro c29 h; refine wG ?_; refine vO ?_; obtain rfl := sI h; refine sG ?_; refine Aq (r' := .v (.int .i64 2)) (io1 ka0 (.cells ([.mp Ae, .mp Af, Be (fun (x : S33) => .v (str x.A9) :: .v (str x.Ac) :: .sl 2 (x.fDn.map fun x => [.v (str x.fType), .v (str x.A7)]) :: (x.A5.map fun x => .sl 1 (x.map fun x => [.v (str x)]))) Aw])) (by exact As (Ext.AW (Ext.refl hw) ka0)) (by omega) (by simp -implicitDefEqProofs (disch := omega) [go_sem, Ar]) (by exact Bz)) rfl (.same (by exact nbA)) hK
    intro c29 h; simp (disch := omega) at c29; refine vO ?_; subst hc21; refine A3 fun cb hc31 => ?_; refine vF g2 ?_; obtain ⟨x32, hx32, h⟩ := A4 h; refine Ml a1 hx32 ?_; obtain ⟨g33, h⟩ := Ad.1 h; refine sF (nd g2 g33) ?_; subst hc31; refine A3 fun cb hc34 => ?_; refine vF Ar ?_; refine IWp.gh (Gh.SZ (k := H.next) (kb := ka0) (ck := .v (str x32.A9) :: .v (str x32.Ac) :: .sl 2 (x32.fDn.map fun x => [.v (str x.fType), .v (str x.A7)]) :: (x32.A5.map fun x => .sl 1 (x.map fun x => [.v (str x)]))) (cs := [.mp Ae, .mp Af, .p H.next 0]) (cs' := [.mp Ae, .mp Af, Be (fun (x : S33) => .v (str x.A9) :: .v (str x.Ac) :: .sl 2 (x.fDn.map fun x => [.v (str x.fType), .v (str x.A7)]) :: (x.A5.map fun x => .sl 1 (x.map fun x => [.v (str x)]))) (some x32)]) eA eA (by omega) (by repeat (first | exact GR.nil | refine GR.cons ?_ ?_ | exact FzP.p | exact FzP.same _))) ?_; subst hc34; refine wG ?_; refine vO ?_; obtain rfl := sI h; refine sG ?_; refine Aq (r' := .v (.int .i64 0)) (io1 ka0 (.cells ([.mp Ae, .mp Af, Be (fun (x : S33) => .v (str x.A9) :: .v (str x.Ac) :: .sl 2 (x.fDn.map fun x => [.v (str x.fType), .v (str x.A7)]) :: (x.A5.map fun x => .sl 1 (x.map fun x => [.v (str x)]))) (some x32)])) (by exact As (Ext.AW (Ext.refl hw) ka0)) (by omega) (by simp -implicitDefEqProofs (disch := omega) [go_sem]) (by exact Bz)) rfl (.same (by exact nbA)) hK
   intro c43 h; simp (disch := omega) at c43; refine sG ?_; subst hc3; refine A3 fun cb hc38 => ?_; refine Ah ?_; refine A3 fun cb hc39 => ?_; refine vG ?_; obtain ⟨x40, hx40, h⟩ := A4 h; cases (show some false = some x40 from hx40); refine Ci Ak An Aw ka0 Ae Af (eF Ar) (eF Am) (eF Ao) hx40 ?_; refine sG ?_; subst hc39; refine Al eA rfl ?_; refine wG ?_; refine Ai eA rfl ?_; refine wG ?_; refine vO ?_; obtain rfl := sI h; refine sG ?_; refine Aq (r' := .v (.int .i64 2)) (io1 ka0 (.cells ([.mp Ae, .mp Af, Be (fun (x : S33) => .v (str x.A9) :: .v (str x.Ac) :: .sl 2 (x.fDn.map fun x => [.v (str x.fType), .v (str x.A7)]) :: (x.A5.map fun x => .sl 1 (x.map fun x => [.v (str x)]))) Aw])) (by exact As (Ext.AW (Ext.refl hw) ka0)) (by omega) (by simp -implicitDefEqProofs (disch := omega) [go_sem, Ar]) (by exact Bz)) rfl (.same (by exact nbA)) hK
  intro c49 h; refine sG ?_; subst hc3; refine A3 fun cb hc44 => ?_; refine Ah ?_; refine A3 fun cb hc45 => ?_; refine vG ?_; obtain ⟨x46, hx46, h⟩ := A4 h; cases (show some false = some x46 from hx46); refine Ci Ak An Aw ka0 Ae Af (eF Ar) (eF Am) (eF Ao) hx46 ?_; refine sG ?_; subst hc45; refine Al eA rfl ?_; refine wG ?_; refine Ai eA rfl ?_; refine wG ?_; refine vO ?_; obtain rfl := sI h; refine sG ?_; refine Aq (r' := .v (.int .i64 2)) (io1 ka0 (.cells ([.mp Ae, .mp Af, Be (fun (x : S33) => .v (str x.A9) :: .v (str x.Ac) :: .sl 2 (x.fDn.map fun x => [.v (str x.fType), .v (str x.A7)]) :: (x.A5.map fun x => .sl 1 (x.map fun x => [.v (str x)]))) Aw])) (by exact As (Ext.AW (Ext.refl hw) ka0)) (by omega) (by simp -implicitDefEqProofs (disch := omega) [go_sem, Ar]) (by exact Bz)) rfl (.same (by exact nbA)) hK
 intro c81 h; simp (disch := omega) at c81; refine sF g2 ?_; refine A6 h rfl ?_ ?_
 ·intro c80 h; refine sF g2 ?_; refine A6 h eA ?_ ?_
  ·intro c74 h; simp (disch := omega) at c74; refine sF g2 ?_; obtain ⟨x51, hx51, h⟩ := A4 h; refine OY a1.fDn hx51 ?_; refine sG ?_; subst hc3; refine A3 fun cb hc52 => ?_; refine Ah ?_; refine A3 fun cb hc53 => ?_; refine vG ?_; obtain ⟨x54, hx54, h⟩ := A4 h; cases (show some false = some x54 from hx54); refine Ci Ak An Aw ka0 Ae Af (eF Ar) (eF Am) (eF Ao) hx54 ?_; refine sG ?_; subst hc53; refine Al eA rfl ?_; refine A3 fun cb hc55 => ?_; refine vG ?_; refine A6 h eA ?_ ?_
   ·intro c68 h; refine sG ?_; subst hc55; refine Ai eA rfl ?_; refine wG ?_; refine vO ?_; obtain rfl := sI h; refine sG ?_; refine Aq (r' := .v (.int .i64 2)) (io1 ka0 (.cells ([.mp Ae, .mp Af, Be (fun (x : S33) => .v (str x.A9) :: .v (str x.Ac) :: .sl 2 (x.fDn.map fun x => [.v (str x.fType), .v (str x.A7)]) :: (x.A5.map fun x => .sl 1 (x.map fun x => [.v (str x)]))) Aw])) (by exact As (Ext.AW (Ext.refl hw) ka0)) (by omega) (by simp -implicitDefEqProofs (disch := omega) [go_sem, Ar]) (by exact Bz)) rfl (.same (by exact nbA)) hK
   intro c68 h; simp (disch := omega) at c68; refine sF g2 ?_; obtain ⟨x57, hx57, h⟩ := A4 h; refine Mm a1.A9 hx57 ?_; refine sG ?_; refine A6 h eA ?_ ?_
   ·intro c67 h; simp (disch := omega) at c67; refine sG ?_; subst hc55; refine Ai eA rfl ?_; refine wG ?_; refine vO ?_; obtain rfl := sI h; refine sG ?_; refine Aq (r' := .v (.int .i64 2)) (io1 ka0 (.cells ([.mp Ae, .mp Af, Be (fun (x : S33) => .v (str x.A9) :: .v (str x.Ac) :: .sl 2 (x.fDn.map fun x => [.v (str x.fType), .v (str x.A7)]) :: (x.A5.map fun x => .sl 1 (x.map fun x => [.v (str x)]))) Aw])) (by exact As (Ext.AW (Ext.refl hw) ka0)) (by omega) (by simp -implicitDefEqProofs (disch := omega) [go_sem, Ar]) (by exact Bz)) rfl (.same (by exact nbA)) hK
   intro c67 h; simp (disch := omega) at c67; refine sF g2 ?_; obtain ⟨x59, hx59, h⟩ := A4 h; refine K7 a1.A5 hx59 ?_; refine sG ?_; subst hc55; refine A8 h eA rfl ?_ ?_
   ·intro c60 h; refine wG ?_; refine vO ?_; obtain rfl := sI h; refine sG ?_; refine Aq (r' := .v (.int .i64 2)) (io1 ka0 (.cells ([.mp Ae, .mp Af, Be (fun (x : S33) => .v (str x.A9) :: .v (str x.Ac) :: .sl 2 (x.fDn.map fun x => [.v (str x.fType), .v (str x.A7)]) :: (x.A5.map fun x => .sl 1 (x.map fun x => [.v (str x)]))) Aw])) (by exact As (Ext.AW (Ext.refl hw) ka0)) (by omega) (by simp -implicitDefEqProofs (disch := omega) [go_sem, Ar]) (by exact Bz)) rfl (.same (by exact nbA)) hK
   intro c60 h; simp (disch := omega) at c60; refine vO ?_; subst hc52; refine A3 fun cb hc62 => ?_; refine vF g2 ?_; obtain ⟨x63, hx63, h⟩ := A4 h; refine Ml a1 hx63 ?_; obtain ⟨g64, h⟩ := Ad.1 h; refine sF (nd g2 g64) ?_; subst hc62; refine A3 fun cb hc65 => ?_; refine vF Ar ?_; refine IWp.gh (Gh.SZ (k := H.next) (kb := ka0) (ck := .v (str x63.A9) :: .v (str x63.Ac) :: .sl 2 (x63.fDn.map fun x => [.v (str x.fType), .v (str x.A7)]) :: (x63.A5.map fun x => .sl 1 (x.map fun x => [.v (str x)]))) (cs := [.mp Ae, .mp Af, .p H.next 0]) (cs' := [.mp Ae, .mp Af, Be (fun (x : S33) => .v (str x.A9) :: .v (str x.Ac) :: .sl 2 (x.fDn.map fun x => [.v (str x.fType), .v (str x.A7)]) :: (x.A5.map fun x => .sl 1 (x.map fun x => [.v (str x)]))) (some x63)]) eA eA (by omega) (by repeat (first | exact GR.nil | refine GR.cons ?_ ?_ | exact FzP.p | exact FzP.same _))) ?_; subst hc65; refine wG ?_; refine vO ?_; obtain rfl := sI h; refine sG ?_; refine Aq (r' := .v (.int .i64 0)) (io1 ka0 (.cells ([.mp Ae, .mp Af, Be (fun (x : S33) => .v (str x.A9) :: .v (str x.Ac) :: .sl 2 (x.fDn.map fun x => [.v (str x.fType), .v (str x.A7)]) :: (x.A5.map fun x => .sl 1 (x.map fun x => [.v (str x)]))) (some x63)])) (by exact As (Ext.AW (Ext.refl hw) ka0)) (by omega) (by simp -implicitDefEqProofs (disch := omega) [go_sem]) (by exact Bz)) rfl (.same (by exact nbA)) hK
  intro c74 h; simp (disch := omega) at c74; refine sG ?_; subst hc3; refine A3 fun cb hc69 => ?_; refine Ah ?_; refine A3 fun cb hc70 => ?_; refine vG ?_; obtain ⟨x71, hx71, h⟩ := A4 h; cases (show some false = some x71 from hx71); refine Ci Ak An Aw ka0 Ae Af (eF Ar) (eF Am) (eF Ao) hx71 ?_; refine sG ?_; subst hc70; refine Al eA rfl ?_; refine wG ?_; refine Ai eA rfl ?_; refine wG ?_; refine vO ?_; obtain rfl := sI h; refine sG ?_; refine Aq (r' := .v (.int .i64 2)) (io1 ka0 (.cells ([.mp Ae, .mp Af, Be (fun (x : S33) => .v (str x.A9) :: .v (str x.Ac) :: .sl 2 (x.fDn.map fun x => [.v (str x.fType), .v (str x.A7)]) :: (x.A5.map fun x => .sl 1 (x.map fun x => [.v (str x)]))) Aw])) (by exact As (Ext.AW (Ext.refl hw) ka0)) (by omega) (by simp -implicitDefEqProofs (disch := omega) [go_sem, Ar]) (by exact Bz)) rfl (.same (by exact nbA)) hK
 intro c80 h; refine sG ?_; subst hc3; refine A3 fun cb hc75 => ?_; refine Ah ?_; refine A3 fun cb hc76 => ?_; refine vG ?_; obtain ⟨x77, hx77, h⟩ := A4 h; cases (show some false = some x77 from hx77); refine Ci Ak An Aw ka0 Ae Af (eF Ar) (eF Am) (eF Ao) hx77 ?_; refine sG ?_; subst hc76; refine Al eA rfl ?_; refine wG ?_; refine Ai eA rfl ?_; refine wG ?_; refine vO ?_; obtain rfl := sI h; refine sG ?_; refine Aq (r' := .v (.int .i64 2)) (io1 ka0 (.cells ([.mp Ae, .mp Af, Be (fun (x : S33) => .v (str x.A9) :: .v (str x.Ac) :: .sl 2 (x.fDn.map fun x => [.v (str x.fType), .v (str x.A7)]) :: (x.A5.map fun x => .sl 1 (x.map fun x => [.v (str x)]))) Aw])) (by exact As (Ext.AW (Ext.refl hw) ka0)) (by omega) (by simp -implicitDefEqProofs (disch := omega) [go_sem, Ar]) (by exact Bz)) rfl (.same (by exact nbA)) hK
end Go.Idl
namespace Go.Idl
set_option maxHeartbeats 8000000
set_option pp.deepTerms false
set_option maxRecDepth 60000
open Go Go.Proofs.Tryz
noncomputable def F59 (GW : List (List UInt8 × S39)) (Aw : List (List UInt8 × (List UInt8))) (a1 : List UInt8) : Option ((List (List UInt8 × S39)) × (List (List UInt8 × (List UInt8)))) :=
 some ((G9 GW a1, G9 Aw (((B8 GW a1).getD S39.zero).Ac)))
theorem YS {H : A2} {K : Au → A2 → Prop} (GW : List (List UInt8 × S39)) (Aw : List (List UInt8 × (List UInt8))) (a1 : List UInt8) (CM : Nat) (CN : Nat) (F1 : H.obj CM = some (.map (mE (fun (x : S39) => .ag (.v (str x.A9) :: .v (str x.Ac) :: (x.A5.map fun x => .sl 1 (x.map fun x => [.v (str x)])))) GW))) (Gk : H.obj CN = some (.map (mE (fun (x : List UInt8) => .v (str x)) Aw))) (D_ : ¬ CM = CN) {r : (List (List UInt8 × S39)) × (List (List UInt8 × (List UInt8)))} (h : F59 GW Aw a1 = some r) (hK : K (.ret (.tu [])) (BE H [(CM, .map (mE (fun (x : S39) => .ag (.v (str x.A9) :: .v (str x.Ac) :: (x.A5.map fun x => .sl 1 (x.map fun x => [.v (str x)])))) r.1)), (CN, .map (mE (fun (x : List UInt8) => .v (str x)) r.2))])) : Aa prog 59 [.ag [.mp CM, .mp CN], .v (str a1)] H K := by
 refine Ag (N := 14) func59 (by kernel_rfl) rfl (by kernel_rfl) (by kernel_rfl) fun cb hcb hw hbd hnb => ?_; clear hbd hnb; subst hcb; unfold F59 at h; have YM : CM < H.next := Nat.lt_of_not_le fun q => by rw [hw _ q] at F1; cases F1
 have YN : CN < H.next := Nat.lt_of_not_le fun q => by rw [hw _ q] at Gk; cases Gk
 have Lq : ¬ CN = CM := fun q => D_ q.symm; refine wG ?_; refine A3 fun cb hc2 => ?_; refine v0 ?_; have hmL58 := @Ga _ (fun (x : S39) => .ag (.v (str x.A9) :: .v (str x.Ac) :: (x.A5.map fun x => .sl 1 (x.map fun x => [.v (str x)])))); have hmF58 := fun o => La (fun (x : S39) => .ag (.v (str x.A9) :: .v (str x.Ac) :: (x.A5.map fun x => .sl 1 (x.map fun x => [.v (str x)])))) S39.zero (z := .ag [.v (.string ⟨#[]⟩), .v (.string ⟨#[]⟩), .sl 1 [], .sl 1 [], .sl 1 [], .sl 1 [], .sl 1 [], .sl 1 [], .sl 1 [], .sl 1 []]) (o := o) (by rfl); have hmD59 := @PJ _ (fun (x : List UInt8) => .v (str x)); refine sF (nd F1 (nd Gk (nd @hmL58 (nd @hmF58 @hmD59)))) ?_; subst hc2; refine v0 ?_; have hmD58 := @PJ _ (fun (x : S39) => .ag (.v (str x.A9) :: .v (str x.Ac) :: (x.A5.map fun x => .sl 1 (x.map fun x => [.v (str x)])))); refine sF (nd F1 @hmD58) ?_; obtain rfl := sI h; refine Aq (r' := .tu []) (BZ.ioL [(CM, .map (mE (fun (x : S39) => .ag (.v (str x.A9) :: .v (str x.Ac) :: (x.A5.map fun x => .sl 1 (x.map fun x => [.v (str x)])))) (G9 GW a1))), (CN, .map (mE (fun (x : List UInt8) => .v (str x)) (G9 Aw (((B8 GW a1).getD S39.zero).Ac))))] (by simp only [BD, BT]; exact As (Ext.AW (Ext.AW (Ext.refl hw) CM) CN)) (by intro p hp; simp only [List.mem_cons, List.not_mem_nil, or_false] at hp; (try rcases hp with hp | hp); all_goals (subst hp; refine ⟨by omega, by simp -implicitDefEqProofs (disch := omega) [go_sem], by exact CT⟩))) rfl (.same (by exact nbA)) hK
noncomputable def F32 (Ak : List (List UInt8 × S39)) (An : List (List UInt8 × (List UInt8))) (Aw : Option S33) (a1 : List UInt8) : Option (Int × (List (List UInt8 × S39)) × (List (List UInt8 × (List UInt8)))) :=
 (F42 Ak An Aw).bind fun (x4 : Bool) => gd ((((B8 Ak a1).getD S39.zero).A5).length = 8) (if ¬ ((B8 Ak a1).isSome = true) then (some (5, Ak, An)) else ((F59 Ak An a1).bind fun (x12 : (List (List UInt8 × S39)) × (List (List UInt8 × (List UInt8)))) => some (0, x12.1, x12.2)))
theorem ko {H : A2} {K : Au → A2 → Prop} (Ak : List (List UInt8 × S39)) (An : List (List UInt8 × (List UInt8))) (Aw : Option S33) (a1 : List UInt8) (ka0 : Nat) (Ae : Nat) (Af : Nat) (Ar : H.obj ka0 = some (.cells ([.mp Ae, .mp Af, Be (fun (x : S33) => .v (str x.A9) :: .v (str x.Ac) :: .sl 2 (x.fDn.map fun x => [.v (str x.fType), .v (str x.A7)]) :: (x.A5.map fun x => .sl 1 (x.map fun x => [.v (str x)]))) Aw]))) (Am : H.obj Ae = some (.map (mE (fun (x : S39) => .ag (.v (str x.A9) :: .v (str x.Ac) :: (x.A5.map fun x => .sl 1 (x.map fun x => [.v (str x)])))) Ak))) (Ao : H.obj Af = some (.map (mE (fun (x : List UInt8) => .v (str x)) An))) (Tg : ¬ Ae = Af) {r : Int × (List (List UInt8 × S39)) × (List (List UInt8 × (List UInt8)))} (h : F32 Ak An Aw a1 = some r) (hK : K (.ret (.v (.int .i64 r.1))) (BE H [(Ae, .map (mE (fun (x : S39) => .ag (.v (str x.A9) :: .v (str x.Ac) :: (x.A5.map fun x => .sl 1 (x.map fun x => [.v (str x)])))) r.2.1)), (Af, .map (mE (fun (x : List UInt8) => .v (str x)) r.2.2))])) : Aa prog 32 [.p ka0 0, .v (str a1)] H K := by
 refine Ag (N := 27) func32 (by kernel_rfl) rfl (by kernel_rfl) (by kernel_rfl) fun cb hcb hw hbd hnb => ?_; clear hbd hnb; subst hcb; unfold F32 at h; have DZ : ka0 < H.next := Nat.lt_of_not_le fun q => by rw [hw _ q] at Ar; cases Ar
 have BV : Ae < H.next := Nat.lt_of_not_le fun q => by rw [hw _ q] at Am; cases Am
 have BW : Af < H.next := Nat.lt_of_not_le fun q => by rw [hw _ q] at Ao; cases Ao
 have D_ : ¬ ka0 = Ae := fun q => by rw [q] at Ar; rw [Ar] at Am; cases Am
 have Lq : ¬ Ae = ka0 := fun q => D_ q.symm; have Ka : ¬ ka0 = Af := fun q => by rw [q] at Ar; rw [Ar] at Ao; cases Ao
 have Th : ¬ Af = ka0 := fun q => Ka q.symm; have eR : ¬ Af = Ae := fun q => Tg q.symm; refine wG ?_; refine A3 fun cb hc2 => ?_; refine A3 fun cb hc3 => ?_; refine vG ?_; obtain ⟨x4, hx4, h⟩ := A4 h; cases (show some false = some x4 from hx4); refine Ci Ak An Aw ka0 Ae Af (by assumption) (by assumption) (by assumption) hx4 ?_; refine sG ?_; subst hc3; refine Al eA rfl ?_; refine vO ?_; subst hc2; refine A3 fun cb hc5 => ?_; refine A3 fun cb hc6 => ?_; refine v0 ?_; have hmL58 := @Ga _ (fun (x : S39) => .ag (.v (str x.A9) :: .v (str x.Ac) :: (x.A5.map fun x => .sl 1 (x.map fun x => [.v (str x)])))); have hmT58 := fun o => PK (fun (x : S39) => .ag (.v (str x.A9) :: .v (str x.Ac) :: (x.A5.map fun x => .sl 1 (x.map fun x => [.v (str x)])))) S39.zero (z := .ag [.v (.string ⟨#[]⟩), .v (.string ⟨#[]⟩), .sl 1 [], .sl 1 [], .sl 1 [], .sl 1 [], .sl 1 [], .sl 1 [], .sl 1 [], .sl 1 []]) (o := o) (by rfl); obtain ⟨g7, h⟩ := Ad.1 h; refine sF (nd Am (nd Ar (nd @hmL58 (nd @hmT58 g7)))) ?_; subst hc6; refine wG ?_; refine A8 h eA rfl ?_ ?_
 ·intro c9 h; simp (disch := omega) at c9; refine wG ?_; refine vO ?_; obtain rfl := sI h; refine sG ?_; refine Aq (r' := .v (.int .i64 5)) (BZ.ioL [(Ae, .map (mE (fun (x : S39) => .ag (.v (str x.A9) :: .v (str x.Ac) :: (x.A5.map fun x => .sl 1 (x.map fun x => [.v (str x)])))) Ak)), (Af, .map (mE (fun (x : List UInt8) => .v (str x)) An))] (by simp only [BD, BT]; exact As (Ext.AW (Ext.AW (Ext.refl hw) Ae) Af)) (by intro p hp; simp only [List.mem_cons, List.not_mem_nil, or_false] at hp; (try rcases hp with hp | hp); all_goals (subst hp; refine ⟨by omega, by simp -implicitDefEqProofs (disch := omega) [go_sem, Am, Ao], by exact CT⟩))) rfl (.same (by exact nbA)) hK
 intro c9 h; simp (disch := omega) at c9; refine vO ?_; subst hc5; refine A3 fun cb hc11 => ?_; refine vF Ar ?_; obtain ⟨x12, hx12, h⟩ := A4 h; refine Aa.wkL (args' := [.ag [.mp Ae, .mp Af], .v (str a1)]) (by repeat (first | exact WkL.nil | refine WkL.cons ?_ ?_ | exact Wk.refl _)) (YS Ak An a1 Ae Af (eF Am) (eF Ao) (by assumption) hx12 ?_); refine sG ?_; subst hc11; refine wG ?_; refine vO ?_; obtain rfl := sI h; refine sG ?_; refine Aq (r' := .v (.int .i64 0)) (BZ.ioL [(Ae, .map (mE (fun (x : S39) => .ag (.v (str x.A9) :: .v (str x.Ac) :: (x.A5.map fun x => .sl 1 (x.map fun x => [.v (str x)])))) x12.1)), (Af, .map (mE (fun (x : List UInt8) => .v (str x)) x12.2))] (by simp only [BD, BT]; exact As (Ext.AW (Ext.AW (Ext.refl hw) Ae) Af)) (by intro p hp; simp only [List.mem_cons, List.not_mem_nil, or_false] at hp; (try rcases hp with hp | hp); all_goals (subst hp; refine ⟨by omega, by simp -implicitDefEqProofs (disch := omega) [go_sem], by exact CT⟩))) rfl (.same (by exact nbA)) hK
noncomputable def F34 (Ak : List (List UInt8 × S39)) (An : List (List UInt8 × (List UInt8))) (Aw : Option S33) : Option Int :=
 (F42 Ak An Aw).bind fun (x4 : Bool) => some (Ak.length : Int)
theorem YT {H : A2} {K : Au → A2 → Prop} (Ak : List (List UInt8 × S39)) (An : List (List UInt8 × (List UInt8))) (Aw : Option S33) (ka0 : Nat) (Ae : Nat) (Af : Nat) (Ar : H.obj ka0 = some (.cells ([.mp Ae, .mp Af, Be (fun (x : S33) => .v (str x.A9) :: .v (str x.Ac) :: .sl 2 (x.fDn.map fun x => [.v (str x.fType), .v (str x.A7)]) :: (x.A5.map fun x => .sl 1 (x.map fun x => [.v (str x)]))) Aw]))) (Am : H.obj Ae = some (.map (mE (fun (x : S39) => .ag (.v (str x.A9) :: .v (str x.Ac) :: (x.A5.map fun x => .sl 1 (x.map fun x => [.v (str x)])))) Ak))) (Ao : H.obj Af = some (.map (mE (fun (x : List UInt8) => .v (str x)) An))) {r : Int} (h : F34 Ak An Aw = some r) (hK : K (.ret (.v (.int .i64 r))) H) : Aa prog 34 [.p ka0 0] H K := by
 refine Ag (N := 11) func34 (by kernel_rfl) rfl (by kernel_rfl) (by kernel_rfl) fun cb hcb hw hbd hnb => ?_; clear hbd hnb; subst hcb; unfold F34 at h; have DZ : ka0 < H.next := Nat.lt_of_not_le fun q => by rw [hw _ q] at Ar; cases Ar
 have BV : Ae < H.next := Nat.lt_of_not_le fun q => by rw [hw _ q] at Am; cases Am
 have BW : Af < H.next := Nat.lt_of_not_le fun q => by rw [hw _ q] at Ao; cases Ao
 refine wG ?_; refine A3 fun cb hc2 => ?_; refine A3 fun cb hc3 => ?_; refine vG ?_; obtain ⟨x4, hx4, h⟩ := A4 h; cases (show some false = some x4 from hx4); refine Ci Ak An Aw ka0 Ae Af (by assumption) (by assumption) (by assumption) hx4 ?_; refine sG ?_; subst hc3; refine Al eA rfl ?_; refine vO ?_; subst hc2; refine wF (nd Am Ar) ?_; refine vO ?_; obtain rfl := sI h; refine sG ?_; exact Ap (.refl hw) hK
noncomputable def F21 (Ak : List (List UInt8 × S39)) (An : List (List UInt8 × (List UInt8))) (Aw : Option S33) (a1 : List UInt8) : Option (S39 × Bool) :=
 (F42 Ak An Aw).bind fun (x4 : Bool) => gd ((((B8 Ak a1).getD S39.zero).A5).length = 8) ((F45 ((B8 Ak a1).getD S39.zero)).bind fun (x8 : S39) => gd (x8.A5.length = 8) (some ((x8, (B8 Ak a1).isSome))))
theorem YU {H : A2} {K : Au → A2 → Prop} (Ak : List (List UInt8 × S39)) (An : List (List UInt8 × (List UInt8))) (Aw : Option S33) (a1 : List UInt8) (ka0 : Nat) (Ae : Nat) (Af : Nat) (Ar : H.obj ka0 = some (.cells ([.mp Ae, .mp Af, Be (fun (x : S33) => .v (str x.A9) :: .v (str x.Ac) :: .sl 2 (x.fDn.map fun x => [.v (str x.fType), .v (str x.A7)]) :: (x.A5.map fun x => .sl 1 (x.map fun x => [.v (str x)]))) Aw]))) (Am : H.obj Ae = some (.map (mE (fun (x : S39) => .ag (.v (str x.A9) :: .v (str x.Ac) :: (x.A5.map fun x => .sl 1 (x.map fun x => [.v (str x)])))) Ak))) (Ao : H.obj Af = some (.map (mE (fun (x : List UInt8) => .v (str x)) An))) {r : S39 × Bool} (h : F21 Ak An Aw a1 = some r) (hK : K (.ret (.tu [.ag (.v (str r.1.A9) :: .v (str r.1.Ac) :: (r.1.A5.map fun x => .sl 1 (x.map fun x => [.v (str x)]))), .v (.bool r.2)])) H) : Aa prog 21 [.p ka0 0, .v (str a1)] H K := by
 refine Ag (N := 24) func21 (by kernel_rfl) rfl (by kernel_rfl) (by kernel_rfl) fun cb hcb hw hbd hnb => ?_; clear hbd hnb; subst hcb; unfold F21 at h; have DZ : ka0 < H.next := Nat.lt_of_not_le fun q => by rw [hw _ q] at Ar; cases Ar
 have BV : Ae < H.next := Nat.lt_of_not_le fun q => by rw [hw _ q] at Am; cases Am
 have BW : Af < H.next := Nat.lt_of_not_le fun q => by rw [hw _ q] at Ao; cases Ao
 refine wG ?_; refine A3 fun cb hc2 => ?_; refine A3 fun cb hc3 => ?_; refine vG ?_; obtain ⟨x4, hx4, h⟩ := A4 h; cases (show some false = some x4 from hx4); refine Ci Ak An Aw ka0 Ae Af (eF Ar) (eF Am) (eF Ao) hx4 ?_; refine sG ?_; subst hc3; refine Al eA rfl ?_; refine vO ?_; subst hc2; refine A3 fun cb hc5 => ?_; refine v0 ?_; have hmL58 := @Ga _ (fun (x : S39) => .ag (.v (str x.A9) :: .v (str x.Ac) :: (x.A5.map fun x => .sl 1 (x.map fun x => [.v (str x)])))); have hmT58 := fun o => PK (fun (x : S39) => .ag (.v (str x.A9) :: .v (str x.Ac) :: (x.A5.map fun x => .sl 1 (x.map fun x => [.v (str x)])))) S39.zero (z := .ag [.v (.string ⟨#[]⟩), .v (.string ⟨#[]⟩), .sl 1 [], .sl 1 [], .sl 1 [], .sl 1 [], .sl 1 [], .sl 1 [], .sl 1 [], .sl 1 []]) (o := o) (by rfl); obtain ⟨g6, h⟩ := Ad.1 h; refine sF (nd Am (nd Ar (nd @hmL58 (nd @hmT58 g6)))) ?_; subst hc5; refine A3 fun cb hc7 => ?_; refine vF g6 ?_; obtain ⟨x8, hx8, h⟩ := A4 h; refine Mk ((B8 Ak a1).getD S39.zero) hx8 ?_; obtain ⟨g9, h⟩ := Ad.1 h; refine sF g9 ?_; subst hc7; refine vO ?_; obtain rfl := sI h; refine sF g9 ?_; exact Ap (.refl hw) hK
noncomputable def F18 (Ak : List (List UInt8 × S39)) (An : List (List UInt8 × (List UInt8))) (Aw : Option S33) (a1 : List UInt8) : Option (S39 × Bool) :=
 (F42 Ak An Aw).bind fun (x4 : Bool) => (F21 Ak An Aw ((B8 An a1).getD [])).bind fun (x6 : S39 × Bool) => gd (x6.1.A5.length = 8) (some (x6.1, x6.2))
theorem YV {H : A2} {K : Au → A2 → Prop} (Ak : List (List UInt8 × S39)) (An : List (List UInt8 × (List UInt8))) (Aw : Option S33) (a1 : List UInt8) (ka0 : Nat) (Ae : Nat) (Af : Nat) (Ar : H.obj ka0 = some (.cells ([.mp Ae, .mp Af, Be (fun (x : S33) => .v (str x.A9) :: .v (str x.Ac) :: .sl 2 (x.fDn.map fun x => [.v (str x.fType), .v (str x.A7)]) :: (x.A5.map fun x => .sl 1 (x.map fun x => [.v (str x)]))) Aw]))) (Am : H.obj Ae = some (.map (mE (fun (x : S39) => .ag (.v (str x.A9) :: .v (str x.Ac) :: (x.A5.map fun x => .sl 1 (x.map fun x => [.v (str x)])))) Ak))) (Ao : H.obj Af = some (.map (mE (fun (x : List UInt8) => .v (str x)) An))) {r : S39 × Bool} (h : F18 Ak An Aw a1 = some r) (hK : K (.ret (.tu [.ag (.v (str r.1.A9) :: .v (str r.1.Ac) :: (r.1.A5.map fun x => .sl 1 (x.map fun x => [.v (str x)]))), .v (.bool r.2)])) H) : Aa prog 18 [.p ka0 0, .v (str a1)] H K := by
 refine Ag (N := 20) func18 (by kernel_rfl) rfl (by kernel_rfl) (by kernel_rfl) fun cb hcb hw hbd hnb => ?_; clear hbd hnb; subst hcb; unfold F18 at h; have DZ : ka0 < H.next := Nat.lt_of_not_le fun q => by rw [hw _ q] at Ar; cases Ar
 have BV : Ae < H.next := Nat.lt_of_not_le fun q => by rw [hw _ q] at Am; cases Am
 have BW : Af < H.next := Nat.lt_of_not_le fun q => by rw [hw _ q] at Ao; cases Ao
 refine wG ?_; refine A3 fun cb hc2 => ?_; refine A3 fun cb hc3 => ?_; refine vG ?_; obtain ⟨x4, hx4, h⟩ := A4 h; cases (show some false = some x4 from hx4); refine Ci Ak An Aw ka0 Ae Af (eF Ar) (eF Am) (eF Ao) hx4 ?_; refine sG ?_; subst hc3; refine Al eA rfl ?_; refine vO ?_; subst hc2; refine A3 fun cb hc5 => ?_; refine v0 ?_; have hmL59 := @Ga _ (fun (x : List UInt8) => .v (str x)); have hmF59 := fun o => La (fun (x : List UInt8) => .v (str x)) ([] : List UInt8) (z := .v (str ([] : List UInt8))) (o := o) (by rfl); refine sF (nd Ao (nd Ar (nd @hmL59 @hmF59))) ?_; obtain ⟨x6, hx6, h⟩ := A4 h; refine YU Ak An Aw ((B8 An a1).getD []) ka0 Ae Af (eF Ar) (eF Am) (eF Ao) hx6 ?_; obtain ⟨g7, h⟩ := Ad.1 h; refine sF g7 ?_; subst hc5; refine vO ?_; obtain rfl := sI h; refine sF g7 ?_; exact Ap (.refl hw) hK
noncomputable def OZ (v13 : List S39) : Option (List S39) :=
 some v13
noncomputable def HY (Ak : List (List UInt8 × S39)) (x8 : (List (List UInt8))) (v10 : Int) (v11 : List S39) : Option ((Int × (List S39)) ⊕ (List S39)) :=
 if v10 < (x8.length : Int) then (gd (0 ≤ v10 ∧ v10 < x8.length) ((F45 ((B8 Ak (x8.getD v10.toNat [])).getD S39.zero)).bind fun (x22 : S39) => gd (x22.A5.length = 8) (gd ((v11.length + ([x22]).length) * 224 ≤ 140737488355328) (some (.inl ((IntKind.i64.wrap (v10 + 1), v11 ++ ([x22])))))))) else (some (.inr v11))
noncomputable def F14 (Ak : List (List UInt8 × S39)) (An : List (List UInt8 × (List UInt8))) (Aw : Option S33) : Option (List S39) :=
 (F42 Ak An Aw).bind fun (x5 : Bool) => (F43 Ak).bind fun (x8 : (List (List UInt8))) => (AD (fun (s : Int × (List S39)) => HY Ak x8 s.1 s.2) (0, [])).bind fun (e : (List S39)) => OZ e
theorem Tk {H : A2} {K : Au → A2 → Prop} (Ak : List (List UInt8 × S39)) (An : List (List UInt8 × (List UInt8))) (Aw : Option S33) (ka0 : Nat) (Ae : Nat) (Af : Nat) (Ar : H.obj ka0 = some (.cells ([.mp Ae, .mp Af, Be (fun (x : S33) => .v (str x.A9) :: .v (str x.Ac) :: .sl 2 (x.fDn.map fun x => [.v (str x.fType), .v (str x.A7)]) :: (x.A5.map fun x => .sl 1 (x.map fun x => [.v (str x)]))) Aw]))) (Am : H.obj Ae = some (.map (mE (fun (x : S39) => .ag (.v (str x.A9) :: .v (str x.Ac) :: (x.A5.map fun x => .sl 1 (x.map fun x => [.v (str x)])))) Ak))) (Ao : H.obj Af = some (.map (mE (fun (x : List UInt8) => .v (str x)) An))) {r : (List S39)} (h : F14 Ak An Aw = some r) (hK : K (.ret (.fn (.func 46) [] [.cp [.sl 10 (r.map fun x => .v (str x.A9) :: .v (str x.Ac) :: (x.A5.map fun x => .sl 1 (x.map fun x => [.v (str x)])))]])) H) : Aa prog 14 [.p ka0 0] H K := by
 refine Ag (N := 34) func14 (by kernel_rfl) rfl (by kernel_rfl) (by kernel_rfl) fun cb hcb hw hbd hnb => ?_; clear hbd hnb; subst hcb; unfold F14 at h; have DZ : ka0 < H.next := Nat.lt_of_not_le fun q => by rw [hw _ q] at Ar; cases Ar
 have BV : Ae < H.next := Nat.lt_of_not_le fun q => by rw [hw _ q] at Am; cases Am
 have BW : Af < H.next := Nat.lt_of_not_le fun q => by rw [hw _ q] at Ao; cases Ao
 refine wG ?_; refine wG ?_; refine A3 fun cb hc3 => ?_; refine A3 fun cb hc4 => ?_; refine vG ?_; obtain ⟨x5, hx5, h⟩ := A4 h; cases (show some false = some x5 from hx5); refine Ci Ak An Aw ka0 Ae Af (eF Ar) (eF Am) (eF Ao) hx5 ?_; refine sG ?_; subst hc4; refine Ai eA rfl ?_; refine A3 fun cb hc6 => ?_; refine vF Ar ?_; refine R8 (F := (fun (x : S39) => .ag (.v (str x.A9) :: .v (str x.Ac) :: (x.A5.map fun x => .sl 1 (x.map fun x => [.v (str x)]))))) Ak Ae (eF Am) ?_; refine sG ?_; obtain ⟨x8, hx8, h⟩ := A4 h; refine YH (F := (fun (x : S39) => .ag (.v (str x.A9) :: .v (str x.Ac) :: (x.A5.map fun x => .sl 1 (x.map fun x => [.v (str x)]))))) Ak (H.next + 1) Ae eA (eF Am) hx8 ?_; refine sG ?_; subst hc6; obtain ⟨y9, hl9q, hk9⟩ := A4 h; refine AF (fun tm' H' => ∃ n14 : Nat, ∃ v13 : List S39, v13 = y9 ∧ Ext H H' ∧ H.next + 2 ≤ H'.next ∧ H.next ≤ n14 ∧ n14 < H'.next ∧ ¬ Ae = n14 ∧ ¬ Af = n14 ∧ ¬ ka0 = n14 ∧ ¬ H.next = n14 ∧ ¬ H.next + 1 = n14 ∧ tm' 3 = .p H.next 0 ∧ H'.obj Ae = some (.map (mE (fun (x : S39) => .ag (.v (str x.A9) :: .v (str x.Ac) :: (x.A5.map fun x => .sl 1 (x.map fun x => [.v (str x)])))) Ak)) ∧ H'.obj Af = some (.map (mE (fun (x : List UInt8) => .v (str x)) An)) ∧ H'.obj ka0 = some (.cells ([.mp Ae, .mp Af, Be (fun (x : S33) => .v (str x.A9) :: .v (str x.Ac) :: .sl 2 (x.fDn.map fun x => [.v (str x.fType), .v (str x.A7)]) :: (x.A5.map fun x => .sl 1 (x.map fun x => [.v (str x)]))) Aw])) ∧ H'.obj H.next = some (.cells ([.os n14 v13.length])) ∧ H'.obj (H.next + 1) = some (.cells [.mp Ae]) ∧ H'.obj n14 = some (.row 10 (v13.map fun x => .v (str x.A9) :: .v (str x.Ac) :: (x.A5.map fun x => .sl 1 (x.map fun x => [.v (str x)]))))) ?_ fun cb hc9 => ?_
 ·rintro tm9e H9e ⟨n14, v13, rfl, he9e, hl9e, hr0_9e, hs0_9e, hq25, hq26, hq27, hq28, hq29, t3_9e, ob0_9e, ob1_9e, ob2_9e, ob3_9e, ob4_9e, or0_9e⟩
  have h : OZ v13 = some r := hk9; unfold OZ at h; simp -implicitDefEqProofs only [go_sem]; subst hc3; refine wF t3_9e ?_; refine IWp.gh (Gh.Xa (k := n14) (kb := H.next) (cs := [.os n14 v13.length]) (cs' := [.sl 10 (v13.map fun x => .v (str x.A9) :: .v (str x.Ac) :: (x.A5.map fun x => .sl 1 (x.map fun x => [.v (str x)])))]) (eF ob3_9e) (by omega) (FJ.cons (FzK.row _ _ _ (eF or0_9e) (by simp)) FJ.nil)) ?_; refine vO ?_; obtain rfl := sI h; refine sG ?_; refine Aq (J := H) (r' := .fn (.func 46) [] [.cp [.sl 10 (v13.map fun x => .v (str x.A9) :: .v (str x.Ac) :: (x.A5.map fun x => .sl 1 (x.map fun x => [.v (str x)])))]]) (Ext.Bp (As he9e)) rfl (Fz.Nr (.ptr (hw _ (by omega)) eA (PS (by exact Bz)))) hK
 refine Ah ?_; refine Az (fun (s : Int × (List S39)) tm' H' => ∃ n12 : Nat, Ext H H' ∧ H.next + 2 ≤ H'.next ∧ H.next ≤ n12 ∧ n12 < H'.next ∧ ¬ Ae = n12 ∧ ¬ Af = n12 ∧ ¬ ka0 = n12 ∧ ¬ H.next = n12 ∧ ¬ H.next + 1 = n12 ∧ tm' 0 = .p ka0 0 ∧ tm' 3 = .p H.next 0 ∧ tm' 15 = .sl 1 (x8.map fun x => [.v (str x)]) ∧ tm' 16 = .v (.int .i64 (x8.length : Int)) ∧ tm' 17 = .v (.int .i64 s.1) ∧ H'.obj Ae = some (.map (mE (fun (x : S39) => .ag (.v (str x.A9) :: .v (str x.Ac) :: (x.A5.map fun x => .sl 1 (x.map fun x => [.v (str x)])))) Ak)) ∧ H'.obj Af = some (.map (mE (fun (x : List UInt8) => .v (str x)) An)) ∧ H'.obj ka0 = some (.cells ([.mp Ae, .mp Af, Be (fun (x : S33) => .v (str x.A9) :: .v (str x.Ac) :: .sl 2 (x.fDn.map fun x => [.v (str x.fType), .v (str x.A7)]) :: (x.A5.map fun x => .sl 1 (x.map fun x => [.v (str x)]))) Aw])) ∧ H'.obj H.next = some (.cells ([.os n12 s.2.length])) ∧ H'.obj (H.next + 1) = some (.cells [.mp Ae]) ∧ H'.obj n12 = some (.row 10 (s.2.map fun x => .v (str x.A9) :: .v (str x.Ac) :: (x.A5.map fun x => .sl 1 (x.map fun x => [.v (str x)]))))) hl9q ?_ ?_
 ·refine UpI.gh (Gh.HT (kb := H.next) (sz := 10) (cs := [.v (.slice none 0 0)]) (cs' := [.os (H.next + 2) 0]) (by omega) eA (NzL.row NzL.nil)) ?_; refine .same ⟨H.next + 2, by exact As (Ext.refl hw), by (simp -implicitDefEqProofs (disch := omega) [go_sem] <;> omega), by omega, by (simp -implicitDefEqProofs (disch := omega) [go_sem] <;> omega), by omega, by omega, by omega, by omega, by omega, ?_, ?_, ?_, ?_, ?_, ?_, ?_, ?_, ?_, ?_, ?_⟩ <;> (simp -implicitDefEqProofs (disch := omega) [go_sem, Am, Ao, Ar] <;> omega)
 rintro I9 hI9 ⟨v10, v11⟩ x9 tm9 H9 ⟨n12, he9, hl9, Xh, Xi, hq30, hq31, hq32, hq33, hq34, O_, NN, Xj, Xk, Tl, Kf, NO, Kg, Lr, eU, NP⟩ h hret9
 replace h : HY Ak x8 v10 v11 = some x9 := h; unfold HY at h; refine wF (nd Xk Tl) ?_; refine A3 fun cb hc17 => ?_; refine A8 h eA rfl ?_ ?_
 ·intro c18 h; refine vO ?_; subst hc17; refine A3 fun cb hc19 => ?_; refine Ah ?_; obtain ⟨g21, h⟩ := Ad.1 h; refine wF (nd Xj Tl) ?_; refine AB [8] [0, 1, 2, 3, 4, 5, 6, 7, 8, 9, 10, 11] (by kernel_rfl) (by kernel_rfl) (fun _ _ _ _ h => h) ?_; have hmL58 := @Ga _ (fun (x : S39) => .ag (.v (str x.A9) :: .v (str x.Ac) :: (x.A5.map fun x => .sl 1 (x.map fun x => [.v (str x)])))); have hmF58 := fun o => La (fun (x : S39) => .ag (.v (str x.A9) :: .v (str x.Ac) :: (x.A5.map fun x => .sl 1 (x.map fun x => [.v (str x)])))) S39.zero (z := .ag [.v (.string ⟨#[]⟩), .v (.string ⟨#[]⟩), .sl 1 [], .sl 1 [], .sl 1 [], .sl 1 [], .sl 1 [], .sl 1 [], .sl 1 [], .sl 1 []]) (o := o) (by rfl); refine sF (nd O_ (nd NN (nd Kf (nd Kg (nd Lr (nd @hmL58 @hmF58)))))) ?_; obtain ⟨x22, hx22, h⟩ := A4 h; refine BS.mk _ (fun _ _ hK => Aa.eqA eA (Mk ((B8 Ak (x8.getD v10.toNat [])).getD S39.zero) hx22 hK)) ?_; obtain ⟨g23, h⟩ := Ad.1 h; obtain ⟨g24, h⟩ := gS h; refine sF (nd NN (nd Kf (nd Kg (nd Lr (nd NP (nd @hmL58 (nd @hmF58 g23))))))) ?_; subst hc19; refine vF Tl ?_; obtain rfl := sI h; refine Aj hI9 ((IntKind.i64.wrap (v10 + 1), v11 ++ ([x22]))) ?_; refine .same ⟨n12, by exact As he9, by (simp -implicitDefEqProofs (disch := omega) [go_sem] <;> omega), by with_reducible assumption, by (simp -implicitDefEqProofs (disch := omega) [go_sem] <;> omega), by with_reducible assumption, by with_reducible assumption, by with_reducible assumption, by with_reducible assumption, by with_reducible assumption, ?_, ?_, ?_, ?_, ?_, ?_, ?_, ?_, ?_, ?_, ?_⟩ <;> (simp -implicitDefEqProofs (disch := omega) [go_sem, O_, NN, Xj, Xk, Kf, NO, Kg, eU] <;> omega)
 intro c18 h; simp (disch := omega) at c18; refine vO ?_; obtain rfl := sI h; have hy9 := hret9 _ rfl; refine hc9 _ _ ?_; refine .same ⟨n12, v11, hy9, by exact As he9, by with_reducible assumption, by with_reducible assumption, by with_reducible assumption, by with_reducible assumption, by with_reducible assumption, by with_reducible assumption, by with_reducible assumption, by with_reducible assumption, ?_, ?_, ?_, ?_, ?_, ?_, ?_⟩ <;> first | with_reducible assumption | (simp -implicitDefEqProofs (disch := omega) [go_sem, NN] <;> omega)
end Go.Idl
namespace Go.Idl
open Go Go.Proofs.Tryz
theorem Ls {α : Type} {l : List α} {i : Nat} (h : i < l.length) : (EC l)[i]? = some ((i : Int), l[i]) := by simp [EC, h]
theorem Cj {α : Type} {l : List α} : (EC l).length = l.length := by simp [EC]
theorem J4 (x : S39) (h : DK x.A5) : F45 x = some x := by
 unfold F45; rw [Ab h.1]; unfold F58; rw [Ab h]; simp only [Option.bind_some]; rw [Ab h.1]
theorem YW {P : Program} {N : Nat} {c : Code} {Q : Exit → Tm → A2 → Prop} {tm : Tm} {H : A2} (h : H.Wf → IWp P N c Q tm H) : IWp P N c Q tm H := ⟨fun rr B D w g a s r hN hB hm => (h s.wf).run rr B D w g a s r hN hB hm⟩
theorem Fz.any {H J : A2} {i : IV} : Fz H J i .any := .wk _ _ (fun _ _ _ _ => .any _) .any
set_option pp.deepTerms false in
set_option maxRecDepth 4000 in
theorem Tn (l : List S39) (hg : ∀ x, x ∈ l → DK x.A5) : Iter prog 46 [.cp [.sl 10 (l.map fun x => .v (str x.A9) :: .v (str x.Ac) :: (x.A5.map fun x => .sl 1 (x.map fun x => [.v (str x)])))]] ((EC l).map fun (p : Int × S39) => [.v (.int .i64 p.1), .ag (.v (str p.2.A9) :: .v (str p.2.Ac) :: (p.2.A5.map fun x => .sl 1 (x.map fun x => [.v (str x)])))]) [] := by
 refine ⟨by kernel_rfl, fun lp I E H hC hy h0 => ?_⟩; refine AM (N := 19) func46 (by kernel_rfl) rfl (by kernel_rfl) (by kernel_rfl) fun hw hbd hnb => ?_; simp only [List.mem_cons, List.not_mem_nil, or_false, forall_eq_or_imp, forall_eq] at hbd; have hl : l.length ≤ 9223372036854775807 := by
  have h := hbd.2; cases h with | cp _ h => exact (by simpa [Cf] using (St.1 (h (.sl 10 (l.map fun x => .v (str x.A9) :: .v (str x.Ac) :: (x.A5.map fun x => .sl 1 (x.map fun x => [.v (str x)])))) (by simp))).1)
 clear hbd hnb; simp (maxSteps := 1000000) (disch := omega) [go_sem]; refine B5 (fun tm' H' => ∃ i : Nat, tm' 0 = yv lp ∧ tm' 5 = .sl 10 (l.map fun x => .v (str x.A9) :: .v (str x.Ac) :: (x.A5.map fun x => .sl 1 (x.map fun x => [.v (str x)]))) ∧ tm' 6 = .v (.int .i64 l.length) ∧ tm' 7 = .v (.int .i64 i) ∧ i ≤ l.length ∧ I i H') (fun tm' _ => l.length - (intOf (tm' 7)).toNat) (.same ?_) ?_
 ·exact ⟨0, by simp [go_sem], by simp [go_sem], by simp [go_sem], by simp [go_sem], by omega, h0⟩
 ·rintro I' μ' hI hμ tm' H' ⟨i, h0, h5, h6, h7, hi, hI0⟩
  refine YW fun hw' => ?_; refine A3 fun cb hcA => ?_; refine vcK ?_; simp (maxSteps := 1000000) (disch := omega) [go_sem, h0, h5, h6, h7]; subst hcA; refine A3 fun cb hcB => ?_; by_cases hc : i < l.length
  ·have hb := hg l[i] (List.getElem_mem _); have h8 := hb.1; refine Ai (by simp [go_sem, h6, h7]; omega) rfl ?_; refine AA _ (by kernel_rfl) _ _ _ ?_; simp -implicitDefEqProofs only [go_sem]; subst hcB; refine A3 fun cb hcC => ?_; refine Ah ?_; refine A3 fun cb hcD => ?_; refine VM ?_; refine vcK ?_; simp (maxSteps := 1000000) (disch := omega) [go_sem, h0, h5, h6, h7, h8, hc]; refine ⟨fun k => if k = 0 then yv lp else if k = 3 then .v (.int .i64 i) else if k = 4 then .cp (.v (str l[i].A9) :: .v (str l[i].Ac) :: (l[i].A5.map fun x => .sl 1 (x.map fun x => [.v (str x)]))) else if k = 5 then .sl 10 (l.map fun x => .v (str x.A9) :: .v (str x.Ac) :: (x.A5.map fun x => .sl 1 (x.map fun x => [.v (str x)]))) else if k = 6 then .v (.int .i64 l.length) else if k = 7 then .v (.int .i64 i) else .any, H', ?_, ?_, ?_⟩
   ·exact (((Ext.refl hw').new _).set (Nat.le_refl _) _).Bp
   ·intro k; by_cases k0 : k = 0
    ·subst k0; simp [go_sem, h0]; exact .same (.v _)
    by_cases k3 : k = 3
    ·subst k3; simp [go_sem, h7]; exact .same (.v _)
    by_cases k4 : k = 4
    ·subst k4; simp [go_sem]; exact .ptr (hw' _ (Nat.le_refl _)) (by simp [go_sem]) (PS (by repeat (first | refine K6 ?_ | exact .v _ | exact NBL.nil | refine NBL.cons ?_ ?_ | refine K2 fun _ => ?_ | refine K3 ?_ | refine NBL.app ?_ ?_ | refine NBL.map fun _ => ?_)))
    by_cases k5 : k = 5
    ·subst k5; simp [go_sem, h5]; exact .same (by repeat (first | refine K6 ?_ | exact .v _ | exact NBL.nil | refine NBL.cons ?_ ?_ | refine K2 fun _ => ?_ | refine K3 ?_ | refine NBL.app ?_ ?_ | refine NBL.map fun _ => ?_))
    by_cases k6 : k = 6
    ·subst k6; simp [go_sem, h6]; exact .same (.v _)
    by_cases k7 : k = 7
    ·subst k7; simp [go_sem, h7]; exact .same (.v _)
    simp only [k0, k3, k4, k5, k6, k7, if_false]; exact .any
   ·subst hcD; refine A3 fun cb hcE => ?_; refine vcK ?_; simp (maxSteps := 1000000) (disch := omega) [go_sem, h8]; refine Mk l[i] (J4 _ hb) ?_; simp (maxSteps := 1000000) (disch := omega) [go_sem, h8]; refine GK (l := lp) (is := [.v (.int .i64 i), .ag (.v (str l[i].A9) :: .v (str l[i].Ac) :: (l[i].A5.map fun x => .sl 1 (x.map fun x => [.v (str x)])))]) rfl (by kernel_rfl) (by simp [go_sem]) (by simp [go_sem]) ((hy i _ H' (by rw [List.getElem?_map, Ls hc]; rfl) hI0).mono ?_)
    rintro b H'' (⟨rfl, h⟩ | ⟨rfl, h⟩)
    ·simp (maxSteps := 1000000) (disch := omega) [go_sem]; subst hcE; refine Al (by simp [go_sem]) rfl ?_; refine AA _ (by kernel_rfl) _ _ _ ?_; simp -implicitDefEqProofs only [go_sem]; subst hcC; refine vcK ?_; simp (maxSteps := 1000000) (disch := omega) [go_sem]; exact .of hI hμ ⟨i + 1, by simp [go_sem], by simp [go_sem], by simp [go_sem], by simp [go_sem], by omega, h⟩ (by simp [go_sem, h7]; omega)
    ·simp (maxSteps := 1000000) (disch := omega) [go_sem]; subst hcE; refine Ai (by simp [go_sem]) rfl ?_; refine AA _ (by kernel_rfl) _ _ _ ?_; simp (maxSteps := 1000000) (disch := omega) [go_sem]; exact CK ⟨⟨_, rfl⟩, .inr h⟩
  ·refine Al (by simp [go_sem, h6, h7]; omega) rfl ?_; refine AA _ (by kernel_rfl) _ _ _ ?_; simp (maxSteps := 1000000) (disch := omega) [go_sem]; have e : i = l.length := by omega
   subst e; exact CK ⟨⟨_, rfl⟩, .inl (by rw [Cj]; exact hI0)⟩
end Go.Idl
namespace Go.Idl
set_option maxHeartbeats 8000000
set_option pp.deepTerms false
set_option maxRecDepth 60000
open Go Go.Proofs.Tryz
noncomputable def P0  : Option ((List (Int × Bool))) :=
 some (AT (AT (AT (AT (AT (AT (AT (AT [] 44 true) 43 true) 34 true) 92 true) 60 true) 62 true) 59 true) 61 true)
theorem Mo {H : A2} {K : Au → A2 → Prop}  {r : (List (Int × Bool))} (h : P0  = some r) (hK : K (.ret (.mp H.next)) (newL H [.map (mI .u8 (fun (x : Bool) => .v (.bool x)) r)])) : Aa prog 127 [] H K := by
 refine Ag (N := 3) func127 (by kernel_rfl) rfl (by kernel_rfl) (by kernel_rfl) fun cb hcb hw hbd hnb => ?_; clear hbd hnb; subst hcb; unfold P0 at h; refine wG ?_; refine A3 fun cb hc2 => ?_; refine v0 ?_; have hmS181 := fun m k v => Vn (j := .u8) (fun (x : Bool) => .v (.bool x)) m k v; have hmi3 := hmS181 [] 44 true; simp -implicitDefEqProofs at hmi3; have hmi4 := hmS181 (AT [] 44 true) 43 true; have hmi5 := hmS181 (AT (AT [] 44 true) 43 true) 34 true; have hmi6 := hmS181 (AT (AT (AT [] 44 true) 43 true) 34 true) 92 true; have hmi7 := hmS181 (AT (AT (AT (AT [] 44 true) 43 true) 34 true) 92 true) 60 true; have hmi8 := hmS181 (AT (AT (AT (AT (AT [] 44 true) 43 true) 34 true) 92 true) 60 true) 62 true; have hmi9 := hmS181 (AT (AT (AT (AT (AT (AT [] 44 true) 43 true) 34 true) 92 true) 60 true) 62 true) 59 true; have hmi10 := hmS181 (AT (AT (AT (AT (AT (AT (AT [] 44 true) 43 true) 34 true) 92 true) 60 true) 62 true) 59 true) 61 true; refine sF (nd @hmS181 @hmi3) ?_; subst hc2; refine vO ?_; obtain rfl := sI h; refine sG ?_; refine OT (r := .mp H.next) (r' := .mp H.next) rfl (K5 (by exact As (Ext.refl hw)) (ks := [H.next]) (os := [.map (mI .u8 (fun (x : Bool) => .v (.bool x)) (AT (AT (AT (AT (AT (AT (AT (AT [] 44 true) 43 true) 34 true) 92 true) 60 true) 62 true) 59 true) 61 true))]) (.cons (o := .map (mI .u8 (fun (x : Bool) => .v (.bool x)) (AT (AT (AT (AT (AT (AT (AT (AT [] 44 true) 43 true) 34 true) 92 true) 60 true) 62 true) 59 true) 61 true))) (by omega) (by (simp [go_sem]; done)) eA (.same _ (by exact CT)) .nil) (by simp)) (.mpE (k := H.next) (by simp [DJ]) (by simp [go_sem])) hK
noncomputable def Mq (v12 : List UInt8) : Option (List UInt8) :=
 some v12
noncomputable def Ck (a0 : List UInt8) (v11 : Int) (v37 : List UInt8) (v39 : Bool) : Option (((List UInt8) × Int) ⊕ (List UInt8)) :=
 if v39 = true then (gd ((v37.length + ([92]).length) * 1 ≤ 140737488355328) (gd (0 ≤ (((a0.getD v11.toNat 0).toNat : Int)) ∧ (((a0.getD v11.toNat 0).toNat : Int)) ≤ 255) (gd (((v37 ++ ([92])).length + ([UInt8.ofNat (((a0.getD v11.toNat 0).toNat : Int)).toNat]).length) * 1 ≤ 140737488355328) (some (.inl (((v37 ++ ([92])) ++ ([UInt8.ofNat (((a0.getD v11.toNat 0).toNat : Int)).toNat]), IntKind.i64.wrap (v11 + 1)))))))) else (gd (0 ≤ (((a0.getD v11.toNat 0).toNat : Int)) ∧ (((a0.getD v11.toNat 0).toNat : Int)) ≤ 255) (gd ((v37.length + ([UInt8.ofNat (((a0.getD v11.toNat 0).toNat : Int)).toNat]).length) * 1 ≤ 140737488355328) (some (.inl ((v37 ++ ([UInt8.ofNat (((a0.getD v11.toNat 0).toNat : Int)).toNat]), IntKind.i64.wrap (v11 + 1)))))))
noncomputable def Gl (a0 : List UInt8) (x3 : (List (Int × Bool))) (v9 : List UInt8) (v11 : Int) : Option (((List UInt8) × Int) ⊕ (List UInt8)) :=
 if v11 < (a0.length : Int) then (gd (0 ≤ v11 ∧ v11 < a0.length) (if (((a0.getD v11.toNat 0).toNat : Int)) < 32 then (gd (0 ≤ ((((a0.getD v11.toNat 0).toNat : Int)).fdiv 16) ∧ ((((a0.getD v11.toNat 0).toNat : Int)).fdiv 16) < ([48, 49, 50, 51, 52, 53, 54, 55, 56, 57, 97, 98, 99, 100, 101, 102] : List UInt8).length) (gd (0 ≤ (EL .u8 (((a0.getD v11.toNat 0).toNat : Int)) 15) ∧ (EL .u8 (((a0.getD v11.toNat 0).toNat : Int)) 15) < ([48, 49, 50, 51, 52, 53, 54, 55, 56, 57, 97, 98, 99, 100, 101, 102] : List UInt8).length) (gd (0 ≤ (((([48, 49, 50, 51, 52, 53, 54, 55, 56, 57, 97, 98, 99, 100, 101, 102] : List UInt8).getD ((((a0.getD v11.toNat 0).toNat : Int)).fdiv 16).toNat 0).toNat : Int)) ∧ (((([48, 49, 50, 51, 52, 53, 54, 55, 56, 57, 97, 98, 99, 100, 101, 102] : List UInt8).getD ((((a0.getD v11.toNat 0).toNat : Int)).fdiv 16).toNat 0).toNat : Int)) ≤ 255) (gd (0 ≤ (((([48, 49, 50, 51, 52, 53, 54, 55, 56, 57, 97, 98, 99, 100, 101, 102] : List UInt8).getD (EL .u8 (((a0.getD v11.toNat 0).toNat : Int)) 15).toNat 0).toNat : Int)) ∧ (((([48, 49, 50, 51, 52, 53, 54, 55, 56, 57, 97, 98, 99, 100, 101, 102] : List UInt8).getD (EL .u8 (((a0.getD v11.toNat 0).toNat : Int)) 15).toNat 0).toNat : Int)) ≤ 255) (gd ((v9.length + ([92, UInt8.ofNat (((([48, 49, 50, 51, 52, 53, 54, 55, 56, 57, 97, 98, 99, 100, 101, 102] : List UInt8).getD ((((a0.getD v11.toNat 0).toNat : Int)).fdiv 16).toNat 0).toNat : Int)).toNat, UInt8.ofNat (((([48, 49, 50, 51, 52, 53, 54, 55, 56, 57, 97, 98, 99, 100, 101, 102] : List UInt8).getD (EL .u8 (((a0.getD v11.toNat 0).toNat : Int)) 15).toNat 0).toNat : Int)).toNat]).length) * 1 ≤ 140737488355328) (some (.inl ((v9 ++ ([92, UInt8.ofNat (((([48, 49, 50, 51, 52, 53, 54, 55, 56, 57, 97, 98, 99, 100, 101, 102] : List UInt8).getD ((((a0.getD v11.toNat 0).toNat : Int)).fdiv 16).toNat 0).toNat : Int)).toNat, UInt8.ofNat (((([48, 49, 50, 51, 52, 53, 54, 55, 56, 57, 97, 98, 99, 100, 101, 102] : List UInt8).getD (EL .u8 (((a0.getD v11.toNat 0).toNat : Int)) 15).toNat 0).toNat : Int)).toNat]), IntKind.i64.wrap (v11 + 1)))))))))) else (if 126 < (((a0.getD v11.toNat 0).toNat : Int)) then (gd (0 ≤ ((((a0.getD v11.toNat 0).toNat : Int)).fdiv 16) ∧ ((((a0.getD v11.toNat 0).toNat : Int)).fdiv 16) < ([48, 49, 50, 51, 52, 53, 54, 55, 56, 57, 97, 98, 99, 100, 101, 102] : List UInt8).length) (gd (0 ≤ (EL .u8 (((a0.getD v11.toNat 0).toNat : Int)) 15) ∧ (EL .u8 (((a0.getD v11.toNat 0).toNat : Int)) 15) < ([48, 49, 50, 51, 52, 53, 54, 55, 56, 57, 97, 98, 99, 100, 101, 102] : List UInt8).length) (gd (0 ≤ (((([48, 49, 50, 51, 52, 53, 54, 55, 56, 57, 97, 98, 99, 100, 101, 102] : List UInt8).getD ((((a0.getD v11.toNat 0).toNat : Int)).fdiv 16).toNat 0).toNat : Int)) ∧ (((([48, 49, 50, 51, 52, 53, 54, 55, 56, 57, 97, 98, 99, 100, 101, 102] : List UInt8).getD ((((a0.getD v11.toNat 0).toNat : Int)).fdiv 16).toNat 0).toNat : Int)) ≤ 255) (gd (0 ≤ (((([48, 49, 50, 51, 52, 53, 54, 55, 56, 57, 97, 98, 99, 100, 101, 102] : List UInt8).getD (EL .u8 (((a0.getD v11.toNat 0).toNat : Int)) 15).toNat 0).toNat : Int)) ∧ (((([48, 49, 50, 51, 52, 53, 54, 55, 56, 57, 97, 98, 99, 100, 101, 102] : List UInt8).getD (EL .u8 (((a0.getD v11.toNat 0).toNat : Int)) 15).toNat 0).toNat : Int)) ≤ 255) (gd ((v9.length + ([92, UInt8.ofNat (((([48, 49, 50, 51, 52, 53, 54, 55, 56, 57, 97, 98, 99, 100, 101, 102] : List UInt8).getD ((((a0.getD v11.toNat 0).toNat : Int)).fdiv 16).toNat 0).toNat : Int)).toNat, UInt8.ofNat (((([48, 49, 50, 51, 52, 53, 54, 55, 56, 57, 97, 98, 99, 100, 101, 102] : List UInt8).getD (EL .u8 (((a0.getD v11.toNat 0).toNat : Int)) 15).toNat 0).toNat : Int)).toNat]).length) * 1 ≤ 140737488355328) (some (.inl ((v9 ++ ([92, UInt8.ofNat (((([48, 49, 50, 51, 52, 53, 54, 55, 56, 57, 97, 98, 99, 100, 101, 102] : List UInt8).getD ((((a0.getD v11.toNat 0).toNat : Int)).fdiv 16).toNat 0).toNat : Int)).toNat, UInt8.ofNat (((([48, 49, 50, 51, 52, 53, 54, 55, 56, 57, 97, 98, 99, 100, 101, 102] : List UInt8).getD (EL .u8 (((a0.getD v11.toNat 0).toNat : Int)) 15).toNat 0).toNat : Int)).toNat]), IntKind.i64.wrap (v11 + 1)))))))))) else (if (B8 x3 (((a0.getD v11.toNat 0).toNat : Int))).getD false = true then (Ck a0 v11 v9 ((B8 x3 (((a0.getD v11.toNat 0).toNat : Int))).getD false)) else (if v11 = 0 then (if (((a0.getD v11.toNat 0).toNat : Int)) = 32 then (Ck a0 v11 v9 true) else (if (((a0.getD v11.toNat 0).toNat : Int)) = 35 then (Ck a0 v11 v9 (decide ((((a0.getD v11.toNat 0).toNat : Int)) = 35))) else (if v11 = (IntKind.i64.wrap ((a0.length : Int) - 1)) then (Ck a0 v11 v9 (decide ((((a0.getD v11.toNat 0).toNat : Int)) = 32))) else (Ck a0 v11 v9 false)))) else (if v11 = (IntKind.i64.wrap ((a0.length : Int) - 1)) then (Ck a0 v11 v9 (decide ((((a0.getD v11.toNat 0).toNat : Int)) = 32))) else (Ck a0 v11 v9 false))))))) else (some (.inr v9))
noncomputable def F91 (a0 : List UInt8) : Option (List UInt8) :=
 (P0 ).bind fun (x3 : (List (Int × Bool))) => gd ((a0.length : Int) ≤ 9223372036854775807) ((AD (fun (s : (List UInt8) × Int) => Gl a0 x3 s.1 s.2) ([], 0)).bind fun (e : (List UInt8)) => Mq e)
theorem YX {H : A2} {K : Au → A2 → Prop} (a0 : List UInt8) {r : (List UInt8)} (h : F91 a0 = some r) (hK : K (.ret (.v (str r))) H) : Aa prog 91 [.v (str a0)] H K := by
 refine Ag (N := 65) func91 (by kernel_rfl) rfl (by kernel_rfl) (by kernel_rfl) fun cb hcb hw hbd hnb => ?_; clear hbd hnb; subst hcb; unfold F91 at h; refine wG ?_; refine A3 fun cb hc2 => ?_; refine vG ?_; obtain ⟨x3, hx3, h⟩ := A4 h; refine Mo  hx3 ?_; refine sG ?_; subst hc2; refine wG ?_; refine A3 fun cb hc5 => ?_; refine A3 fun cb hc6 => ?_; obtain ⟨g7, h⟩ := Ad.1 h; refine vG ?_; refine Ft a0 rfl (by kernel_rfl) underlying9 underlying131 underlying5 (by (simp -implicitDefEqProofs (disch := omega) [go_sem]; done)) (by omega) ?_; refine sG ?_; subst hc6; obtain ⟨y8, hl8q, hk8⟩ := A4 h; refine AF (fun tm' H' => ∃ n13 : Nat, ∃ v12 : List UInt8, v12 = y8 ∧ Ext H H' ∧ H.next + 1 ≤ H'.next ∧ H.next ≤ n13 ∧ n13 < H'.next ∧ ¬ H.next = n13 ∧ tm' 4 = .os n13 v12.length ∧ H'.obj H.next = some (.map (mI .u8 (fun (x : Bool) => .v (.bool x)) x3)) ∧ H'.obj n13 = some (.row 1 (v12.map fun x => [.v (.int .u8 x.toNat)]))) ?_ fun cb hc8 => ?_
 ·rintro tm8e H8e ⟨n13, v12, rfl, he8e, hl8e, hr0_8e, hs0_8e, hq56, t4_8e, ob0_8e, or0_8e⟩
  have h : Mq v12 = some r := hk8; unfold Mq at h; simp -implicitDefEqProofs only [go_sem]; subst hc5; refine A3 fun cb hc14 => ?_; refine IWp.gh (Gh.freeze (d := 4) (k := n13) (sz := 1) (es := v12.map fun x => [.v (.int .u8 x.toNat)]) (eF or0_8e) (eF t4_8e)) ?_; refine vG ?_; subst hc14; refine vO ?_; obtain rfl := sI h; refine sG ?_; refine Ay (As he8e) rfl nbA hK
 refine Ah ?_; refine Az (fun (s : (List UInt8) × Int) tm' H' => ∃ n10 : Nat, Ext H H' ∧ H.next + 1 ≤ H'.next ∧ H.next ≤ n10 ∧ n10 < H'.next ∧ ¬ H.next = n10 ∧ tm' 0 = .v (str a0) ∧ tm' 3 = .mp H.next ∧ tm' 4 = .os n10 s.1.length ∧ tm' 9 = .sl 1 (a0.map fun x => [.v (.int .u8 x.toNat)]) ∧ tm' 10 = .v (.int .i64 (a0.length : Int)) ∧ tm' 11 = .v (.int .i64 s.2) ∧ H'.obj H.next = some (.map (mI .u8 (fun (x : Bool) => .v (.bool x)) x3)) ∧ H'.obj n10 = some (.row 1 (s.1.map fun x => [.v (.int .u8 x.toNat)]))) hl8q ?_ ?_
 ·refine UpI.gh (Gh.Md (d := 4) (sz := 1) (by omega) eA) ?_; refine .same ⟨H.next + 1, by exact As (Ext.refl hw), by (simp -implicitDefEqProofs (disch := omega) [go_sem] <;> omega), by omega, by (simp -implicitDefEqProofs (disch := omega) [go_sem] <;> omega), by omega, ?_, ?_, ?_, ?_, ?_, ?_, ?_, ?_⟩ <;> (simp -implicitDefEqProofs (disch := omega) [go_sem] <;> omega)
 rintro I8 hI8 ⟨v9, v11⟩ x8 tm8 H8 ⟨n10, he8, hl8, eV, eW, hq57, CO, F8, HZ, KU, F_, F9, To, PT⟩ h hret8
 replace h : Gl a0 x3 v9 v11 = some x8 := h; unfold Gl at h; refine wF (nd F_ F9) ?_; refine A3 fun cb hc16 => ?_; refine A8 h eA rfl ?_ ?_
 ·intro c17 h; refine vO ?_; subst hc16; refine A3 fun cb hc18 => ?_; refine Ah ?_; obtain ⟨g20, h⟩ := Ad.1 h; refine wF (nd KU F9) ?_; refine A3 fun cb hc21 => ?_; refine Ah ?_; refine A3 fun cb hc22 => ?_; refine vG ?_; refine A6 h eA ?_ ?_
  ·intro c55 h; simp (disch := omega) at c55; refine sG ?_; subst hc22; refine Ai eA rfl ?_; refine A3 fun cb hc23 => ?_; refine AB [] [0, 1, 2, 3, 4, 5, 6, 7, 8, 9] (by kernel_rfl) (by kernel_rfl) (fun _ _ _ _ h => h) ?_; obtain ⟨g24, h⟩ := gS h; obtain ⟨g25, h⟩ := gS h; obtain ⟨g26, h⟩ := gS h; obtain ⟨g27, h⟩ := gS h; obtain ⟨g28, h⟩ := gS h; refine sF (nd HZ PT) ?_; subst hc23; refine vO ?_; subst hc18; refine vF F9 ?_; obtain rfl := sI h; refine Aj hI8 ((v9 ++ ([92, UInt8.ofNat (((([48, 49, 50, 51, 52, 53, 54, 55, 56, 57, 97, 98, 99, 100, 101, 102] : List UInt8).getD ((((a0.getD v11.toNat 0).toNat : Int)).fdiv 16).toNat 0).toNat : Int)).toNat, UInt8.ofNat (((([48, 49, 50, 51, 52, 53, 54, 55, 56, 57, 97, 98, 99, 100, 101, 102] : List UInt8).getD (EL .u8 (((a0.getD v11.toNat 0).toNat : Int)) 15).toNat 0).toNat : Int)).toNat]), IntKind.i64.wrap (v11 + 1))) ?_; refine .same ⟨n10, by exact As he8, by (simp -implicitDefEqProofs (disch := omega) [go_sem] <;> omega), by with_reducible assumption, by (simp -implicitDefEqProofs (disch := omega) [go_sem] <;> omega), by with_reducible assumption, ?_, ?_, ?_, ?_, ?_, ?_, ?_, ?_⟩ <;> (simp -implicitDefEqProofs (disch := omega) [go_sem, CO, F8, KU, F_, To] <;> omega)
  intro c55 h; simp (disch := omega) at c55; refine sG ?_; subst hc22; refine A8 h eA rfl ?_ ?_
  ·intro c29 h; simp (disch := omega) at c29; refine A3 fun cb hc30 => ?_; refine AB [] [0, 1, 2, 3, 4, 5, 6, 7, 8, 9] (by kernel_rfl) (by kernel_rfl) (fun _ _ _ _ h => h) ?_; obtain ⟨g31, h⟩ := gS h; obtain ⟨g32, h⟩ := gS h; obtain ⟨g33, h⟩ := gS h; obtain ⟨g34, h⟩ := gS h; obtain ⟨g35, h⟩ := gS h; refine sF (nd HZ PT) ?_; subst hc30; refine vO ?_; subst hc18; refine vF F9 ?_; obtain rfl := sI h; refine Aj hI8 ((v9 ++ ([92, UInt8.ofNat (((([48, 49, 50, 51, 52, 53, 54, 55, 56, 57, 97, 98, 99, 100, 101, 102] : List UInt8).getD ((((a0.getD v11.toNat 0).toNat : Int)).fdiv 16).toNat 0).toNat : Int)).toNat, UInt8.ofNat (((([48, 49, 50, 51, 52, 53, 54, 55, 56, 57, 97, 98, 99, 100, 101, 102] : List UInt8).getD (EL .u8 (((a0.getD v11.toNat 0).toNat : Int)) 15).toNat 0).toNat : Int)).toNat]), IntKind.i64.wrap (v11 + 1))) ?_; refine .same ⟨n10, by exact As he8, by (simp -implicitDefEqProofs (disch := omega) [go_sem] <;> omega), by with_reducible assumption, by (simp -implicitDefEqProofs (disch := omega) [go_sem] <;> omega), by with_reducible assumption, ?_, ?_, ?_, ?_, ?_, ?_, ?_, ?_⟩ <;> (simp -implicitDefEqProofs (disch := omega) [go_sem, CO, F8, KU, F_, To] <;> omega)
  intro c29 h; simp (disch := omega) at c29; refine Bg (fun tm' H' => ∃ n38 : Nat, ∃ v37 : List UInt8, ∃ v39 : Bool, Ext H H' ∧ H8.next ≤ H'.next ∧ H.next ≤ n38 ∧ n38 < H'.next ∧ ¬ H.next = n38 ∧ tm' 0 = .v (str a0) ∧ tm' 3 = .mp H.next ∧ tm' 4 = .os n38 v37.length ∧ tm' 6 = .v (.int .u8 (((a0.getD v11.toNat 0).toNat : Int))) ∧ tm' 9 = .sl 1 (a0.map fun x => [.v (.int .u8 x.toNat)]) ∧ tm' 10 = .v (.int .i64 (a0.length : Int)) ∧ tm' 11 = .v (.int .i64 v11) ∧ tm' 32 = .v (.bool v39) ∧ H'.obj H.next = some (.map (mI .u8 (fun (x : Bool) => .v (.bool x)) x3)) ∧ H'.obj n38 = some (.row 1 (v37.map fun x => [.v (.int .u8 x.toNat)])) ∧ Ck a0 v11 v37 v39 = some x8) ?_ fun cb hc36 => ?_
  ·rintro tm36 H36 ⟨n38, v37, v39, he36, hl36, kq, kr, hq54, Xl, Xm, Xn, Xo, Xp, Tp, Tq, YY, Tr, Ts, h⟩
   unfold Ck at h; refine A8 h (eF YY) rfl ?_ ?_
   ·intro c40 h; obtain ⟨g41, h⟩ := gS h; refine vF (nd Xn Ts) ?_; subst hc21; obtain ⟨g42, h⟩ := gS h; obtain ⟨g43, h⟩ := gS h; refine vF Xo ?_; subst hc18; refine vF Tq ?_; obtain rfl := sI h; refine Aj hI8 (((v37 ++ ([92])) ++ ([UInt8.ofNat (((a0.getD v11.toNat 0).toNat : Int)).toNat]), IntKind.i64.wrap (v11 + 1))) ?_; refine .same ⟨n38, by exact As he36, by (simp -implicitDefEqProofs (disch := omega) [go_sem] <;> omega), by with_reducible assumption, by (simp -implicitDefEqProofs (disch := omega) [go_sem] <;> omega), by with_reducible assumption, ?_, ?_, ?_, ?_, ?_, ?_, ?_, ?_⟩ <;> (simp -implicitDefEqProofs (disch := omega) [go_sem, Xl, Xm, Xp, Tp, Tr] <;> omega)
   intro c40 h; simp (disch := omega) at c40; refine vO ?_; subst hc21; obtain ⟨g44, h⟩ := gS h; obtain ⟨g45, h⟩ := gS h; refine vF (nd Xn (nd Xo Ts)) ?_; subst hc18; refine vF Tq ?_; obtain rfl := sI h; refine Aj hI8 ((v37 ++ ([UInt8.ofNat (((a0.getD v11.toNat 0).toNat : Int)).toNat]), IntKind.i64.wrap (v11 + 1))) ?_; refine .same ⟨n38, by exact As he36, by (simp -implicitDefEqProofs (disch := omega) [go_sem] <;> omega), by with_reducible assumption, by (simp -implicitDefEqProofs (disch := omega) [go_sem] <;> omega), by with_reducible assumption, ?_, ?_, ?_, ?_, ?_, ?_, ?_, ?_⟩ <;> (simp -implicitDefEqProofs (disch := omega) [go_sem, Xl, Xm, Xp, Tp, Tr] <;> omega)
  refine A3 fun cb hc46 => ?_; refine v0 ?_; have hmL181 := @OK _ .u8 (fun (x : Bool) => .v (.bool x)); have hmF181 := fun o => La (fun (x : Bool) => .v (.bool x)) false (z := .v (.bool false)) (o := o) (by rfl); refine sF (nd F8 (nd To (nd @hmL181 @hmF181))) ?_; subst hc46; refine A8 h eA rfl ?_ ?_
  ·intro c47 h; simp (disch := omega) at c47; refine vO ?_; refine hc36 _ _ ?_; refine .same ⟨n10, v9, ((B8 x3 (((a0.getD v11.toNat 0).toNat : Int))).getD false), by exact As he8, by omega, by with_reducible assumption, by with_reducible assumption, by with_reducible assumption, ?_, ?_, ?_, ?_, ?_, ?_, ?_, ?_, ?_, ?_, h⟩ <;> first | with_reducible assumption | (simp -implicitDefEqProofs (disch := omega) [go_sem, CO, F8, HZ, KU, F_, F9] <;> omega)
  intro c47 h; simp (disch := omega) at c47; refine A3 fun cb hc48 => ?_; refine vG ?_; refine A6 h rfl ?_ ?_
  ·intro c53 h; refine sG ?_; refine A6 h eA ?_ ?_
   ·intro c51 h; simp (disch := omega) at c51; refine sG ?_; subst hc48; refine Ai eA rfl ?_; refine vO ?_; refine hc36 _ _ ?_; refine .same ⟨n10, v9, true, by exact As he8, by omega, by with_reducible assumption, by with_reducible assumption, by with_reducible assumption, ?_, ?_, ?_, ?_, ?_, ?_, ?_, ?_, ?_, ?_, h⟩ <;> first | with_reducible assumption | (simp -implicitDefEqProofs (disch := omega) [go_sem, CO, F8, HZ, KU, F_, F9] <;> omega)
   intro c51 h; simp (disch := omega) at c51; refine sG ?_; subst hc48; refine A8 h eA rfl ?_ ?_
   ·intro c49 h; simp (disch := omega) at c49; refine vO ?_; refine hc36 _ _ ?_; refine .same ⟨n10, v9, (decide ((((a0.getD v11.toNat 0).toNat : Int)) = 35)), by exact As he8, by omega, by with_reducible assumption, by with_reducible assumption, by with_reducible assumption, ?_, ?_, ?_, ?_, ?_, ?_, ?_, ?_, ?_, ?_, h⟩ <;> first | with_reducible assumption | (simp -implicitDefEqProofs (disch := omega) [go_sem, CO, F8, HZ, KU, F_, F9] <;> omega)
   intro c49 h; simp (disch := omega) at c49; refine vF CO ?_; refine A6 h eA ?_ ?_
   ·intro c50 h; refine sG ?_; refine hc36 _ _ ?_; refine .same ⟨n10, v9, (decide ((((a0.getD v11.toNat 0).toNat : Int)) = 32)), by exact As he8, by omega, by with_reducible assumption, by with_reducible assumption, by with_reducible assumption, ?_, ?_, ?_, ?_, ?_, ?_, ?_, ?_, ?_, ?_, h⟩ <;> first | with_reducible assumption | (simp -implicitDefEqProofs (disch := omega) [go_sem, CO, F8, HZ, KU, F_, F9] <;> omega)
   intro c50 h; refine sG ?_; refine hc36 _ _ ?_; refine .same ⟨n10, v9, false, by exact As he8, by omega, by with_reducible assumption, by with_reducible assumption, by with_reducible assumption, ?_, ?_, ?_, ?_, ?_, ?_, ?_, ?_, ?_, ?_, h⟩ <;> first | with_reducible assumption | (simp -implicitDefEqProofs (disch := omega) [go_sem, CO, F8, HZ, KU, F_, F9] <;> omega)
  intro c53 h; refine sG ?_; subst hc48; refine Al eA rfl ?_; refine vF CO ?_; refine A6 h eA ?_ ?_
  ·intro c52 h; refine sG ?_; refine hc36 _ _ ?_; refine .same ⟨n10, v9, (decide ((((a0.getD v11.toNat 0).toNat : Int)) = 32)), by exact As he8, by omega, by with_reducible assumption, by with_reducible assumption, by with_reducible assumption, ?_, ?_, ?_, ?_, ?_, ?_, ?_, ?_, ?_, ?_, h⟩ <;> first | with_reducible assumption | (simp -implicitDefEqProofs (disch := omega) [go_sem, CO, F8, HZ, KU, F_, F9] <;> omega)
  intro c52 h; refine sG ?_; refine hc36 _ _ ?_; refine .same ⟨n10, v9, false, by exact As he8, by omega, by with_reducible assumption, by with_reducible assumption, by with_reducible assumption, ?_, ?_, ?_, ?_, ?_, ?_, ?_, ?_, ?_, ?_, h⟩ <;> first | with_reducible assumption | (simp -implicitDefEqProofs (disch := omega) [go_sem, CO, F8, HZ, KU, F_, F9] <;> omega)
 intro c17 h; simp (disch := omega) at c17; refine vO ?_; obtain rfl := sI h; have hy8 := hret8 _ rfl; refine hc8 _ _ ?_; refine .same ⟨n10, v9, hy8, by exact As he8, by with_reducible assumption, by with_reducible assumption, by with_reducible assumption, by with_reducible assumption, ?_, ?_, ?_⟩ <;> first | with_reducible assumption | (simp -implicitDefEqProofs (disch := omega) [go_sem, HZ] <;> omega)
noncomputable def J5 (v13 : List UInt8) : Option ((List UInt8) × Int) :=
 some (v13, 0)
noncomputable def Fv (a0 : List S89) (v12 : Int) (v22 : List UInt8) : Option (((List UInt8) × Int) ⊕ (List UInt8)) :=
 gd ((((a0.getD v12.toNat S89.zero).fType).length : Int) + (([61]) : List UInt8).length ≤ 9223372036854775807) ((F91 ((a0.getD v12.toNat S89.zero).A7)).bind fun (x24 : (List UInt8)) => gd (((((a0.getD v12.toNat S89.zero).fType) ++ ([61])).length : Int) + x24.length ≤ 9223372036854775807) (gd ((v22.length : Int) + ((((a0.getD v12.toNat S89.zero).fType) ++ ([61])) ++ x24).length ≤ 9223372036854775807) (some (.inl ((v22 ++ ((((a0.getD v12.toNat S89.zero).fType) ++ ([61])) ++ x24), IntKind.i64.wrap (v12 + 1)))))))
noncomputable def Ek (a0 : List S89) (v11 : List UInt8) (v12 : Int) : Option (((List UInt8) × Int) ⊕ (List UInt8)) :=
 if v12 < (a0.length : Int) then (gd (0 ≤ v12 ∧ v12 < a0.length) (if 0 < v12 then (gd ((v11.length : Int) + (([44]) : List UInt8).length ≤ 9223372036854775807) (Fv a0 v12 (v11 ++ ([44])))) else (Fv a0 v12 v11))) else (some (.inr v11))
noncomputable def F60 (a0 : List S89) : Option ((List UInt8) × Int) :=
 (F54 a0).bind fun (x4 : Int) => if ¬ x4 = 0 then (some ([], 2)) else ((AD (fun (s : (List UInt8) × Int) => Ek a0 s.1 s.2) ([], 0)).bind fun (e : (List UInt8)) => J5 e)
theorem Tt {H : A2} {K : Au → A2 → Prop} (a0 : List S89) {r : (List UInt8) × Int} (h : F60 a0 = some r) (hK : K (.ret (.tu [.v (str r.1), .v (.int .i64 r.2)])) H) : Aa prog 60 [.sl 2 (a0.map fun x => [.v (str x.fType), .v (str x.A7)])] H K := by
 refine Ag (N := 32) func60 (by kernel_rfl) rfl (by kernel_rfl) (by kernel_rfl) fun cb hcb hw hbd hnb => ?_; clear hbd hnb; subst hcb; unfold F60 at h; refine wG ?_; refine A3 fun cb hc2 => ?_; refine A3 fun cb hc3 => ?_; refine vG ?_; obtain ⟨x4, hx4, h⟩ := A4 h; refine OY a0 hx4 ?_; refine sG ?_; subst hc3; refine A8 h eA rfl ?_ ?_
 ·intro c5 h; refine wG ?_; refine vO ?_; obtain rfl := sI h; refine sG ?_; exact Ap (.refl hw) hK
 intro c5 h; simp (disch := omega) at c5; refine vO ?_; subst hc2; refine wG ?_; refine A3 fun cb hc8 => ?_; refine wG ?_; obtain ⟨y10, hl10q, hk10⟩ := A4 h; refine AF (fun tm' H' => ∃ v13 : List UInt8, v13 = y10 ∧ Ext H H' ∧ H.next ≤ H'.next ∧ tm' 4 = .v (str v13)) ?_ fun cb hc10 => ?_
 ·rintro tm10e H10e ⟨v13, rfl, he10e, hl10e, t4_10e⟩
  have h : J5 v13 = some r := hk10; unfold J5 at h; simp -implicitDefEqProofs only [go_sem]; subst hc8; refine wF t4_10e ?_; refine vO ?_; obtain rfl := sI h; refine sG ?_; refine Ay (As he10e) rfl nbA hK
 refine Ah ?_; refine Az (fun (s : (List UInt8) × Int) tm' H' => Ext H H' ∧ H.next ≤ H'.next ∧ tm' 4 = .v (str s.1) ∧ tm' 10 = .sl 2 (a0.map fun x => [.v (str x.fType), .v (str x.A7)]) ∧ tm' 11 = .v (.int .i64 (a0.length : Int)) ∧ tm' 12 = .v (.int .i64 s.2)) hl10q ?_ ?_
 ·refine .same ⟨by exact As (Ext.refl hw), by omega, ?_, ?_, ?_, ?_⟩ <;> (simp -implicitDefEqProofs (disch := omega) [go_sem] <;> omega)
 rintro I10 hI10 ⟨v11, v12⟩ x10 tm10 H10 ⟨he10, hl10, Tu, P3, P4, Mr⟩ h hret10
 replace h : Ek a0 v11 v12 = some x10 := h; unfold Ek at h; refine wF (nd P4 Mr) ?_; refine A3 fun cb hc16 => ?_; refine A8 h eA rfl ?_ ?_
 ·intro c17 h; refine vO ?_; subst hc16; refine A3 fun cb hc18 => ?_; refine Ah ?_; obtain ⟨g20, h⟩ := Ad.1 h; refine wF (nd P3 Mr) ?_; refine Bg (fun tm' H' => ∃ v22 : List UInt8, Ext H H' ∧ H10.next + 1 ≤ H'.next ∧ tm' 4 = .v (str v22) ∧ tm' 6 = .p H10.next 0 ∧ tm' 10 = .sl 2 (a0.map fun x => [.v (str x.fType), .v (str x.A7)]) ∧ tm' 11 = .v (.int .i64 (a0.length : Int)) ∧ tm' 12 = .v (.int .i64 v12) ∧ H'.obj H10.next = some (.cells ([.v (str ((a0.getD v12.toNat S89.zero).fType)), .v (str ((a0.getD v12.toNat S89.zero).A7))])) ∧ Fv a0 v12 v22 = some x10) ?_ fun cb hc21 => ?_
  ·rintro tm21 H21 ⟨v22, he21, hl21, PU, PV, YZ, Y_, Z0, Ms, h⟩
   unfold Fv at h; refine AB [6] [0, 1, 2, 3, 4, 5, 6, 7, 8, 9] (by kernel_rfl) (by kernel_rfl) (fun _ _ _ _ h => h) ?_; obtain ⟨g23, h⟩ := gS h; refine sF (nd PU (nd PV Ms)) ?_; obtain ⟨x24, hx24, h⟩ := A4 h; refine BS.mk _ (fun _ _ hK => Aa.eqA eA (YX ((a0.getD v12.toNat S89.zero).A7) hx24 hK)) ?_; obtain ⟨g25, h⟩ := gS h; obtain ⟨g26, h⟩ := gS h; refine sG ?_; subst hc18; refine vF Z0 ?_; obtain rfl := sI h; refine Aj hI10 ((v22 ++ ((((a0.getD v12.toNat S89.zero).fType) ++ ([61])) ++ x24), IntKind.i64.wrap (v12 + 1))) ?_; refine .same ⟨by exact As he21, by omega, ?_, ?_, ?_, ?_⟩ <;> (simp -implicitDefEqProofs (disch := omega) [go_sem, YZ, Y_] <;> omega)
  refine wG ?_; refine A8 h eA rfl ?_ ?_
  ·intro c28 h; obtain ⟨g29, h⟩ := gS h; refine vF Tu ?_; refine hc21 _ _ ?_; refine .same ⟨(v11 ++ ([44])), by exact As he10, by (simp -implicitDefEqProofs (disch := omega) [go_sem] <;> omega), ?_, ?_, ?_, ?_, ?_, ?_, h⟩ <;> (simp -implicitDefEqProofs (disch := omega) [go_sem, P3, P4, Mr] <;> omega)
  intro c28 h; simp (disch := omega) at c28; refine vO ?_; refine hc21 _ _ ?_; refine .same ⟨v11, by exact As he10, by (simp -implicitDefEqProofs (disch := omega) [go_sem] <;> omega), ?_, ?_, ?_, ?_, ?_, ?_, h⟩ <;> (simp -implicitDefEqProofs (disch := omega) [go_sem, Tu, P3, P4, Mr] <;> omega)
 intro c17 h; simp (disch := omega) at c17; refine vO ?_; obtain rfl := sI h; have hy10 := hret10 _ rfl; refine hc10 _ _ ?_; refine .same ⟨v11, hy10, by exact As he10, by with_reducible assumption, by (simp -implicitDefEqProofs (disch := omega) [go_sem, Tu] <;> omega)⟩
noncomputable def P5 (v13 : List S78) : Option (List S78) :=
 some v13
noncomputable def Kh (el12 : Int × S39) (v10 : List S78) : Option ((List S78) ⊕ (List S78)) :=
 gd (el12.2.A5.length = 8) ((F61 el12.2.A5).bind fun (x18 : (List UInt8) × Int) => gd (((([112]) : List UInt8).length : Int) + el12.2.A9.length ≤ 9223372036854775807) (gd ((el12.2.Ac.length : Int) + (([10]) : List UInt8).length ≤ 9223372036854775807) (gd (((el12.2.Ac ++ ([10])).length : Int) + x18.1.length ≤ 9223372036854775807) (gd ((v10.length + ([(⟨([112]) ++ el12.2.A9, (el12.2.Ac ++ ([10])) ++ x18.1⟩ : S78)]).length) * 32 ≤ 140737488355328) (some (.inl (v10 ++ ([(⟨([112]) ++ el12.2.A9, (el12.2.Ac ++ ([10])) ++ x18.1⟩ : S78)]))))))))
noncomputable def Ki (Ak : List (List UInt8 × S39)) (An : List (List UInt8 × (List UInt8))) (Aw : Option S33) (v4 : List S78) : Option (List S78) :=
 (F14 Ak An Aw).bind fun (x8 : (List S39)) => gd (∀ x, x ∈ x8 → DK x.A5) ((HU (ρ := (List S78)) (fun (el12 : Int × S39) (s : (List S78)) => Kh el12 s) (fun (s : (List S78)) => s) (EC x8) v4).bind fun (e : (List S78)) => P5 e)
noncomputable def F33 (Ak : List (List UInt8 × S39)) (An : List (List UInt8 × (List UInt8))) (Aw : Option S33) : Option (List S78) :=
 (F26 Ak An Aw).bind fun (x32 : S33 × Bool) => gd (x32.1.A5.length = 8) (if x32.2 = true then ((F60 x32.1.fDn).bind fun (x37 : (List UInt8) × Int) => (F61 x32.1.A5).bind fun (x39 : (List UInt8) × Int) => (F62 ([x32.1.A9, x32.1.Ac, x37.1, x39.1]) ([10])).bind fun (x40 : (List UInt8)) => gd (([(⟨[105], x40⟩ : S78)]).length * 32 ≤ 140737488355328) (Ki Ak An Aw ([(⟨[105], x40⟩ : S78)]))) else (Ki Ak An Aw []))
theorem Z1 {H : A2} {K : Au → A2 → Prop} (Ak : List (List UInt8 × S39)) (An : List (List UInt8 × (List UInt8))) (Aw : Option S33) (ka0 : Nat) (Ae : Nat) (Af : Nat) (Ar : H.obj ka0 = some (.cells ([.mp Ae, .mp Af, Be (fun (x : S33) => .v (str x.A9) :: .v (str x.Ac) :: .sl 2 (x.fDn.map fun x => [.v (str x.fType), .v (str x.A7)]) :: (x.A5.map fun x => .sl 1 (x.map fun x => [.v (str x)]))) Aw]))) (Am : H.obj Ae = some (.map (mE (fun (x : S39) => .ag (.v (str x.A9) :: .v (str x.Ac) :: (x.A5.map fun x => .sl 1 (x.map fun x => [.v (str x)])))) Ak))) (Ao : H.obj Af = some (.map (mE (fun (x : List UInt8) => .v (str x)) An))) (hV : TOK prog H) {r : (List S78)} (h : F33 Ak An Aw = some r) (hK : K (.ret (.sl 2 (r.map fun x => [.v (str x.Ba), .v (str x.A7)]))) H) : Aa prog 33 [.p ka0 0] H K := by
 refine Ag (N := 67) func33 (by kernel_rfl) rfl (by kernel_rfl) (by kernel_rfl) fun cb hcb hw hbd hnb => ?_; clear hbd hnb; subst hcb; unfold F33 at h; have DZ : ka0 < H.next := Nat.lt_of_not_le fun q => by rw [hw _ q] at Ar; cases Ar
 have BV : Ae < H.next := Nat.lt_of_not_le fun q => by rw [hw _ q] at Am; cases Am
 have BW : Af < H.next := Nat.lt_of_not_le fun q => by rw [hw _ q] at Ao; cases Ao
 refine wG ?_; refine wG ?_; refine Bg (fun tm' H' => ∃ n5 : Nat, ∃ v4 : List S78, Ext H H' ∧ H.next + 1 ≤ H'.next ∧ H.next ≤ n5 ∧ n5 < H'.next ∧ ¬ Ae = n5 ∧ ¬ Af = n5 ∧ ¬ ka0 = n5 ∧ ¬ H.next = n5 ∧ tm' 0 = .p ka0 0 ∧ tm' 3 = .p H.next 0 ∧ H'.obj Ae = some (.map (mE (fun (x : S39) => .ag (.v (str x.A9) :: .v (str x.Ac) :: (x.A5.map fun x => .sl 1 (x.map fun x => [.v (str x)])))) Ak)) ∧ H'.obj Af = some (.map (mE (fun (x : List UInt8) => .v (str x)) An)) ∧ H'.obj ka0 = some (.cells ([.mp Ae, .mp Af, Be (fun (x : S33) => .v (str x.A9) :: .v (str x.Ac) :: .sl 2 (x.fDn.map fun x => [.v (str x.fType), .v (str x.A7)]) :: (x.A5.map fun x => .sl 1 (x.map fun x => [.v (str x)]))) Aw])) ∧ H'.obj H.next = some (.cells ([.os n5 v4.length])) ∧ H'.obj n5 = some (.row 2 (v4.map fun x => [.v (str x.Ba), .v (str x.A7)])) ∧ Ki Ak An Aw v4 = some r) ?_ fun cb hc3 => ?_
 ·rintro tm3 H3 ⟨n5, v4, he3, hl3, l7, l8, hq42, hq43, hq44, hq45, GY, VW, eX, l9, ld, lf, lq, h⟩
  unfold Ki at h; refine A3 fun cb hc6 => ?_; refine A3 fun cb hc7 => ?_; refine vF GY ?_; obtain ⟨x8, hx8, h⟩ := A4 h; refine Tk Ak An Aw ka0 Ae Af (by assumption) (by assumption) (by assumption) hx8 ?_; refine sG ?_; subst hc7; obtain ⟨gi9, h⟩ := Ad.1 h; obtain ⟨y9, hl9q, hk9⟩ := A4 h; refine AF (fun tm' H' => ∃ n14 : Nat, ∃ v13 : List S78, v13 = y9 ∧ Ext H H' ∧ H3.next ≤ H'.next ∧ H.next ≤ n14 ∧ n14 < H'.next ∧ ¬ Ae = n14 ∧ ¬ Af = n14 ∧ ¬ ka0 = n14 ∧ ¬ H.next = n14 ∧ tm' 3 = .p H.next 0 ∧ H'.obj Ae = some (.map (mE (fun (x : S39) => .ag (.v (str x.A9) :: .v (str x.Ac) :: (x.A5.map fun x => .sl 1 (x.map fun x => [.v (str x)])))) Ak)) ∧ H'.obj Af = some (.map (mE (fun (x : List UInt8) => .v (str x)) An)) ∧ H'.obj ka0 = some (.cells ([.mp Ae, .mp Af, Be (fun (x : S33) => .v (str x.A9) :: .v (str x.Ac) :: .sl 2 (x.fDn.map fun x => [.v (str x.fType), .v (str x.A7)]) :: (x.A5.map fun x => .sl 1 (x.map fun x => [.v (str x)]))) Aw])) ∧ H'.obj H.next = some (.cells ([.os n14 v13.length])) ∧ H'.obj n14 = some (.row 2 (v13.map fun x => [.v (str x.Ba), .v (str x.A7)]))) ?_ fun cb hc9 => ?_
  ·rintro tm9e H9e ⟨n14, v13, rfl, he9e, hl9e, hr0_9e, hs0_9e, hq23, hq24, hq25, hq26, t3_9e, ob0_9e, ob1_9e, ob2_9e, ob3_9e, or0_9e⟩
   have h : P5 v13 = some r := hk9; unfold P5 at h; simp -implicitDefEqProofs only [go_sem]; subst hc6; refine wF (nd t3_9e ob3_9e) ?_; refine IWp.gh (Gh.freeze (d := 2) (k := n14) (sz := 2) (es := v13.map fun x => [.v (str x.Ba), .v (str x.A7)]) (eF or0_9e) eA) ?_; refine vO ?_; obtain rfl := sI h; refine sG ?_; refine Ay (As he9e) rfl nbA hK
  refine Ah ?_; refine Gj (gf := 46) (cap := [.cp [.sl 10 (x8.map fun x => .v (str x.A9) :: .v (str x.Ac) :: (x.A5.map fun x => .sl 1 (x.map fun x => [.v (str x)])))]]) (C := []) (enc := fun (el12 : Int × S39) => [.v (.int .i64 el12.1), .ag (.v (str el12.2.A9) :: .v (str el12.2.Ac) :: (el12.2.A5.map fun x => .sl 1 (x.map fun x => [.v (str x)])))]) (fun (s : (List S78)) _ H' => ∃ n11 : Nat, Ext H H' ∧ H3.next ≤ H'.next ∧ H.next ≤ n11 ∧ n11 < H'.next ∧ ¬ Ae = n11 ∧ ¬ Af = n11 ∧ ¬ ka0 = n11 ∧ ¬ H.next = n11 ∧ H'.obj Ae = some (.map (mE (fun (x : S39) => .ag (.v (str x.A9) :: .v (str x.Ac) :: (x.A5.map fun x => .sl 1 (x.map fun x => [.v (str x)])))) Ak)) ∧ H'.obj Af = some (.map (mE (fun (x : List UInt8) => .v (str x)) An)) ∧ H'.obj ka0 = some (.cells ([.mp Ae, .mp Af, Be (fun (x : S33) => .v (str x.A9) :: .v (str x.Ac) :: .sl 2 (x.fDn.map fun x => [.v (str x.fType), .v (str x.A7)]) :: (x.A5.map fun x => .sl 1 (x.map fun x => [.v (str x)]))) Aw])) ∧ H'.obj H.next = some (.cells ([.os n11 s.length])) ∧ H'.obj n11 = some (.row 2 (s.map fun x => [.v (str x.Ba), .v (str x.A7)]))) hl9q (by kernel_rfl) (by rfl) (Tn (x8) gi9) ?_ (fun _ _ _ _ hh => hh) (by intro _ _ _ _ p hp; cases hp) (fun _ => rfl) ?_ ?_
  ·exact ⟨n5, by exact As he3, by omega, by with_reducible assumption, by with_reducible assumption, by with_reducible assumption, by with_reducible assumption, by with_reducible assumption, by with_reducible assumption, by with_reducible assumption, by with_reducible assumption, by with_reducible assumption, by with_reducible assumption, by with_reducible assumption⟩
  ·rintro I9 hI9 el12 v10 x9 H9 ⟨n11, he9, hl9, Xh, Xi, hq27, hq28, hq29, hq30, Kf, NO, Kg, Lr, NP⟩ h hret9
   replace h : Kh el12 v10 = some x9 := h; unfold Kh at h
   skip
   obtain ⟨g16, h⟩ := Ad.1 h; refine vF g16 ?_; refine Ah ?_; refine A3 fun cb hc17 => ?_; refine vF g16 ?_; obtain ⟨x18, hx18, h⟩ := A4 h; refine T5 el12.2.A5 (by exact hV.of (he9).sn) hx18 ?_; refine sG ?_; subst hc17; obtain ⟨g19, h⟩ := gS h; obtain ⟨g20, h⟩ := gS h; obtain ⟨g21, h⟩ := gS h; obtain ⟨g22, h⟩ := gS h; refine v0 ?_; simp -implicitDefEqProofs (disch := omega) [go_sem, bdP, VW, Lr, NP, g16]; obtain rfl := sI h; refine Aj hI9 (v10 ++ ([(⟨([112]) ++ el12.2.A9, (el12.2.Ac ++ ([10])) ++ x18.1⟩ : S78)])) ?_; refine .same ⟨n11, by exact As he9, by (simp -implicitDefEqProofs (disch := omega) [go_sem] <;> omega), by with_reducible assumption, by (simp -implicitDefEqProofs (disch := omega) [go_sem] <;> omega), by with_reducible assumption, by with_reducible assumption, by with_reducible assumption, by with_reducible assumption, ?_, ?_, ?_, ?_, ?_⟩ <;> (simp -implicitDefEqProofs (disch := omega) [go_sem, Kf, NO, Kg] <;> omega)
  rintro v10 H9 ⟨n11, he9, hl9, Xh, Xi, hq27, hq28, hq29, hq30, Kf, NO, Kg, Lr, NP⟩ hy9
  simp -implicitDefEqProofs only [go_sem]; refine hc9 _ _ ?_; refine .same ⟨n11, v10, hy9, by exact As he9, by (simp -implicitDefEqProofs (disch := omega) [go_sem] <;> omega), by with_reducible assumption, by (simp -implicitDefEqProofs (disch := omega) [go_sem] <;> omega), by with_reducible assumption, by with_reducible assumption, by with_reducible assumption, by with_reducible assumption, ?_, ?_, ?_, ?_, ?_, ?_⟩ <;> (simp -implicitDefEqProofs (disch := omega) [go_sem, VW, Kf, NO, Kg, Lr, NP] <;> omega)
 refine A3 fun cb hc31 => ?_; refine vG ?_; obtain ⟨x32, hx32, h⟩ := A4 h; refine T8 Ak An Aw ka0 Ae Af (eF Ar) (eF Am) (eF Ao) hx32 ?_; obtain ⟨g33, h⟩ := Ad.1 h; refine sF g33 ?_; subst hc31; refine wG ?_; refine A8 h eA rfl ?_ ?_
 ·intro c35 h; refine A3 fun cb hc36 => ?_; refine vF g33 ?_; obtain ⟨x37, hx37, h⟩ := A4 h; refine Tt x32.1.fDn hx37 ?_; refine sG ?_; subst hc36; refine A3 fun cb hc38 => ?_; refine vF g33 ?_; obtain ⟨x39, hx39, h⟩ := A4 h; refine T5 x32.1.A5 (by exact hV.of rfl) hx39 ?_; refine sG ?_; subst hc38; refine AB [8] [0, 1, 2, 3, 4, 5, 6, 7, 8, 9, 10, 11, 12] (by kernel_rfl) (by kernel_rfl) (fun _ _ _ _ h => h) ?_; simp -implicitDefEqProofs (disch := omega) [go_sem, bdP, g33]; obtain ⟨x40, hx40, h⟩ := A4 h; refine BS.mk _ (fun _ _ hK => Aa.eqA eA (YG ([x32.1.A9, x32.1.Ac, x37.1, x39.1]) ([10]) hx40 hK)) ?_; obtain ⟨g41, h⟩ := gS h; refine sF g33 ?_; refine hc3 _ _ ?_; refine .same ⟨H.next + 2, ([(⟨[105], x40⟩ : S78)]), by exact As (Ext.refl hw), by (simp -implicitDefEqProofs (disch := omega) [go_sem] <;> omega), by omega, by (simp -implicitDefEqProofs (disch := omega) [go_sem] <;> omega), by omega, by omega, by omega, by omega, ?_, ?_, ?_, ?_, ?_, ?_, ?_, h⟩ <;> (simp -implicitDefEqProofs (disch := omega) [go_sem, Am, Ao, Ar] <;> omega)
 intro c35 h; simp (disch := omega) at c35; refine vO ?_; refine hc3 _ _ ?_; refine UpI.gh (Gh.HT (kb := H.next) (sz := 2) (cs := [.v (.slice none 0 0)]) (cs' := [.os (H.next + 2) 0]) (by omega) eA (NzL.row NzL.nil)) ?_; refine .same ⟨H.next + 2, [], by exact As (Ext.refl hw), by (simp -implicitDefEqProofs (disch := omega) [go_sem] <;> omega), by omega, by (simp -implicitDefEqProofs (disch := omega) [go_sem] <;> omega), by omega, by omega, by omega, by omega, ?_, ?_, ?_, ?_, ?_, ?_, ?_, h⟩ <;> (simp -implicitDefEqProofs (disch := omega) [go_sem, Am, Ao, Ar] <;> omega)
end Go.Idl
namespace Go.Idl
set_option maxHeartbeats 8000000
set_option pp.deepTerms false
set_option maxRecDepth 60000
open Go Go.Proofs.Tryz
noncomputable def F31  : Option ((List (List (List UInt8)))) :=
 some ([[[65, 110, 110]], [], [], [], [], [], [], []])
theorem Tv {H : A2} {K : Au → A2 → Prop}  {r : (List (List (List UInt8)))} (h : F31  = some r) (hK : K (.ret (.ag (r.map fun x => .sl 1 (x.map fun x => [.v (str x)])))) H) : Aa prog 31 [] H K := by
 refine Ag (N := 6) func31 (by kernel_rfl) rfl (by kernel_rfl) (by kernel_rfl) fun cb hcb hw hbd hnb => ?_; clear hbd hnb; subst hcb; unfold F31 at h; refine wG ?_; refine A3 fun cb hc2 => ?_; refine v0 ?_; simp -implicitDefEqProofs (disch := omega) [go_sem, bdP]; subst hc2; refine wG ?_; refine wG ?_; refine vO ?_; obtain rfl := sI h; refine sG ?_; refine Aq (J := H) (r' := _) (Ext.Bp (by exact As (Ext.refl hw))) eA (.wk _ (.ag ([.sl 1 (([[65, 110, 110]]).map fun x => [.v (str x)]), .sl 1 ((([] : List (List UInt8))).map fun x => [.v (str x)]), .sl 1 ((([] : List (List UInt8))).map fun x => [.v (str x)]), .sl 1 ((([] : List (List UInt8))).map fun x => [.v (str x)]), .sl 1 ((([] : List (List UInt8))).map fun x => [.v (str x)]), .sl 1 ((([] : List (List UInt8))).map fun x => [.v (str x)]), .sl 1 ((([] : List (List UInt8))).map fun x => [.v (str x)]), .sl 1 ((([] : List (List UInt8))).map fun x => [.v (str x)])])) (by repeat (first | exact WkL.nil | refine WkL.cons ?_ ?_ | exact Wk.refl _ | exact Wk.nil _ | refine Wk.agL ?_)) (by exact nbA)) hK
noncomputable def F11  : Option Bool :=
 (F12 ).bind fun (x3 : (List (List UInt8 × S39)) × (List (List UInt8 × (List UInt8))) × (Option S33)) => (F31 ).bind fun (x5 : (List (List (List UInt8)))) => gd (x5.length = 8) ((F29 x3.1 x3.2.1 x3.2.2 (⟨[47, 98, 111, 111, 107, 47, 97], [117, 49], x5⟩ : S39)).bind fun (x7 : Int × (List (List UInt8 × S39)) × (List (List UInt8 × (List UInt8)))) => (F31 ).bind fun (x9 : (List (List (List UInt8)))) => gd (x9.length = 8) ((F29 x7.2.1 x7.2.2 x3.2.2 (⟨[47, 98, 111, 111, 107, 47, 98], [117, 49], x9⟩ : S39)).bind fun (x11 : Int × (List (List UInt8 × S39)) × (List (List UInt8 × (List UInt8)))) => (F18 x11.2.1 x11.2.2 x3.2.2 ([117, 49])).bind fun (x13 : S39 × Bool) => gd (x13.1.A5.length = 8) ((F33 x11.2.1 x11.2.2 x3.2.2).bind fun (x16 : (List S78)) => if x7.1 = 0 then (if x11.1 = 300 then (if x13.2 = true then (if x13.1.A9 = ([47, 98, 111, 111, 107, 47, 97]) then (if (x16.length : Int) = 1 then (gd (0 < x16.length) (if ((x16.getD 0 S78.zero).Ba) = ([112, 47, 98, 111, 111, 107, 47, 97]) then (some (decide (((x16.getD 0 S78.zero).A7) = ([117, 49, 10, 102, 117, 108, 108, 32, 49, 10, 51, 32, 65, 110, 110, 10])))) else (some false))) else (some false)) else (some false)) else (some false)) else (some false)) else (some false))))
theorem Kj {H : A2} {K : Au → A2 → Prop}  (hV : TOK prog H) {r : Bool} (h : F11  = some r) (hK : K (.ret (.v (.bool r))) H) : Aa prog 11 [] H K := by
 refine Ag (N := 56) func11 (by kernel_rfl) rfl (by kernel_rfl) (by kernel_rfl) fun cb hcb hw hbd hnb => ?_; clear hbd hnb; subst hcb; unfold F11 at h; refine wG ?_; refine A3 fun cb hc2 => ?_; refine vG ?_; obtain ⟨x3, hx3, h⟩ := A4 h; refine T7  hx3 ?_; refine sG ?_; subst hc2; refine A3 fun cb hc4 => ?_; refine vG ?_; obtain ⟨x5, hx5, h⟩ := A4 h; refine Tv  hx5 ?_; obtain ⟨g6, h⟩ := Ad.1 h; simp -implicitDefEqProofs (disch := omega) [go_sem, bdP, g6]; obtain ⟨x7, hx7, h⟩ := A4 h; refine Aa.wkL (args' := [.p H.next 0, .ag (.v (str ((⟨[47, 98, 111, 111, 107, 47, 97], [117, 49], x5⟩ : S39).A9)) :: .v (str ((⟨[47, 98, 111, 111, 107, 47, 97], [117, 49], x5⟩ : S39).Ac)) :: (((⟨[47, 98, 111, 111, 107, 47, 97], [117, 49], x5⟩ : S39).A5).map fun x => .sl 1 (x.map fun x => [.v (str x)])))]) (by repeat (first | exact WkL.nil | refine WkL.cons ?_ ?_ | exact Wk.refl _)) (OW x3.1 x3.2.1 x3.2.2 (⟨[47, 98, 111, 111, 107, 47, 97], [117, 49], x5⟩ : S39) H.next (H.next + 1) (H.next + 2) eA eA eA (by omega) hx7 ?_); refine sG ?_; subst hc4; refine A3 fun cb hc8 => ?_; refine vG ?_; obtain ⟨x9, hx9, h⟩ := A4 h; refine Tv  hx9 ?_; obtain ⟨g10, h⟩ := Ad.1 h; simp -implicitDefEqProofs (disch := omega) [go_sem, bdP, g10]; obtain ⟨x11, hx11, h⟩ := A4 h; refine Aa.wkL (args' := [.p H.next 0, .ag (.v (str ((⟨[47, 98, 111, 111, 107, 47, 98], [117, 49], x9⟩ : S39).A9)) :: .v (str ((⟨[47, 98, 111, 111, 107, 47, 98], [117, 49], x9⟩ : S39).Ac)) :: (((⟨[47, 98, 111, 111, 107, 47, 98], [117, 49], x9⟩ : S39).A5).map fun x => .sl 1 (x.map fun x => [.v (str x)])))]) (by repeat (first | exact WkL.nil | refine WkL.cons ?_ ?_ | exact Wk.refl _)) (OW x7.2.1 x7.2.2 x3.2.2 (⟨[47, 98, 111, 111, 107, 47, 98], [117, 49], x9⟩ : S39) H.next (H.next + 1) (H.next + 2) eA eA eA (by omega) hx11 ?_); refine sG ?_; subst hc8; refine A3 fun cb hc12 => ?_; refine vG ?_; obtain ⟨x13, hx13, h⟩ := A4 h; refine YV x11.2.1 x11.2.2 x3.2.2 ([117, 49]) H.next (H.next + 1) (H.next + 2) eA eA eA hx13 ?_; obtain ⟨g14, h⟩ := Ad.1 h; refine sF g14 ?_; subst hc12; refine A3 fun cb hc15 => ?_; refine vG ?_; obtain ⟨x16, hx16, h⟩ := A4 h; refine Z1 x11.2.1 x11.2.2 x3.2.2 H.next (H.next + 1) (H.next + 2) eA eA eA (by exact hV.of rfl) hx16 ?_; refine sG ?_; subst hc15; refine A3 fun cb hc17 => ?_; refine vG ?_; refine A6 h rfl ?_ ?_
 ·intro c24 h; refine sG ?_; refine A6 h rfl ?_ ?_
  ·intro c23 h; refine sG ?_; refine A6 h eA ?_ ?_
   ·intro c22 h; refine sF g14 ?_; refine A6 h rfl ?_ ?_
    ·intro c21 h; refine sG ?_; refine A6 h rfl ?_ ?_
     ·intro c20 h; obtain ⟨g18, h⟩ := Ad.1 h; refine sG ?_; refine A6 h eA ?_ ?_
      ·intro c19 h; simp (disch := omega) at c19; refine sG ?_; subst hc17; refine vO ?_; obtain rfl := sI h; refine sG ?_; exact Ap (.refl hw) hK
      intro c19 h; simp (disch := omega) at c19; refine sG ?_; subst hc17; refine vO ?_; obtain rfl := sI h; refine sG ?_; exact Ap (.refl hw) hK
     intro c20 h; refine sG ?_; subst hc17; refine vO ?_; obtain rfl := sI h; refine sG ?_; exact Ap (.refl hw) hK
    intro c21 h; refine sG ?_; subst hc17; refine vO ?_; obtain rfl := sI h; refine sG ?_; exact Ap (.refl hw) hK
   intro c22 h; simp (disch := omega) at c22; refine sG ?_; subst hc17; refine vO ?_; obtain rfl := sI h; refine sG ?_; exact Ap (.refl hw) hK
  intro c23 h; refine sG ?_; subst hc17; refine vO ?_; obtain rfl := sI h; refine sG ?_; exact Ap (.refl hw) hK
 intro c24 h; refine sG ?_; subst hc17; refine vO ?_; obtain rfl := sI h; refine sG ?_; exact Ap (.refl hw) hK
end Go.Idl
namespace Go.Idl
set_option maxHeartbeats 8000000
set_option pp.deepTerms false
set_option maxRecDepth 60000
open Go Go.Proofs.Tryz
noncomputable def J6 (a0 : List UInt8) : Option Bool :=
 if 1 ≤ (a0.length : Int) then (some (decide ((a0.length : Int) ≤ 64))) else (some false)
noncomputable def GZ (a0 : List UInt8) (v5 : Int) : Option (Int ⊕ (Unit ⊕ Bool)) :=
 if v5 < (a0.length : Int) then (gd (0 ≤ v5 ∧ v5 < a0.length) (if (((a0.getD v5.toNat 0).toNat : Int)) < 48 then (if (((a0.getD v5.toNat 0).toNat : Int)) < 65 then (if (((a0.getD v5.toNat 0).toNat : Int)) < 97 then (if ¬ (((a0.getD v5.toNat 0).toNat : Int)) = 45 then (if ¬ (((a0.getD v5.toNat 0).toNat : Int)) = 46 then (if ¬ (((a0.getD v5.toNat 0).toNat : Int)) = 95 then (some (.inr (.inr false))) else (some (.inl (IntKind.i64.wrap (v5 + 1))))) else (some (.inl (IntKind.i64.wrap (v5 + 1))))) else (some (.inl (IntKind.i64.wrap (v5 + 1))))) else (if 122 < (((a0.getD v5.toNat 0).toNat : Int)) then (if ¬ (((a0.getD v5.toNat 0).toNat : Int)) = 45 then (if ¬ (((a0.getD v5.toNat 0).toNat : Int)) = 46 then (if ¬ (((a0.getD v5.toNat 0).toNat : Int)) = 95 then (some (.inr (.inr false))) else (some (.inl (IntKind.i64.wrap (v5 + 1))))) else (some (.inl (IntKind.i64.wrap (v5 + 1))))) else (some (.inl (IntKind.i64.wrap (v5 + 1))))) else (some (.inl (IntKind.i64.wrap (v5 + 1)))))) else (if 90 < (((a0.getD v5.toNat 0).toNat : Int)) then (if (((a0.getD v5.toNat 0).toNat : Int)) < 97 then (if ¬ (((a0.getD v5.toNat 0).toNat : Int)) = 45 then (if ¬ (((a0.getD v5.toNat 0).toNat : Int)) = 46 then (if ¬ (((a0.getD v5.toNat 0).toNat : Int)) = 95 then (some (.inr (.inr false))) else (some (.inl (IntKind.i64.wrap (v5 + 1))))) else (some (.inl (IntKind.i64.wrap (v5 + 1))))) else (some (.inl (IntKind.i64.wrap (v5 + 1))))) else (if 122 < (((a0.getD v5.toNat 0).toNat : Int)) then (if ¬ (((a0.getD v5.toNat 0).toNat : Int)) = 45 then (if ¬ (((a0.getD v5.toNat 0).toNat : Int)) = 46 then (if ¬ (((a0.getD v5.toNat 0).toNat : Int)) = 95 then (some (.inr (.inr false))) else (some (.inl (IntKind.i64.wrap (v5 + 1))))) else (some (.inl (IntKind.i64.wrap (v5 + 1))))) else (some (.inl (IntKind.i64.wrap (v5 + 1))))) else (some (.inl (IntKind.i64.wrap (v5 + 1)))))) else (some (.inl (IntKind.i64.wrap (v5 + 1)))))) else (if 57 < (((a0.getD v5.toNat 0).toNat : Int)) then (if (((a0.getD v5.toNat 0).toNat : Int)) < 65 then (if (((a0.getD v5.toNat 0).toNat : Int)) < 97 then (if ¬ (((a0.getD v5.toNat 0).toNat : Int)) = 45 then (if ¬ (((a0.getD v5.toNat 0).toNat : Int)) = 46 then (if ¬ (((a0.getD v5.toNat 0).toNat : Int)) = 95 then (some (.inr (.inr false))) else (some (.inl (IntKind.i64.wrap (v5 + 1))))) else (some (.inl (IntKind.i64.wrap (v5 + 1))))) else (some (.inl (IntKind.i64.wrap (v5 + 1))))) else (if 122 < (((a0.getD v5.toNat 0).toNat : Int)) then (if ¬ (((a0.getD v5.toNat 0).toNat : Int)) = 45 then (if ¬ (((a0.getD v5.toNat 0).toNat : Int)) = 46 then (if ¬ (((a0.getD v5.toNat 0).toNat : Int)) = 95 then (some (.inr (.inr false))) else (some (.inl (IntKind.i64.wrap (v5 + 1))))) else (some (.inl (IntKind.i64.wrap (v5 + 1))))) else (some (.inl (IntKind.i64.wrap (v5 + 1))))) else (some (.inl (IntKind.i64.wrap (v5 + 1)))))) else (if 90 < (((a0.getD v5.toNat 0).toNat : Int)) then (if (((a0.getD v5.toNat 0).toNat : Int)) < 97 then (if ¬ (((a0.getD v5.toNat 0).toNat : Int)) = 45 then (if ¬ (((a0.getD v5.toNat 0).toNat : Int)) = 46 then (if ¬ (((a0.getD v5.toNat 0).toNat : Int)) = 95 then (some (.inr (.inr false))) else (some (.inl (IntKind.i64.wrap (v5 + 1))))) else (some (.inl (IntKind.i64.wrap (v5 + 1))))) else (some (.inl (IntKind.i64.wrap (v5 + 1))))) else (if 122 < (((a0.getD v5.toNat 0).toNat : Int)) then (if ¬ (((a0.getD v5.toNat 0).toNat : Int)) = 45 then (if ¬ (((a0.getD v5.toNat 0).toNat : Int)) = 46 then (if ¬ (((a0.getD v5.toNat 0).toNat : Int)) = 95 then (some (.inr (.inr false))) else (some (.inl (IntKind.i64.wrap (v5 + 1))))) else (some (.inl (IntKind.i64.wrap (v5 + 1))))) else (some (.inl (IntKind.i64.wrap (v5 + 1))))) else (some (.inl (IntKind.i64.wrap (v5 + 1)))))) else (some (.inl (IntKind.i64.wrap (v5 + 1)))))) else (some (.inl (IntKind.i64.wrap (v5 + 1))))))) else (some (.inr (.inl ())))
noncomputable def Tw (a0 : List UInt8) : Option Bool :=
 (AD (fun (s : Int) => GZ a0 s) 0).bind fun y => Sum.elim (fun (e : Unit) => J6 a0) (fun (q : Bool) => some q) y
theorem VX {H : A2} {K : Au → A2 → Prop} (a0 : List UInt8) {r : Bool} (h : Tw a0 = some r) (hK : K (.ret (.v (.bool r))) H) : Aa prog 113 [.v (str a0)] H K := by
 refine Ag (N := 56) func113 (by kernel_rfl) rfl (by kernel_rfl) (by kernel_rfl) fun cb hcb hw hbd hnb => ?_; clear hbd hnb; subst hcb; unfold Tw at h; refine wG ?_; refine A3 fun cb hc2 => ?_; refine wG ?_; obtain ⟨y4, hl4q, hk4⟩ := A4 h; refine AF (fun tm' H' => .inl () = y4 ∧ H = H' ∧ tm' 0 = .v (str a0)) ?_ fun cb hc4 => ?_
 ·rintro tm4e H4e ⟨rfl, rfl, t0_4e⟩
  have h : J6 a0 = some r := hk4; unfold J6 at h; simp -implicitDefEqProofs only [go_sem]; subst hc2; refine A3 fun cb hc6 => ?_; refine vF t0_4e ?_; refine A6 h rfl ?_ ?_
  ·intro c7 h; refine sF t0_4e ?_; subst hc6; refine vO ?_; obtain rfl := sI h; refine sG ?_; exact Ap (.refl hw) hK
  intro c7 h; simp (disch := omega) at c7; refine sG ?_; subst hc6; refine vO ?_; obtain rfl := sI h; refine sG ?_; exact Ap (.refl hw) hK
 refine Ah ?_; refine Az (fun (s : Int) tm' H' => H = H' ∧ tm' 0 = .v (str a0) ∧ tm' 3 = .v (.int .i64 s)) hl4q ?_ ?_
 ·exact sm
 rintro I4 hI4 v5 x4 tm4 H4 ⟨rfl, B4, BH⟩ h hret4
 replace h : GZ a0 v5 = some x4 := h; unfold GZ at h; refine A3 fun cb hc8 => ?_; refine wF (nd B4 BH) ?_; refine A8 h eA rfl ?_ ?_
 ·intro c10 h; refine vO ?_; subst hc8; refine A3 fun cb hc11 => ?_; refine Ah ?_; obtain ⟨g13, h⟩ := Ad.1 h; refine wF (nd B4 BH) ?_; refine A3 fun cb hc14 => ?_; refine vG ?_; refine A6 h eA ?_ ?_
  ·intro c60 h; simp (disch := omega) at c60; refine sG ?_; refine A6 h eA ?_ ?_
   ·intro c36 h; simp (disch := omega) at c36; refine sG ?_; refine A6 h eA ?_ ?_
    ·intro c24 h; simp (disch := omega) at c24; refine sG ?_; refine A6 h eA ?_ ?_
     ·intro c18 h; simp (disch := omega) at c18; refine sG ?_; refine A6 h eA ?_ ?_
      ·intro c17 h; simp (disch := omega) at c17; refine sG ?_; subst hc14; refine A8 h eA rfl ?_ ?_
       ·intro c15 h; simp (disch := omega) at c15; refine wG ?_; refine vO ?_; obtain rfl := sI h; obtain rfl := hret4 _ rfl; replace h : some false = some r := hk4; obtain rfl := sI h; refine sG ?_; exact Ap (.refl hw) hK
       intro c15 h; simp (disch := omega) at c15; refine vO ?_; subst hc11; refine vF BH ?_; obtain rfl := sI h; refine Aj hI4 (IntKind.i64.wrap (v5 + 1)) ?_; exact smF B4
      intro c17 h; simp (disch := omega) at c17; refine sG ?_; subst hc14; refine Al eA rfl ?_; refine vO ?_; subst hc11; refine vF BH ?_; obtain rfl := sI h; refine Aj hI4 (IntKind.i64.wrap (v5 + 1)) ?_; exact smF B4
     intro c18 h; simp (disch := omega) at c18; refine sG ?_; subst hc14; refine Al eA rfl ?_; refine vO ?_; subst hc11; refine vF BH ?_; obtain rfl := sI h; refine Aj hI4 (IntKind.i64.wrap (v5 + 1)) ?_; exact smF B4
    intro c24 h; simp (disch := omega) at c24; refine sG ?_; refine A6 h eA ?_ ?_
    ·intro c23 h; simp (disch := omega) at c23; refine sG ?_; refine A6 h eA ?_ ?_
     ·intro c22 h; simp (disch := omega) at c22; refine sG ?_; refine A6 h eA ?_ ?_
      ·intro c21 h; simp (disch := omega) at c21; refine sG ?_; subst hc14; refine A8 h eA rfl ?_ ?_
       ·intro c19 h; simp (disch := omega) at c19; refine wG ?_; refine vO ?_; obtain rfl := sI h; obtain rfl := hret4 _ rfl; replace h : some false = some r := hk4; obtain rfl := sI h; refine sG ?_; exact Ap (.refl hw) hK
       intro c19 h; simp (disch := omega) at c19; refine vO ?_; subst hc11; refine vF BH ?_; obtain rfl := sI h; refine Aj hI4 (IntKind.i64.wrap (v5 + 1)) ?_; exact smF B4
      intro c21 h; simp (disch := omega) at c21; refine sG ?_; subst hc14; refine Al eA rfl ?_; refine vO ?_; subst hc11; refine vF BH ?_; obtain rfl := sI h; refine Aj hI4 (IntKind.i64.wrap (v5 + 1)) ?_; exact smF B4
     intro c22 h; simp (disch := omega) at c22; refine sG ?_; subst hc14; refine Al eA rfl ?_; refine vO ?_; subst hc11; refine vF BH ?_; obtain rfl := sI h; refine Aj hI4 (IntKind.i64.wrap (v5 + 1)) ?_; exact smF B4
    intro c23 h; simp (disch := omega) at c23; refine sG ?_; subst hc14; refine Al eA rfl ?_; refine vO ?_; subst hc11; refine vF BH ?_; obtain rfl := sI h; refine Aj hI4 (IntKind.i64.wrap (v5 + 1)) ?_; exact smF B4
   intro c36 h; simp (disch := omega) at c36; refine sG ?_; refine A6 h eA ?_ ?_
   ·intro c35 h; simp (disch := omega) at c35; refine sG ?_; refine A6 h eA ?_ ?_
    ·intro c34 h; simp (disch := omega) at c34; refine sG ?_; refine A6 h eA ?_ ?_
     ·intro c28 h; simp (disch := omega) at c28; refine sG ?_; refine A6 h eA ?_ ?_
      ·intro c27 h; simp (disch := omega) at c27; refine sG ?_; subst hc14; refine A8 h eA rfl ?_ ?_
       ·intro c25 h; simp (disch := omega) at c25; refine wG ?_; refine vO ?_; obtain rfl := sI h; obtain rfl := hret4 _ rfl; replace h : some false = some r := hk4; obtain rfl := sI h; refine sG ?_; exact Ap (.refl hw) hK
       intro c25 h; simp (disch := omega) at c25; refine vO ?_; subst hc11; refine vF BH ?_; obtain rfl := sI h; refine Aj hI4 (IntKind.i64.wrap (v5 + 1)) ?_; exact smF B4
      intro c27 h; simp (disch := omega) at c27; refine sG ?_; subst hc14; refine Al eA rfl ?_; refine vO ?_; subst hc11; refine vF BH ?_; obtain rfl := sI h; refine Aj hI4 (IntKind.i64.wrap (v5 + 1)) ?_; exact smF B4
     intro c28 h; simp (disch := omega) at c28; refine sG ?_; subst hc14; refine Al eA rfl ?_; refine vO ?_; subst hc11; refine vF BH ?_; obtain rfl := sI h; refine Aj hI4 (IntKind.i64.wrap (v5 + 1)) ?_; exact smF B4
    intro c34 h; simp (disch := omega) at c34; refine sG ?_; refine A6 h eA ?_ ?_
    ·intro c33 h; simp (disch := omega) at c33; refine sG ?_; refine A6 h eA ?_ ?_
     ·intro c32 h; simp (disch := omega) at c32; refine sG ?_; refine A6 h eA ?_ ?_
      ·intro c31 h; simp (disch := omega) at c31; refine sG ?_; subst hc14; refine A8 h eA rfl ?_ ?_
       ·intro c29 h; simp (disch := omega) at c29; refine wG ?_; refine vO ?_; obtain rfl := sI h; obtain rfl := hret4 _ rfl; replace h : some false = some r := hk4; obtain rfl := sI h; refine sG ?_; exact Ap (.refl hw) hK
       intro c29 h; simp (disch := omega) at c29; refine vO ?_; subst hc11; refine vF BH ?_; obtain rfl := sI h; refine Aj hI4 (IntKind.i64.wrap (v5 + 1)) ?_; exact smF B4
      intro c31 h; simp (disch := omega) at c31; refine sG ?_; subst hc14; refine Al eA rfl ?_; refine vO ?_; subst hc11; refine vF BH ?_; obtain rfl := sI h; refine Aj hI4 (IntKind.i64.wrap (v5 + 1)) ?_; exact smF B4
     intro c32 h; simp (disch := omega) at c32; refine sG ?_; subst hc14; refine Al eA rfl ?_; refine vO ?_; subst hc11; refine vF BH ?_; obtain rfl := sI h; refine Aj hI4 (IntKind.i64.wrap (v5 + 1)) ?_; exact smF B4
    intro c33 h; simp (disch := omega) at c33; refine sG ?_; subst hc14; refine Al eA rfl ?_; refine vO ?_; subst hc11; refine vF BH ?_; obtain rfl := sI h; refine Aj hI4 (IntKind.i64.wrap (v5 + 1)) ?_; exact smF B4
   intro c35 h; simp (disch := omega) at c35; refine sG ?_; subst hc14; refine Al eA rfl ?_; refine vO ?_; subst hc11; refine vF BH ?_; obtain rfl := sI h; refine Aj hI4 (IntKind.i64.wrap (v5 + 1)) ?_; exact smF B4
  intro c60 h; simp (disch := omega) at c60; refine sG ?_; refine A6 h eA ?_ ?_
  ·intro c59 h; simp (disch := omega) at c59; refine sG ?_; refine A6 h eA ?_ ?_
   ·intro c58 h; simp (disch := omega) at c58; refine sG ?_; refine A6 h eA ?_ ?_
    ·intro c46 h; simp (disch := omega) at c46; refine sG ?_; refine A6 h eA ?_ ?_
     ·intro c40 h; simp (disch := omega) at c40; refine sG ?_; refine A6 h eA ?_ ?_
      ·intro c39 h; simp (disch := omega) at c39; refine sG ?_; subst hc14; refine A8 h eA rfl ?_ ?_
       ·intro c37 h; simp (disch := omega) at c37; refine wG ?_; refine vO ?_; obtain rfl := sI h; obtain rfl := hret4 _ rfl; replace h : some false = some r := hk4; obtain rfl := sI h; refine sG ?_; exact Ap (.refl hw) hK
       intro c37 h; simp (disch := omega) at c37; refine vO ?_; subst hc11; refine vF BH ?_; obtain rfl := sI h; refine Aj hI4 (IntKind.i64.wrap (v5 + 1)) ?_; exact smF B4
      intro c39 h; simp (disch := omega) at c39; refine sG ?_; subst hc14; refine Al eA rfl ?_; refine vO ?_; subst hc11; refine vF BH ?_; obtain rfl := sI h; refine Aj hI4 (IntKind.i64.wrap (v5 + 1)) ?_; exact smF B4
     intro c40 h; simp (disch := omega) at c40; refine sG ?_; subst hc14; refine Al eA rfl ?_; refine vO ?_; subst hc11; refine vF BH ?_; obtain rfl := sI h; refine Aj hI4 (IntKind.i64.wrap (v5 + 1)) ?_; exact smF B4
    intro c46 h; simp (disch := omega) at c46; refine sG ?_; refine A6 h eA ?_ ?_
    ·intro c45 h; simp (disch := omega) at c45; refine sG ?_; refine A6 h eA ?_ ?_
     ·intro c44 h; simp (disch := omega) at c44; refine sG ?_; refine A6 h eA ?_ ?_
      ·intro c43 h; simp (disch := omega) at c43; refine sG ?_; subst hc14; refine A8 h eA rfl ?_ ?_
       ·intro c41 h; simp (disch := omega) at c41; refine wG ?_; refine vO ?_; obtain rfl := sI h; obtain rfl := hret4 _ rfl; replace h : some false = some r := hk4; obtain rfl := sI h; refine sG ?_; exact Ap (.refl hw) hK
       intro c41 h; simp (disch := omega) at c41; refine vO ?_; subst hc11; refine vF BH ?_; obtain rfl := sI h; refine Aj hI4 (IntKind.i64.wrap (v5 + 1)) ?_; exact smF B4
      intro c43 h; simp (disch := omega) at c43; refine sG ?_; subst hc14; refine Al eA rfl ?_; refine vO ?_; subst hc11; refine vF BH ?_; obtain rfl := sI h; refine Aj hI4 (IntKind.i64.wrap (v5 + 1)) ?_; exact smF B4
     intro c44 h; simp (disch := omega) at c44; refine sG ?_; subst hc14; refine Al eA rfl ?_; refine vO ?_; subst hc11; refine vF BH ?_; obtain rfl := sI h; refine Aj hI4 (IntKind.i64.wrap (v5 + 1)) ?_; exact smF B4
    intro c45 h; simp (disch := omega) at c45; refine sG ?_; subst hc14; refine Al eA rfl ?_; refine vO ?_; subst hc11; refine vF BH ?_; obtain rfl := sI h; refine Aj hI4 (IntKind.i64.wrap (v5 + 1)) ?_; exact smF B4
   intro c58 h; simp (disch := omega) at c58; refine sG ?_; refine A6 h eA ?_ ?_
   ·intro c57 h; simp (disch := omega) at c57; refine sG ?_; refine A6 h eA ?_ ?_
    ·intro c56 h; simp (disch := omega) at c56; refine sG ?_; refine A6 h eA ?_ ?_
     ·intro c50 h; simp (disch := omega) at c50; refine sG ?_; refine A6 h eA ?_ ?_
      ·intro c49 h; simp (disch := omega) at c49; refine sG ?_; subst hc14; refine A8 h eA rfl ?_ ?_
       ·intro c47 h; simp (disch := omega) at c47; refine wG ?_; refine vO ?_; obtain rfl := sI h; obtain rfl := hret4 _ rfl; replace h : some false = some r := hk4; obtain rfl := sI h; refine sG ?_; exact Ap (.refl hw) hK
       intro c47 h; simp (disch := omega) at c47; refine vO ?_; subst hc11; refine vF BH ?_; obtain rfl := sI h; refine Aj hI4 (IntKind.i64.wrap (v5 + 1)) ?_; exact smF B4
      intro c49 h; simp (disch := omega) at c49; refine sG ?_; subst hc14; refine Al eA rfl ?_; refine vO ?_; subst hc11; refine vF BH ?_; obtain rfl := sI h; refine Aj hI4 (IntKind.i64.wrap (v5 + 1)) ?_; exact smF B4
     intro c50 h; simp (disch := omega) at c50; refine sG ?_; subst hc14; refine Al eA rfl ?_; refine vO ?_; subst hc11; refine vF BH ?_; obtain rfl := sI h; refine Aj hI4 (IntKind.i64.wrap (v5 + 1)) ?_; exact smF B4
    intro c56 h; simp (disch := omega) at c56; refine sG ?_; refine A6 h eA ?_ ?_
    ·intro c55 h; simp (disch := omega) at c55; refine sG ?_; refine A6 h eA ?_ ?_
     ·intro c54 h; simp (disch := omega) at c54; refine sG ?_; refine A6 h eA ?_ ?_
      ·intro c53 h; simp (disch := omega) at c53; refine sG ?_; subst hc14; refine A8 h eA rfl ?_ ?_
       ·intro c51 h; simp (disch := omega) at c51; refine wG ?_; refine vO ?_; obtain rfl := sI h; obtain rfl := hret4 _ rfl; replace h : some false = some r := hk4; obtain rfl := sI h; refine sG ?_; exact Ap (.refl hw) hK
       intro c51 h; simp (disch := omega) at c51; refine vO ?_; subst hc11; refine vF BH ?_; obtain rfl := sI h; refine Aj hI4 (IntKind.i64.wrap (v5 + 1)) ?_; exact smF B4
      intro c53 h; simp (disch := omega) at c53; refine sG ?_; subst hc14; refine Al eA rfl ?_; refine vO ?_; subst hc11; refine vF BH ?_; obtain rfl := sI h; refine Aj hI4 (IntKind.i64.wrap (v5 + 1)) ?_; exact smF B4
     intro c54 h; simp (disch := omega) at c54; refine sG ?_; subst hc14; refine Al eA rfl ?_; refine vO ?_; subst hc11; refine vF BH ?_; obtain rfl := sI h; refine Aj hI4 (IntKind.i64.wrap (v5 + 1)) ?_; exact smF B4
    intro c55 h; simp (disch := omega) at c55; refine sG ?_; subst hc14; refine Al eA rfl ?_; refine vO ?_; subst hc11; refine vF BH ?_; obtain rfl := sI h; refine Aj hI4 (IntKind.i64.wrap (v5 + 1)) ?_; exact smF B4
   intro c57 h; simp (disch := omega) at c57; refine sG ?_; subst hc14; refine Al eA rfl ?_; refine vO ?_; subst hc11; refine vF BH ?_; obtain rfl := sI h; refine Aj hI4 (IntKind.i64.wrap (v5 + 1)) ?_; exact smF B4
  intro c59 h; simp (disch := omega) at c59; refine sG ?_; subst hc14; refine Al eA rfl ?_; refine vO ?_; subst hc11; refine vF BH ?_; obtain rfl := sI h; refine Aj hI4 (IntKind.i64.wrap (v5 + 1)) ?_; exact smF B4
 intro c10 h; simp (disch := omega) at c10; refine vO ?_; obtain rfl := sI h; have hy4 := hret4 _ rfl; refine hc4 _ _ ?_; refine .same ⟨hy4, rfl, by (simp -implicitDefEqProofs (disch := omega) [go_sem, B4] <;> omega)⟩
noncomputable def F71 (a0 : List UInt8) : Option Bool :=
 if 6 < (a0.length : Int) then (gd (0 ≤ 6) (gd (6 ≤ a0.length) (if (a0.take 6) = ([47, 98, 111, 111, 107, 47]) then ((Tw (a0.drop 6)).bind fun (x5 : Bool) => some x5) else (some false)))) else (some false)
theorem Mt {H : A2} {K : Au → A2 → Prop} (a0 : List UInt8) {r : Bool} (h : F71 a0 = some r) (hK : K (.ret (.v (.bool r))) H) : Aa prog 71 [.v (str a0)] H K := by
 refine Ag (N := 16) func71 (by kernel_rfl) rfl (by kernel_rfl) (by kernel_rfl) fun cb hcb hw hbd hnb => ?_; clear hbd hnb; subst hcb; unfold F71 at h; refine wG ?_; refine A3 fun cb hc2 => ?_; refine vG ?_; refine A6 h rfl ?_ ?_
 ·intro c7 h; obtain ⟨g3, h⟩ := gS h; obtain ⟨g4, h⟩ := Ad.1 h; refine sG ?_; refine A6 h rfl ?_ ?_
  ·intro c6 h; refine sG ?_; obtain ⟨x5, hx5, h⟩ := A4 h; refine VX (a0.drop 6) hx5 ?_; refine sG ?_; subst hc2; refine vO ?_; obtain rfl := sI h; refine sG ?_; exact Ap (.refl hw) hK
  intro c6 h; refine sG ?_; subst hc2; refine vO ?_; obtain rfl := sI h; refine sG ?_; exact Ap (.refl hw) hK
 intro c7 h; simp (disch := omega) at c7; refine sG ?_; subst hc2; refine vO ?_; obtain rfl := sI h; refine sG ?_; exact Ap (.refl hw) hK
noncomputable def Mu (a0 : List UInt8) : Option Bool :=
 if 1 ≤ (a0.length : Int) then (some (decide ((a0.length : Int) ≤ 64))) else (some false)
noncomputable def Kk (a0 : List UInt8) (v5 : Int) : Option (Int ⊕ (Unit ⊕ Bool)) :=
 if v5 < (a0.length : Int) then (gd (0 ≤ v5 ∧ v5 < a0.length) (if (((a0.getD v5.toNat 0).toNat : Int)) < 33 then (some (.inr (.inr false))) else (if 126 < (((a0.getD v5.toNat 0).toNat : Int)) then (some (.inr (.inr false))) else (some (.inl (IntKind.i64.wrap (v5 + 1))))))) else (some (.inr (.inl ())))
noncomputable def F72 (a0 : List UInt8) : Option Bool :=
 (AD (fun (s : Int) => Kk a0 s) 0).bind fun y => Sum.elim (fun (e : Unit) => Mu a0) (fun (q : Bool) => some q) y
theorem Tx {H : A2} {K : Au → A2 → Prop} (a0 : List UInt8) {r : Bool} (h : F72 a0 = some r) (hK : K (.ret (.v (.bool r))) H) : Aa prog 72 [.v (str a0)] H K := by
 refine Ag (N := 28) func72 (by kernel_rfl) rfl (by kernel_rfl) (by kernel_rfl) fun cb hcb hw hbd hnb => ?_; clear hbd hnb; subst hcb; unfold F72 at h; refine wG ?_; refine A3 fun cb hc2 => ?_; refine wG ?_; obtain ⟨y4, hl4q, hk4⟩ := A4 h; refine AF (fun tm' H' => .inl () = y4 ∧ H = H' ∧ tm' 0 = .v (str a0)) ?_ fun cb hc4 => ?_
 ·rintro tm4e H4e ⟨rfl, rfl, t0_4e⟩
  have h : Mu a0 = some r := hk4; unfold Mu at h; simp -implicitDefEqProofs only [go_sem]; subst hc2; refine A3 fun cb hc6 => ?_; refine vF t0_4e ?_; refine A6 h rfl ?_ ?_
  ·intro c7 h; refine sF t0_4e ?_; subst hc6; refine vO ?_; obtain rfl := sI h; refine sG ?_; exact Ap (.refl hw) hK
  intro c7 h; simp (disch := omega) at c7; refine sG ?_; subst hc6; refine vO ?_; obtain rfl := sI h; refine sG ?_; exact Ap (.refl hw) hK
 refine Ah ?_; refine Az (fun (s : Int) tm' H' => H = H' ∧ tm' 0 = .v (str a0) ∧ tm' 3 = .v (.int .i64 s)) hl4q ?_ ?_
 ·exact sm
 rintro I4 hI4 v5 x4 tm4 H4 ⟨rfl, B4, BH⟩ h hret4
 replace h : Kk a0 v5 = some x4 := h; unfold Kk at h; refine A3 fun cb hc8 => ?_; refine wF (nd B4 BH) ?_; refine A8 h eA rfl ?_ ?_
 ·intro c10 h; refine vO ?_; subst hc8; refine A3 fun cb hc11 => ?_; refine Ah ?_; refine A3 fun cb hc12 => ?_; obtain ⟨g13, h⟩ := Ad.1 h; refine vF (nd B4 BH) ?_; refine A6 h eA ?_ ?_
  ·intro c17 h; simp (disch := omega) at c17; refine sG ?_; subst hc12; refine Ai eA rfl ?_; refine wG ?_; refine vO ?_; obtain rfl := sI h; obtain rfl := hret4 _ rfl; replace h : some false = some r := hk4; obtain rfl := sI h; refine sG ?_; exact Ap (.refl hw) hK
  intro c17 h; simp (disch := omega) at c17; refine sF (nd B4 BH) ?_; subst hc12; refine A8 h eA rfl ?_ ?_
  ·intro c15 h; simp (disch := omega) at c15; refine wG ?_; refine vO ?_; obtain rfl := sI h; obtain rfl := hret4 _ rfl; replace h : some false = some r := hk4; obtain rfl := sI h; refine sG ?_; exact Ap (.refl hw) hK
  intro c15 h; simp (disch := omega) at c15; refine vO ?_; subst hc11; refine vF BH ?_; obtain rfl := sI h; refine Aj hI4 (IntKind.i64.wrap (v5 + 1)) ?_; exact smF B4
 intro c10 h; simp (disch := omega) at c10; refine vO ?_; obtain rfl := sI h; have hy4 := hret4 _ rfl; refine hc4 _ _ ?_; refine .same ⟨hy4, rfl, by (simp -implicitDefEqProofs (disch := omega) [go_sem, B4] <;> omega)⟩
noncomputable def F76 (a0 : Int) : Option Int :=
 if 6 ≤ a0 then (some 8) else (some 1)
theorem Z2 {H : A2} {K : Au → A2 → Prop} (a0 : Int) {r : Int} (h : F76 a0 = some r) (hK : K (.ret (.v (.int .i64 r))) H) : Aa prog 76 [.v (.int .i64 a0)] H K := by
 refine Ag (N := 5) func76 (by kernel_rfl) rfl (by kernel_rfl) (by kernel_rfl) fun cb hcb hw hbd hnb => ?_; clear hbd hnb; subst hcb; unfold F76 at h; refine wG ?_; refine A3 fun cb hc2 => ?_; refine wG ?_; refine A8 h eA rfl ?_ ?_
 ·intro c4 h; refine wG ?_; refine vO ?_; obtain rfl := sI h; refine sG ?_; exact Ap (.refl hw) hK
 intro c4 h; simp (disch := omega) at c4; refine vO ?_; subst hc2; refine wG ?_; refine vO ?_; obtain rfl := sI h; refine sG ?_; exact Ap (.refl hw) hK
noncomputable def Mv  : Option Bool :=
 some true
noncomputable def J7 (v6 : Int) : Option (Int ⊕ (Unit ⊕ Bool)) :=
 some (.inl (IntKind.i64.wrap (v6 + 1)))
noncomputable def Fw (a0 : Int) (a1 : List (List UInt8)) (v6 : Int) (v15 : Int) : Option (Int ⊕ (Unit ⊕ Bool)) :=
 gd (0 ≤ v6 ∧ v6 < a1.length) (if v15 < (((a1.getD v6.toNat []).length : Int)) then (gd (0 ≤ v15 ∧ v15 < (a1.getD v6.toNat []).length) (if ((((a1.getD v6.toNat []).getD v15.toNat 0).toNat : Int)) < 32 then (if ¬ ((((a1.getD v6.toNat []).getD v15.toNat 0).toNat : Int)) = 10 then (some (.inr (.inr false))) else (if ¬ a0 = 5 then (some (.inr (.inr false))) else (some (.inl (IntKind.i64.wrap (v15 + 1)))))) else (some (.inl (IntKind.i64.wrap (v15 + 1)))))) else (some (.inr (.inl ()))))
noncomputable def Dv (a0 : Int) (a1 : List (List UInt8)) (v6 : Int) : Option (Int ⊕ (Unit ⊕ Bool)) :=
 (AD (fun (s : Int) => Fw a0 a1 v6 s) 0).bind fun y => Sum.elim (fun (e : Unit) => J7 v6) (fun (q : Bool) => some (.inr (.inr q))) y
noncomputable def H_ (a0 : Int) (a1 : List (List UInt8)) (v6 : Int) : Option (Int ⊕ (Unit ⊕ Bool)) :=
 if v6 < (a1.length : Int) then (gd (0 ≤ v6 ∧ v6 < a1.length) (if (((a1.getD v6.toNat []).length : Int)) < 1 then (some (.inr (.inr false))) else (if 200 < (((a1.getD v6.toNat []).length : Int)) then (some (.inr (.inr false))) else (if 0 < v6 then (gd (0 ≤ (IntKind.i64.wrap (v6 - 1)) ∧ (IntKind.i64.wrap (v6 - 1)) < a1.length) (if ¬ Op.bytesLess (a1.getD (IntKind.i64.wrap (v6 - 1)).toNat []) (a1.getD v6.toNat []) = true then (some (.inr (.inr false))) else (Dv a0 a1 v6))) else (Dv a0 a1 v6))))) else (some (.inr (.inl ())))
noncomputable def I0 (a0 : Int) (a1 : List (List UInt8)) : Option Bool :=
 (AD (fun (s : Int) => H_ a0 a1 s) 0).bind fun y => Sum.elim (fun (e : Unit) => Mv) (fun (q : Bool) => some q) y
noncomputable def F47 (a0 : Int) (a1 : List (List UInt8)) : Option Bool :=
 (F76 a0).bind fun (x40 : Int) => if x40 < (a1.length : Int) then (some false) else (if a0 = 0 then (if ¬ (a1.length : Int) = 1 then (some false) else (I0 a0 a1)) else (I0 a0 a1))
theorem Z3 {H : A2} {K : Au → A2 → Prop} (a0 : Int) (a1 : List (List UInt8)) {r : Bool} (h : F47 a0 a1 = some r) (hK : K (.ret (.v (.bool r))) H) : Aa prog 47 [.v (.int .i64 a0), .sl 1 (a1.map fun x => [.v (str x)])] H K := by
 refine Ag (N := 83) func47 (by kernel_rfl) rfl (by kernel_rfl) (by kernel_rfl) fun cb hcb hw hbd hnb => ?_; clear hbd hnb; subst hcb; unfold F47 at h; refine wG ?_; refine Bg (fun tm' H' => H = H' ∧ tm' 0 = .v (.int .i64 a0) ∧ tm' 1 = .sl 1 (a1.map fun x => [.v (str x)]) ∧ I0 a0 a1 = some r) ?_ fun cb hc2 => ?_
 ·rintro tm2 H2 ⟨rfl, P6, ku, h⟩
  unfold I0 at h; refine A3 fun cb hc3 => ?_; refine wG ?_; obtain ⟨y5, hl5q, hk5⟩ := A4 h; refine AF (fun tm' H' => .inl () = y5 ∧ H = H') ?_ fun cb hc5 => ?_
  ·rintro tm5e H5e ⟨rfl, rfl⟩
   have h : Mv = some r := hk5; unfold Mv at h; simp -implicitDefEqProofs only [go_sem]; subst hc3; refine wG ?_; refine vO ?_; obtain rfl := sI h; refine sG ?_; exact Ap (.refl hw) hK
  refine Ah ?_; refine Az (fun (s : Int) tm' H' => H = H' ∧ tm' 0 = .v (.int .i64 a0) ∧ tm' 1 = .sl 1 (a1.map fun x => [.v (str x)]) ∧ tm' 5 = .v (.int .i64 s)) hl5q ?_ ?_
  ·exact smF (nd P6 ku)
  rintro I5 hI5 v6 x5 tm5 H5 ⟨rfl, D1, IX, KV⟩ h hret5
  replace h : H_ a0 a1 v6 = some x5 := h; unfold H_ at h; refine A3 fun cb hc8 => ?_; refine wF (nd IX KV) ?_; refine A8 h eA rfl ?_ ?_
  ·intro c10 h; refine vO ?_; subst hc8; refine A3 fun cb hc11 => ?_; refine Ah ?_; refine Bg (fun tm' H' => H = H' ∧ tm' 0 = .v (.int .i64 a0) ∧ tm' 1 = .sl 1 (a1.map fun x => [.v (str x)]) ∧ tm' 5 = .v (.int .i64 v6) ∧ Dv a0 a1 v6 = some x5) ?_ fun cb hc12 => ?_
   ·rintro tm12 H12 ⟨rfl, ED, eY, eZ, h⟩
    unfold Dv at h; refine wG ?_; obtain ⟨y14, hl14q, hk14⟩ := A4 h; refine AF (fun tm' H' => .inl () = y14 ∧ H = H' ∧ tm' 0 = .v (.int .i64 a0) ∧ tm' 1 = .sl 1 (a1.map fun x => [.v (str x)]) ∧ tm' 5 = .v (.int .i64 v6)) ?_ fun cb hc14 => ?_
    ·rintro tm14e H14e ⟨rfl, rfl, t0_14e, t1_14e, t5_14e⟩
     have h : J7 v6 = some x5 := hk14; unfold J7 at h; simp -implicitDefEqProofs only [go_sem]; subst hc11; refine vF t5_14e ?_; obtain rfl := sI h; refine Aj hI5 (IntKind.i64.wrap (v6 + 1)) ?_; exact smF (nd t0_14e t1_14e)
    refine Ah ?_; refine Az (fun (s : Int) tm' H' => H = H' ∧ tm' 0 = .v (.int .i64 a0) ∧ tm' 1 = .sl 1 (a1.map fun x => [.v (str x)]) ∧ tm' 5 = .v (.int .i64 v6) ∧ tm' 6 = .v (.int .i64 s)) hl14q ?_ ?_
    ·exact smF (nd ED (nd eY eZ))
    rintro I14 hI14 v15 x14 tm14 H14 ⟨rfl, IL, NQ, NR, PW⟩ h hret14
    replace h : Fw a0 a1 v6 v15 = some x14 := h; unfold Fw at h; refine A3 fun cb hc16 => ?_; obtain ⟨g18, h⟩ := Ad.1 h; refine wF (nd NQ (nd NR PW)) ?_; refine A8 h eA rfl ?_ ?_
    ·intro c19 h; simp (disch := omega) at c19; refine vO ?_; subst hc16; refine A3 fun cb hc20 => ?_; refine Ah ?_; obtain ⟨g22, h⟩ := gS h; refine wF (nd NQ (nd NR PW)) ?_; refine A3 fun cb hc23 => ?_; refine vG ?_; refine A6 h eA ?_ ?_
     ·intro c28 h; simp (disch := omega) at c28; refine sG ?_; refine A6 h eA ?_ ?_
      ·intro c27 h; simp (disch := omega) at c27; refine sG ?_; subst hc23; refine Ai eA rfl ?_; refine wG ?_; refine vO ?_; obtain rfl := sI h; obtain rfl := hret14 _ rfl; replace h : some (.inr (.inr false)) = some x5 := hk14; obtain rfl := sI h; obtain rfl := hret5 _ rfl; replace h : some false = some r := hk5; obtain rfl := sI h; refine sG ?_; exact Ap (.refl hw) hK
      intro c27 h; simp (disch := omega) at c27; refine sF IL ?_; subst hc23; refine A8 h eA rfl ?_ ?_
      ·intro c25 h; refine wG ?_; refine vO ?_; obtain rfl := sI h; obtain rfl := hret14 _ rfl; replace h : some (.inr (.inr false)) = some x5 := hk14; obtain rfl := sI h; obtain rfl := hret5 _ rfl; replace h : some false = some r := hk5; obtain rfl := sI h; refine sG ?_; exact Ap (.refl hw) hK
      intro c25 h; simp (disch := omega) at c25; refine vO ?_; subst hc20; refine vF PW ?_; obtain rfl := sI h; refine Aj hI14 (IntKind.i64.wrap (v15 + 1)) ?_; exact smF (nd IL (nd NQ NR))
     intro c28 h; simp (disch := omega) at c28; refine sG ?_; subst hc23; refine Al eA rfl ?_; refine vO ?_; subst hc20; refine vF PW ?_; obtain rfl := sI h; refine Aj hI14 (IntKind.i64.wrap (v15 + 1)) ?_; exact smF (nd IL (nd NQ NR))
    intro c19 h; simp (disch := omega) at c19; refine vO ?_; obtain rfl := sI h; have hy14 := hret14 _ rfl; refine hc14 _ _ ?_; refine .same ⟨hy14, rfl, ?_, ?_, ?_⟩ <;> (simp -implicitDefEqProofs (disch := omega) [go_sem, IL, NQ, NR] <;> omega)
   refine A3 fun cb hc29 => ?_; refine AB [] [0, 1, 2, 3, 4, 5, 6, 7, 8, 9, 10, 11, 12, 13, 14, 15, 16, 17, 18, 19, 20, 21, 22, 23, 24, 25, 26, 27, 28, 29] (by kernel_rfl) (by kernel_rfl) (fun _ _ _ _ h => h) ?_; obtain ⟨g30, h⟩ := Ad.1 h; refine sF (nd IX KV) ?_; refine A6 h eA ?_ ?_
   ·intro c38 h; simp (disch := omega) at c38; refine sG ?_; subst hc29; refine Ai eA rfl ?_; refine wG ?_; refine vO ?_; obtain rfl := sI h; obtain rfl := hret5 _ rfl; replace h : some false = some r := hk5; obtain rfl := sI h; refine sG ?_; exact Ap (.refl hw) hK
   intro c38 h; simp (disch := omega) at c38; refine sF (nd IX KV) ?_; refine A6 h eA ?_ ?_
   ·intro c37 h; simp (disch := omega) at c37; refine sG ?_; subst hc29; refine Ai eA rfl ?_; refine wG ?_; refine vO ?_; obtain rfl := sI h; obtain rfl := hret5 _ rfl; replace h : some false = some r := hk5; obtain rfl := sI h; refine sG ?_; exact Ap (.refl hw) hK
   intro c37 h; simp (disch := omega) at c37; refine sF KV ?_; refine A6 h rfl ?_ ?_
   ·intro c36 h; obtain ⟨g33, h⟩ := Ad.1 h; refine sF (nd IX KV) ?_; subst hc29; refine A8 h eA rfl ?_ ?_
    ·intro c34 h; simp (disch := omega) at c34; refine wG ?_; refine vO ?_; obtain rfl := sI h; obtain rfl := hret5 _ rfl; replace h : some false = some r := hk5; obtain rfl := sI h; refine sG ?_; exact Ap (.refl hw) hK
    intro c34 h; simp (disch := omega) at c34; refine vO ?_; refine hc12 _ _ ?_; refine .same ⟨rfl, ?_, ?_, ?_, h⟩ <;> (simp -implicitDefEqProofs (disch := omega) [go_sem, D1, IX, KV] <;> omega)
   intro c36 h; simp (disch := omega) at c36; refine sG ?_; subst hc29; refine Al eA rfl ?_; refine vO ?_; refine hc12 _ _ ?_; refine .same ⟨rfl, ?_, ?_, ?_, h⟩ <;> (simp -implicitDefEqProofs (disch := omega) [go_sem, D1, IX, KV] <;> omega)
  intro c10 h; simp (disch := omega) at c10; refine vO ?_; obtain rfl := sI h; have hy5 := hret5 _ rfl; refine hc5 _ _ ?_; refine .same ⟨hy5, rfl⟩
 refine A3 fun cb hc39 => ?_; refine vG ?_; obtain ⟨x40, hx40, h⟩ := A4 h; refine Z2 a0 hx40 ?_; refine sG ?_; refine A6 h rfl ?_ ?_
 ·intro c45 h; refine sG ?_; subst hc39; refine Ai eA rfl ?_; refine wG ?_; refine vO ?_; obtain rfl := sI h; refine sG ?_; exact Ap (.refl hw) hK
 intro c45 h; simp (disch := omega) at c45; refine sG ?_; refine A6 h rfl ?_ ?_
 ·intro c44 h; refine sG ?_; subst hc39; refine A8 h eA rfl ?_ ?_
  ·intro c42 h; refine wG ?_; refine vO ?_; obtain rfl := sI h; refine sG ?_; exact Ap (.refl hw) hK
  intro c42 h; simp (disch := omega) at c42; refine vO ?_; refine hc2 _ _ ?_; refine .same ⟨rfl, ?_, ?_, h⟩ <;> (simp -implicitDefEqProofs (disch := omega) [go_sem] <;> omega)
 intro c44 h; refine sG ?_; subst hc39; refine Al eA rfl ?_; refine vO ?_; refine hc2 _ _ ?_; refine .same ⟨rfl, ?_, ?_, h⟩ <;> (simp -implicitDefEqProofs (disch := omega) [go_sem] <;> omega)
noncomputable def Mw  : Option Bool :=
 some true
noncomputable def Ia (a0 : List (List (List UInt8))) (v6 : Int) : Option (Int ⊕ (Unit ⊕ Bool)) :=
 if v6 < 8 then (gd (0 ≤ v6 ∧ v6 < 8) ((F47 v6 (a0.getD v6.toNat [])).bind fun (x14 : Bool) => if ¬ (x14 = true) then (some (.inr (.inr false))) else (some (.inl (IntKind.i64.wrap (v6 + 1)))))) else (some (.inr (.inl ())))
noncomputable def F17 (a0 : List (List (List UInt8))) : Option Bool :=
 gd (a0.length = 8) ((AD (fun (s : Int) => Ia a0 s) 0).bind fun y => Sum.elim (fun (e : Unit) => Mw) (fun (q : Bool) => some q) y)
theorem Kl {H : A2} {K : Au → A2 → Prop} (a0 : List (List (List UInt8))) {r : Bool} (h : F17 a0 = some r) (hK : K (.ret (.v (.bool r))) H) : Aa prog 17 [.ag (a0.map fun x => .sl 1 (x.map fun x => [.v (str x)]))] H K := by
 refine Ag (N := 14) func17 (by kernel_rfl) rfl (by kernel_rfl) (by kernel_rfl) fun cb hcb hw hbd hnb => ?_; clear hbd hnb; subst hcb; unfold F17 at h; obtain ⟨g2, h⟩ := Ad.1 h; refine wG ?_; refine A3 fun cb hc3 => ?_; refine wG ?_; obtain ⟨y5, hl5q, hk5⟩ := A4 h; refine AF (fun tm' H' => .inl () = y5 ∧ Ext H H' ∧ H.next + 1 ≤ H'.next ∧ H'.obj H.next = some (.cells ((a0.map fun x => .sl 1 (x.map fun x => [.v (str x)]))))) ?_ fun cb hc5 => ?_
 ·rintro tm5e H5e ⟨rfl, he5e, hl5e, ob0_5e⟩
  have h : Mw = some r := hk5; unfold Mw at h; simp -implicitDefEqProofs only [go_sem]; subst hc3; refine wG ?_; refine vO ?_; obtain rfl := sI h; refine sG ?_; refine Ay (As he5e) rfl nbA hK
 refine Ah ?_; refine Az (fun (s : Int) tm' H' => Ext H H' ∧ H.next + 1 ≤ H'.next ∧ tm' 1 = .p H.next 0 ∧ tm' 3 = .v (.int .i64 s) ∧ H'.obj H.next = some (.cells ((a0.map fun x => .sl 1 (x.map fun x => [.v (str x)]))))) hl5q ?_ ?_
 ·refine .same ⟨by exact As (Ext.refl hw), by (simp -implicitDefEqProofs (disch := omega) [go_sem] <;> omega), ?_, ?_, ?_⟩ <;> (simp -implicitDefEqProofs (disch := omega) [go_sem] <;> omega)
 rintro I5 hI5 v6 x5 tm5 H5 ⟨he5, hl5, IX, EJ, NS⟩ h hret5
 replace h : Ia a0 v6 = some x5 := h; unfold Ia at h; refine A3 fun cb hc8 => ?_; refine wF EJ ?_; refine A8 h eA rfl ?_ ?_
 ·intro c10 h; refine vO ?_; subst hc8; refine A3 fun cb hc11 => ?_; refine Ah ?_; refine A3 fun cb hc12 => ?_; obtain ⟨g13, h⟩ := Ad.1 h; refine vF (nd IX (nd EJ (nd g2 NS))) ?_; obtain ⟨x14, hx14, h⟩ := A4 h; refine Aa.eqA eA (Z3 v6 (a0.getD v6.toNat []) hx14 ?_); refine sG ?_; subst hc12; refine A8 h eA rfl ?_ ?_
  ·intro c15 h; simp (disch := omega) at c15; refine wG ?_; refine vO ?_; obtain rfl := sI h; obtain rfl := hret5 _ rfl; replace h : some false = some r := hk5; obtain rfl := sI h; refine sG ?_; refine Ay (As he5) rfl nbA hK
  intro c15 h; simp (disch := omega) at c15; refine vO ?_; subst hc11; refine vF EJ ?_; obtain rfl := sI h; refine Aj hI5 (IntKind.i64.wrap (v6 + 1)) ?_; refine .same ⟨by exact As he5, by with_reducible assumption, ?_, ?_, ?_⟩ <;> first | with_reducible assumption | (simp -implicitDefEqProofs (disch := omega) [go_sem, IX] <;> omega)
 intro c10 h; simp (disch := omega) at c10; refine vO ?_; obtain rfl := sI h; have hy5 := hret5 _ rfl; refine hc5 _ _ ?_; refine .same ⟨hy5, by exact As he5, by with_reducible assumption, by with_reducible assumption⟩
noncomputable def Mx  : Option Int :=
 some (-1)
noncomputable def Km (a0 : List S39) (a1 : List UInt8) (v5 : Int) : Option (Int ⊕ (Unit ⊕ Int)) :=
 if v5 < (a0.length : Int) then (gd (0 ≤ v5 ∧ v5 < a0.length) (if ((a0.getD v5.toNat S39.zero).A9) = a1 then (some (.inr (.inr v5))) else (some (.inl (IntKind.i64.wrap (v5 + 1)))))) else (some (.inr (.inl ())))
noncomputable def F15 (a0 : List S39) (a1 : List UInt8) : Option Int :=
 (AD (fun (s : Int) => Km a0 a1 s) 0).bind fun y => Sum.elim (fun (e : Unit) => Mx) (fun (q : Int) => some q) y
theorem Z4 {H : A2} {K : Au → A2 → Prop} (a0 : List S39) (a1 : List UInt8) {r : Int} (h : F15 a0 a1 = some r) (hK : K (.ret (.v (.int .i64 r))) H) : Aa prog 15 [.sl 10 (a0.map fun x => .v (str x.A9) :: .v (str x.Ac) :: (x.A5.map fun x => .sl 1 (x.map fun x => [.v (str x)]))), .v (str a1)] H K := by
 refine Ag (N := 20) func15 (by kernel_rfl) rfl (by kernel_rfl) (by kernel_rfl) fun cb hcb hw hbd hnb => ?_; clear hbd hnb; subst hcb; unfold F15 at h; refine wG ?_; refine A3 fun cb hc2 => ?_; refine wG ?_; obtain ⟨y4, hl4q, hk4⟩ := A4 h; refine AF (fun tm' H' => .inl () = y4 ∧ H = H') ?_ fun cb hc4 => ?_
 ·rintro tm4e H4e ⟨rfl, rfl⟩
  have h : Mx = some r := hk4; unfold Mx at h; simp -implicitDefEqProofs only [go_sem]; subst hc2; refine wG ?_; refine vO ?_; obtain rfl := sI h; refine sG ?_; exact Ap (.refl hw) hK
 refine Ah ?_; refine Az (fun (s : Int) tm' H' => H = H' ∧ tm' 0 = .sl 10 (a0.map fun x => .v (str x.A9) :: .v (str x.Ac) :: (x.A5.map fun x => .sl 1 (x.map fun x => [.v (str x)]))) ∧ tm' 1 = .v (str a1) ∧ tm' 5 = .v (.int .i64 s)) hl4q ?_ ?_
 ·exact sm
 rintro I4 hI4 v5 x4 tm4 H4 ⟨rfl, B4, F2, El⟩ h hret4
 replace h : Km a0 a1 v5 = some x4 := h; unfold Km at h; refine A3 fun cb hc7 => ?_; refine wF (nd B4 El) ?_; refine A8 h eA rfl ?_ ?_
 ·intro c9 h; refine vO ?_; subst hc7; refine A3 fun cb hc10 => ?_; refine Ah ?_; obtain ⟨g12, h⟩ := Ad.1 h; refine wF (nd B4 (nd F2 El)) ?_; refine A8 h eA rfl ?_ ?_
  ·intro c13 h; simp (disch := omega) at c13; refine wF El ?_; refine vO ?_; obtain rfl := sI h; obtain rfl := hret4 _ rfl; replace h : some v5 = some r := hk4; obtain rfl := sI h; refine sG ?_; exact Ap (.refl hw) hK
  intro c13 h; simp (disch := omega) at c13; refine vO ?_; subst hc10; refine vF El ?_; obtain rfl := sI h; refine Aj hI4 (IntKind.i64.wrap (v5 + 1)) ?_; exact smF (nd B4 F2)
 intro c9 h; simp (disch := omega) at c9; refine vO ?_; obtain rfl := sI h; have hy4 := hret4 _ rfl; refine hc4 _ _ ?_; refine .same ⟨hy4, rfl⟩
end Go.Idl
namespace Go.Idl
set_option maxHeartbeats 8000000
set_option pp.deepTerms false
set_option maxRecDepth 60000
open Go Go.Proofs.Tryz
noncomputable def My  : Option Int :=
 some (-1)
noncomputable def Kn (a0 : List S39) (a1 : List UInt8) (v5 : Int) : Option (Int ⊕ (Unit ⊕ Int)) :=
 if v5 < (a0.length : Int) then (gd (0 ≤ v5 ∧ v5 < a0.length) (if ((a0.getD v5.toNat S39.zero).Ac) = a1 then (some (.inr (.inr v5))) else (some (.inl (IntKind.i64.wrap (v5 + 1)))))) else (some (.inr (.inl ())))
noncomputable def F16 (a0 : List S39) (a1 : List UInt8) : Option Int :=
 (AD (fun (s : Int) => Kn a0 a1 s) 0).bind fun y => Sum.elim (fun (e : Unit) => My) (fun (q : Int) => some q) y
theorem Z5 {H : A2} {K : Au → A2 → Prop} (a0 : List S39) (a1 : List UInt8) {r : Int} (h : F16 a0 a1 = some r) (hK : K (.ret (.v (.int .i64 r))) H) : Aa prog 16 [.sl 10 (a0.map fun x => .v (str x.A9) :: .v (str x.Ac) :: (x.A5.map fun x => .sl 1 (x.map fun x => [.v (str x)]))), .v (str a1)] H K := by
 refine Ag (N := 20) func16 (by kernel_rfl) rfl (by kernel_rfl) (by kernel_rfl) fun cb hcb hw hbd hnb => ?_; clear hbd hnb; subst hcb; unfold F16 at h; refine wG ?_; refine A3 fun cb hc2 => ?_; refine wG ?_; obtain ⟨y4, hl4q, hk4⟩ := A4 h; refine AF (fun tm' H' => .inl () = y4 ∧ H = H') ?_ fun cb hc4 => ?_
 ·rintro tm4e H4e ⟨rfl, rfl⟩
  have h : My = some r := hk4; unfold My at h; simp -implicitDefEqProofs only [go_sem]; subst hc2; refine wG ?_; refine vO ?_; obtain rfl := sI h; refine sG ?_; exact Ap (.refl hw) hK
 refine Ah ?_; refine Az (fun (s : Int) tm' H' => H = H' ∧ tm' 0 = .sl 10 (a0.map fun x => .v (str x.A9) :: .v (str x.Ac) :: (x.A5.map fun x => .sl 1 (x.map fun x => [.v (str x)]))) ∧ tm' 1 = .v (str a1) ∧ tm' 5 = .v (.int .i64 s)) hl4q ?_ ?_
 ·exact sm
 rintro I4 hI4 v5 x4 tm4 H4 ⟨rfl, B4, F2, El⟩ h hret4
 replace h : Kn a0 a1 v5 = some x4 := h; unfold Kn at h; refine A3 fun cb hc7 => ?_; refine wF (nd B4 El) ?_; refine A8 h eA rfl ?_ ?_
 ·intro c9 h; refine vO ?_; subst hc7; refine A3 fun cb hc10 => ?_; refine Ah ?_; obtain ⟨g12, h⟩ := Ad.1 h; refine wF (nd B4 (nd F2 El)) ?_; refine A8 h eA rfl ?_ ?_
  ·intro c13 h; simp (disch := omega) at c13; refine wF El ?_; refine vO ?_; obtain rfl := sI h; obtain rfl := hret4 _ rfl; replace h : some v5 = some r := hk4; obtain rfl := sI h; refine sG ?_; exact Ap (.refl hw) hK
  intro c13 h; simp (disch := omega) at c13; refine vO ?_; subst hc10; refine vF El ?_; obtain rfl := sI h; refine Aj hI4 (IntKind.i64.wrap (v5 + 1)) ?_; exact smF (nd B4 F2)
 intro c9 h; simp (disch := omega) at c9; refine vO ?_; obtain rfl := sI h; have hy4 := hret4 _ rfl; refine hc4 _ _ ?_; refine .same ⟨hy4, rfl⟩
noncomputable def J8 (a0 : List S39) (a1 : S39) (v26 : Int) : Option ((List S39) × Int) :=
 gd (0 ≤ v26) (gd (v26 ≤ a0.length) (gd ((a0.take v26.toNat).length * 224 ≤ 140737488355328) (gd (((a0.take v26.toNat).length + ([a1]).length) * 224 ≤ 140737488355328) (gd ((((a0.take v26.toNat) ++ ([a1])).length + (a0.drop v26.toNat).length) * 224 ≤ 140737488355328) (some ((((a0.take v26.toNat) ++ ([a1])) ++ (a0.drop v26.toNat), 0)))))))
noncomputable def Em (a0 : List S39) (a1 : S39) (v25 : Int) : Option (Int ⊕ Int) :=
 if v25 < (a0.length : Int) then (gd (0 ≤ v25 ∧ v25 < a0.length) (if Op.bytesLess ((a0.getD v25.toNat S39.zero).A9) a1.A9 = true then (some (.inl (IntKind.i64.wrap (v25 + 1)))) else (some (.inr v25)))) else (some (.inr v25))
noncomputable def F38 (a0 : List S39) (a1 : S39) : Option ((List S39) × Int) :=
 gd (a1.A5.length = 8) ((F71 a1.A9).bind fun (x5 : Bool) => if ¬ (x5 = true) then (some (a0, 2)) else ((F72 a1.Ac).bind fun (x7 : Bool) => if ¬ (x7 = true) then (some (a0, 2)) else ((F17 a1.A5).bind fun (x9 : Bool) => if ¬ (x9 = true) then (some (a0, 2)) else ((F15 a0 a1.A9).bind fun (x14 : Int) => if 0 ≤ x14 then (some (a0, 300)) else ((F16 a0 a1.Ac).bind fun (x16 : Int) => if 0 ≤ x16 then (some (a0, 300)) else (if 64 ≤ (a0.length : Int) then (some (a0, 3)) else ((AD (fun (s : Int) => Em a0 a1 s) 0).bind fun (e : Int) => J8 a0 a1 e)))))))
theorem Z6 {H : A2} {K : Au → A2 → Prop} (a0 : List S39) (a1 : S39) {r : (List S39) × Int} (h : F38 a0 a1 = some r) (hK : K (.ret (.tu [.sl 10 (r.1.map fun x => .v (str x.A9) :: .v (str x.Ac) :: (x.A5.map fun x => .sl 1 (x.map fun x => [.v (str x)]))), .v (.int .i64 r.2)])) H) : Aa prog 38 [.sl 10 (a0.map fun x => .v (str x.A9) :: .v (str x.Ac) :: (x.A5.map fun x => .sl 1 (x.map fun x => [.v (str x)]))), .ag (.v (str a1.A9) :: .v (str a1.Ac) :: (a1.A5.map fun x => .sl 1 (x.map fun x => [.v (str x)])))] H K := by
 refine Ag (N := 68) func38 (by kernel_rfl) rfl (by kernel_rfl) (by kernel_rfl) fun cb hcb hw hbd hnb => ?_; clear hbd hnb; subst hcb; unfold F38 at h; obtain ⟨g2, h⟩ := Ad.1 h; refine wG ?_; refine A3 fun cb hc3 => ?_; refine A3 fun cb hc4 => ?_; refine vF g2 ?_; obtain ⟨x5, hx5, h⟩ := A4 h; refine Mt a1.A9 hx5 ?_; refine sG ?_; refine A6 h eA ?_ ?_
 ·intro c40 h; simp (disch := omega) at c40; refine sG ?_; subst hc4; refine Ai eA rfl ?_; refine wG ?_; refine vO ?_; obtain rfl := sI h; refine sG ?_; exact Ap (.refl hw) hK
 intro c40 h; simp (disch := omega) at c40; refine sF g2 ?_; obtain ⟨x7, hx7, h⟩ := A4 h; refine Tx a1.Ac hx7 ?_; refine sG ?_; refine A6 h eA ?_ ?_
 ·intro c39 h; simp (disch := omega) at c39; refine sG ?_; subst hc4; refine Ai eA rfl ?_; refine wG ?_; refine vO ?_; obtain rfl := sI h; refine sG ?_; exact Ap (.refl hw) hK
 intro c39 h; simp (disch := omega) at c39; refine sF g2 ?_; obtain ⟨x9, hx9, h⟩ := A4 h; refine Kl a1.A5 hx9 ?_; refine sG ?_; subst hc4; refine A8 h eA rfl ?_ ?_
 ·intro c10 h; simp (disch := omega) at c10; refine wG ?_; refine vO ?_; obtain rfl := sI h; refine sG ?_; exact Ap (.refl hw) hK
 intro c10 h; simp (disch := omega) at c10; refine vO ?_; subst hc3; refine A3 fun cb hc12 => ?_; refine A3 fun cb hc13 => ?_; refine vF g2 ?_; obtain ⟨x14, hx14, h⟩ := A4 h; refine Z4 a0 a1.A9 hx14 ?_; refine sG ?_; refine A6 h rfl ?_ ?_
 ·intro c38 h; refine sG ?_; subst hc13; refine Ai eA rfl ?_; refine wG ?_; refine vO ?_; obtain rfl := sI h; refine sG ?_; exact Ap (.refl hw) hK
 intro c38 h; simp (disch := omega) at c38; refine sF g2 ?_; obtain ⟨x16, hx16, h⟩ := A4 h; refine Z5 a0 a1.Ac hx16 ?_; refine sG ?_; subst hc13; refine A8 h eA rfl ?_ ?_
 ·intro c17 h; refine wG ?_; refine vO ?_; obtain rfl := sI h; refine sG ?_; exact Ap (.refl hw) hK
 intro c17 h; simp (disch := omega) at c17; refine vO ?_; subst hc12; refine A3 fun cb hc19 => ?_; refine wG ?_; refine A8 h eA rfl ?_ ?_
 ·intro c21 h; refine wG ?_; refine vO ?_; obtain rfl := sI h; refine sG ?_; exact Ap (.refl hw) hK
 intro c21 h; simp (disch := omega) at c21; refine vO ?_; subst hc19; refine wG ?_; obtain ⟨y24, hl24q, hk24⟩ := A4 h; refine Bg (fun tm' H' => ∃ v26 : Int, v26 = y24 ∧ Ext H H' ∧ H.next + 1 ≤ H'.next ∧ tm' 0 = .sl 10 (a0.map fun x => .v (str x.A9) :: .v (str x.Ac) :: (x.A5.map fun x => .sl 1 (x.map fun x => [.v (str x)]))) ∧ tm' 3 = .p H.next 0 ∧ tm' 6 = .v (.int .i64 v26) ∧ H'.obj H.next = some (.cells (.v (str a1.A9) :: .v (str a1.Ac) :: (a1.A5.map fun x => .sl 1 (x.map fun x => [.v (str x)]))))) ?_ fun cb hc24 => ?_
 ·rintro tm24e H24e ⟨v26, rfl, he24e, hl24e, t0_24e, t3_24e, t6_24e, ob0_24e⟩
  have h : J8 a0 a1 v26 = some r := hk24; unfold J8 at h; refine A3 fun cb hc27 => ?_; refine AB [] [0, 1, 2, 4, 5, 7, 8, 9, 3, 6, 10, 11, 12] (by kernel_rfl) (by kernel_rfl) (fun _ _ _ _ h => h) ?_; obtain ⟨g28, h⟩ := Ad.1 h; obtain ⟨g29, h⟩ := Ad.1 h; obtain ⟨g30, h⟩ := gS h; obtain ⟨g31, h⟩ := gS h; obtain ⟨g32, h⟩ := gS h; refine sF (nd t0_24e (nd t3_24e (nd t6_24e (nd g2 ob0_24e)))) ?_; subst hc27; refine IWp.gh (Gh.freeze (d := 4) (k := H24e.next) (sz := 10) (es := (((a0.take v26.toNat) ++ ([a1])) ++ (a0.drop v26.toNat)).map fun x => .v (str x.A9) :: .v (str x.Ac) :: (x.A5.map fun x => .sl 1 (x.map fun x => [.v (str x)]))) eA eA) ?_; refine vO ?_; obtain rfl := sI h; refine sG ?_; refine Ay (As he24e) eA nbA hK
 refine Ah ?_; refine Az (fun (s : Int) tm' H' => Ext H H' ∧ H.next + 1 ≤ H'.next ∧ tm' 0 = .sl 10 (a0.map fun x => .v (str x.A9) :: .v (str x.Ac) :: (x.A5.map fun x => .sl 1 (x.map fun x => [.v (str x)]))) ∧ tm' 3 = .p H.next 0 ∧ tm' 6 = .v (.int .i64 s) ∧ H'.obj H.next = some (.cells (.v (str a1.A9) :: .v (str a1.Ac) :: (a1.A5.map fun x => .sl 1 (x.map fun x => [.v (str x)]))))) hl24q ?_ ?_
 ·refine .same ⟨by exact As (Ext.refl hw), by (simp -implicitDefEqProofs (disch := omega) [go_sem] <;> omega), ?_, ?_, ?_, ?_⟩ <;> (simp -implicitDefEqProofs (disch := omega) [go_sem] <;> omega)
 rintro I24 hI24 v25 x24 tm24 H24 ⟨he24, hl24, NT, PX, NU, Z7⟩ h hret24
 replace h : Em a0 a1 v25 = some x24 := h; unfold Em at h; refine A3 fun cb hc33 => ?_; refine A3 fun cb hc34 => ?_; refine AB [] [0, 1, 2, 3, 4, 5, 6, 7, 8, 9, 10, 11, 12, 13] (by kernel_rfl) (by kernel_rfl) (fun _ _ _ _ h => h) ?_; refine sF (nd NT NU) ?_; refine A6 h rfl ?_ ?_
 ·intro c37 h; obtain ⟨g35, h⟩ := Ad.1 h; refine sF (nd NT (nd PX (nd NU (nd g2 Z7)))) ?_; subst hc34; refine A8 h eA rfl ?_ ?_
  ·intro c36 h; simp (disch := omega) at c36; refine vO ?_; subst hc33; refine Ah ?_; refine vF NU ?_; obtain rfl := sI h; refine Aj hI24 (IntKind.i64.wrap (v25 + 1)) ?_; refine .same ⟨by exact As he24, by with_reducible assumption, ?_, ?_, ?_, ?_⟩ <;> first | with_reducible assumption | (simp -implicitDefEqProofs (disch := omega) [go_sem, NT, PX] <;> omega)
  intro c36 h; simp (disch := omega) at c36; refine vO ?_; obtain rfl := sI h; have hy24 := hret24 _ rfl; refine hc24 _ _ ?_; refine .same ⟨v25, hy24, by exact As he24, by with_reducible assumption, ?_, ?_, ?_, ?_⟩ <;> first | with_reducible assumption | (simp -implicitDefEqProofs (disch := omega) [go_sem, NT, PX, NU] <;> omega)
 intro c37 h; simp (disch := omega) at c37; refine sG ?_; subst hc34; refine Al eA rfl ?_; refine vO ?_; obtain rfl := sI h; have hy24 := hret24 _ rfl; refine hc24 _ _ ?_; refine .same ⟨v25, hy24, by exact As he24, by with_reducible assumption, ?_, ?_, ?_, ?_⟩ <;> first | with_reducible assumption | (simp -implicitDefEqProofs (disch := omega) [go_sem, NT, PX, NU] <;> omega)
noncomputable def R9 (a0 : Int) : Option Bool :=
 if 65 ≤ a0 then (if a0 ≤ 90 then (some true) else (if 97 ≤ a0 then (some (decide (a0 ≤ 122))) else (some false))) else (if 97 ≤ a0 then (some (decide (a0 ≤ 122))) else (some false))
theorem PY {H : A2} {K : Au → A2 → Prop} (a0 : Int) {r : Bool} (h : R9 a0 = some r) (hK : K (.ret (.v (.bool r))) H) : Aa prog 145 [.v (.int .u8 a0)] H K := by
 refine Ag (N := 17) func145 (by kernel_rfl) rfl (by kernel_rfl) (by kernel_rfl) fun cb hcb hw hbd hnb => ?_; clear hbd hnb; subst hcb; unfold R9 at h; refine wG ?_; refine A3 fun cb hc2 => ?_; refine vG ?_; refine A6 h rfl ?_ ?_
 ·intro c6 h; refine sG ?_; refine A6 h rfl ?_ ?_
  ·intro c4 h; refine sG ?_; subst hc2; refine vO ?_; obtain rfl := sI h; refine sG ?_; exact Ap (.refl hw) hK
  intro c4 h; simp (disch := omega) at c4; refine sG ?_; refine A6 h rfl ?_ ?_
  ·intro c3 h; refine sG ?_; subst hc2; refine vO ?_; obtain rfl := sI h; refine sG ?_; exact Ap (.refl hw) hK
  intro c3 h; simp (disch := omega) at c3; refine sG ?_; subst hc2; refine vO ?_; obtain rfl := sI h; refine sG ?_; exact Ap (.refl hw) hK
 intro c6 h; simp (disch := omega) at c6; refine sG ?_; refine A6 h rfl ?_ ?_
 ·intro c5 h; refine sG ?_; subst hc2; refine vO ?_; obtain rfl := sI h; refine sG ?_; exact Ap (.refl hw) hK
 intro c5 h; simp (disch := omega) at c5; refine sG ?_; subst hc2; refine vO ?_; obtain rfl := sI h; refine sG ?_; exact Ap (.refl hw) hK
noncomputable def G_  : Option Bool :=
 some true
noncomputable def Fa (a0 : List UInt8) (v13 : Int) : Option (Int ⊕ (Unit ⊕ Bool)) :=
 if v13 < (a0.length : Int) then (gd (0 ≤ v13 ∧ v13 < a0.length) ((R9 (((a0.getD v13.toNat 0).toNat : Int))).bind fun (x21 : Bool) => if ¬ (x21 = true) then (if (((a0.getD v13.toNat 0).toNat : Int)) < 48 then (if ¬ (((a0.getD v13.toNat 0).toNat : Int)) = 45 then (some (.inr (.inr false))) else (some (.inl (IntKind.i64.wrap (v13 + 1))))) else (if 57 < (((a0.getD v13.toNat 0).toNat : Int)) then (if ¬ (((a0.getD v13.toNat 0).toNat : Int)) = 45 then (some (.inr (.inr false))) else (some (.inl (IntKind.i64.wrap (v13 + 1))))) else (some (.inl (IntKind.i64.wrap (v13 + 1)))))) else (some (.inl (IntKind.i64.wrap (v13 + 1)))))) else (some (.inr (.inl ())))
noncomputable def Ra (a0 : List UInt8) : Option Bool :=
 if (a0.length : Int) < 1 then (some false) else (if 64 < (a0.length : Int) then (some false) else (gd (0 < a0.length) ((R9 (((a0.getD 0 0).toNat : Int))).bind fun (x7 : Bool) => if ¬ (x7 = true) then (some false) else ((AD (fun (s : Int) => Fa a0 s) 0).bind fun y => Sum.elim (fun (e : Unit) => G_) (fun (q : Bool) => some q) y))))
theorem PZ {H : A2} {K : Au → A2 → Prop} (a0 : List UInt8) {r : Bool} (h : Ra a0 = some r) (hK : K (.ret (.v (.bool r))) H) : Aa prog 114 [.v (str a0)] H K := by
 refine Ag (N := 47) func114 (by kernel_rfl) rfl (by kernel_rfl) (by kernel_rfl) fun cb hcb hw hbd hnb => ?_; clear hbd hnb; subst hcb; unfold Ra at h; refine wG ?_; refine A3 fun cb hc2 => ?_; refine A3 fun cb hc3 => ?_; refine vG ?_; refine A6 h rfl ?_ ?_
 ·intro c30 h; refine sG ?_; subst hc3; refine Ai eA rfl ?_; refine wG ?_; refine vO ?_; obtain rfl := sI h; refine sG ?_; exact Ap (.refl hw) hK
 intro c30 h; simp (disch := omega) at c30; refine sG ?_; refine A6 h rfl ?_ ?_
 ·intro c29 h; refine sG ?_; subst hc3; refine Ai eA rfl ?_; refine wG ?_; refine vO ?_; obtain rfl := sI h; refine sG ?_; exact Ap (.refl hw) hK
 intro c29 h; simp (disch := omega) at c29; obtain ⟨g6, h⟩ := Ad.1 h; refine sG ?_; obtain ⟨x7, hx7, h⟩ := A4 h; refine Aa.eqA eA (PY (((a0.getD 0 0).toNat : Int)) hx7 ?_); refine sG ?_; subst hc3; refine A8 h eA rfl ?_ ?_
 ·intro c8 h; simp (disch := omega) at c8; refine wG ?_; refine vO ?_; obtain rfl := sI h; refine sG ?_; exact Ap (.refl hw) hK
 intro c8 h; simp (disch := omega) at c8; refine vO ?_; subst hc2; refine A3 fun cb hc10 => ?_; refine wG ?_; obtain ⟨y12, hl12q, hk12⟩ := A4 h; refine AF (fun tm' H' => .inl () = y12 ∧ H = H') ?_ fun cb hc12 => ?_
 ·rintro tm12e H12e ⟨rfl, rfl⟩
  have h : G_ = some r := hk12; unfold G_ at h; simp -implicitDefEqProofs only [go_sem]; subst hc10; refine wG ?_; refine vO ?_; obtain rfl := sI h; refine sG ?_; exact Ap (.refl hw) hK
 refine Ah ?_; refine Az (fun (s : Int) tm' H' => H = H' ∧ tm' 0 = .v (str a0) ∧ tm' 3 = .v (.int .i64 s)) hl12q ?_ ?_
 ·exact sm
 rintro I12 hI12 v13 x12 tm12 H12 ⟨rfl, ED, G0⟩ h hret12
 replace h : Fa a0 v13 = some x12 := h; unfold Fa at h; refine A3 fun cb hc15 => ?_; refine wF (nd ED G0) ?_; refine A8 h eA rfl ?_ ?_
 ·intro c17 h; refine vO ?_; subst hc15; refine A3 fun cb hc18 => ?_; refine Ah ?_; refine A3 fun cb hc19 => ?_; obtain ⟨g20, h⟩ := Ad.1 h; refine vF (nd ED G0) ?_; obtain ⟨x21, hx21, h⟩ := A4 h; refine Aa.eqA eA (PY (((a0.getD v13.toNat 0).toNat : Int)) hx21 ?_); refine sG ?_; refine A6 h eA ?_ ?_
  ·intro c28 h; simp (disch := omega) at c28; refine sF (nd ED G0) ?_; refine A6 h eA ?_ ?_
   ·intro c27 h; simp (disch := omega) at c27; refine sF (nd ED G0) ?_; subst hc19; refine A8 h eA rfl ?_ ?_
    ·intro c22 h; simp (disch := omega) at c22; refine wG ?_; refine vO ?_; obtain rfl := sI h; obtain rfl := hret12 _ rfl; replace h : some false = some r := hk12; obtain rfl := sI h; refine sG ?_; exact Ap (.refl hw) hK
    intro c22 h; simp (disch := omega) at c22; refine vO ?_; subst hc18; refine vF G0 ?_; obtain rfl := sI h; refine Aj hI12 (IntKind.i64.wrap (v13 + 1)) ?_; exact smF ED
   intro c27 h; simp (disch := omega) at c27; refine sF (nd ED G0) ?_; refine A6 h eA ?_ ?_
   ·intro c26 h; simp (disch := omega) at c26; refine sF (nd ED G0) ?_; subst hc19; refine A8 h eA rfl ?_ ?_
    ·intro c24 h; simp (disch := omega) at c24; refine wG ?_; refine vO ?_; obtain rfl := sI h; obtain rfl := hret12 _ rfl; replace h : some false = some r := hk12; obtain rfl := sI h; refine sG ?_; exact Ap (.refl hw) hK
    intro c24 h; simp (disch := omega) at c24; refine vO ?_; subst hc18; refine vF G0 ?_; obtain rfl := sI h; refine Aj hI12 (IntKind.i64.wrap (v13 + 1)) ?_; exact smF ED
   intro c26 h; simp (disch := omega) at c26; refine sG ?_; subst hc19; refine Al eA rfl ?_; refine vO ?_; subst hc18; refine vF G0 ?_; obtain rfl := sI h; refine Aj hI12 (IntKind.i64.wrap (v13 + 1)) ?_; exact smF ED
  intro c28 h; simp (disch := omega) at c28; refine sG ?_; subst hc19; refine Al eA rfl ?_; refine vO ?_; subst hc18; refine vF G0 ?_; obtain rfl := sI h; refine Aj hI12 (IntKind.i64.wrap (v13 + 1)) ?_; exact smF ED
 intro c17 h; simp (disch := omega) at c17; refine vO ?_; obtain rfl := sI h; have hy12 := hret12 _ rfl; refine hc12 _ _ ?_; refine .same ⟨hy12, rfl⟩
noncomputable def J9 (v8 : List UInt8) : Option (List UInt8) :=
 some v8
noncomputable def Fx (a0 : List UInt8) (v6 : List UInt8) (v7 : Int) : Option (((List UInt8) × Int) ⊕ (List UInt8)) :=
 if v7 < (a0.length : Int) then (gd (0 ≤ v7 ∧ v7 < a0.length) (if 65 ≤ (((a0.getD v7.toNat 0).toNat : Int)) then (if (((a0.getD v7.toNat 0).toNat : Int)) ≤ 90 then (gd (0 ≤ (IntKind.u8.wrap ((((a0.getD v7.toNat 0).toNat : Int)) + 32)) ∧ (IntKind.u8.wrap ((((a0.getD v7.toNat 0).toNat : Int)) + 32)) ≤ 255) (gd ((v6.length : Int) + ([UInt8.ofNat (IntKind.u8.wrap ((((a0.getD v7.toNat 0).toNat : Int)) + 32)).toNat]).length ≤ 9223372036854775807) (some (.inl ((v6 ++ ([UInt8.ofNat (IntKind.u8.wrap ((((a0.getD v7.toNat 0).toNat : Int)) + 32)).toNat]), IntKind.i64.wrap (v7 + 1))))))) else (gd (0 ≤ (((a0.getD v7.toNat 0).toNat : Int)) ∧ (((a0.getD v7.toNat 0).toNat : Int)) ≤ 255) (gd ((v6.length : Int) + ([UInt8.ofNat (((a0.getD v7.toNat 0).toNat : Int)).toNat]).length ≤ 9223372036854775807) (some (.inl ((v6 ++ ([UInt8.ofNat (((a0.getD v7.toNat 0).toNat : Int)).toNat]), IntKind.i64.wrap (v7 + 1)))))))) else (gd (0 ≤ (((a0.getD v7.toNat 0).toNat : Int)) ∧ (((a0.getD v7.toNat 0).toNat : Int)) ≤ 255) (gd ((v6.length : Int) + ([UInt8.ofNat (((a0.getD v7.toNat 0).toNat : Int)).toNat]).length ≤ 9223372036854775807) (some (.inl ((v6 ++ ([UInt8.ofNat (((a0.getD v7.toNat 0).toNat : Int)).toNat]), IntKind.i64.wrap (v7 + 1))))))))) else (some (.inr v6))
noncomputable def Rb (a0 : List UInt8) : Option (List UInt8) :=
 (AD (fun (s : (List UInt8) × Int) => Fx a0 s.1 s.2) ([], 0)).bind fun (e : (List UInt8)) => J9 e
theorem P_ {H : A2} {K : Au → A2 → Prop} (a0 : List UInt8) {r : (List UInt8)} (h : Rb a0 = some r) (hK : K (.ret (.v (str r))) H) : Aa prog 115 [.v (str a0)] H K := by
 refine Ag (N := 29) func115 (by kernel_rfl) rfl (by kernel_rfl) (by kernel_rfl) fun cb hcb hw hbd hnb => ?_; clear hbd hnb; subst hcb; unfold Rb at h; refine wG ?_; refine wG ?_; refine A3 fun cb hc3 => ?_; refine wG ?_; obtain ⟨y5, hl5q, hk5⟩ := A4 h; refine AF (fun tm' H' => ∃ v8 : List UInt8, v8 = y5 ∧ H = H' ∧ tm' 3 = .v (str v8)) ?_ fun cb hc5 => ?_
 ·rintro tm5e H5e ⟨v8, rfl, rfl, t3_5e⟩
  have h : J9 v8 = some r := hk5; unfold J9 at h; simp -implicitDefEqProofs only [go_sem]; subst hc3; refine wF t3_5e ?_; refine vO ?_; obtain rfl := sI h; refine sG ?_; exact Ap (.refl hw) hK
 refine Ah ?_; refine Az (fun (s : (List UInt8) × Int) tm' H' => H = H' ∧ tm' 0 = .v (str a0) ∧ tm' 3 = .v (str s.1) ∧ tm' 4 = .v (.int .i64 s.2)) hl5q ?_ ?_
 ·exact sm
 rintro I5 hI5 ⟨v6, v7⟩ x5 tm5 H5 ⟨rfl, D1, EJ, He⟩ h hret5
 replace h : Fx a0 v6 v7 = some x5 := h; unfold Fx at h; refine A3 fun cb hc10 => ?_; refine wF (nd D1 He) ?_; refine A8 h eA rfl ?_ ?_
 ·intro c12 h; refine vO ?_; subst hc10; refine A3 fun cb hc13 => ?_; refine Ah ?_; obtain ⟨g15, h⟩ := Ad.1 h; refine wF (nd D1 He) ?_; refine A3 fun cb hc16 => ?_; refine A3 fun cb hc17 => ?_; refine vG ?_; refine A6 h eA ?_ ?_
  ·intro c25 h; simp (disch := omega) at c25; refine sG ?_; subst hc17; refine A8 h eA rfl ?_ ?_
   ·intro c18 h; simp (disch := omega) at c18; refine vG ?_; subst hc16; obtain ⟨g19, h⟩ := gS h; obtain ⟨g20, h⟩ := gS h; refine v0 ?_; simp -implicitDefEqProofs (disch := omega) [go_sem] at g19; refine sF EJ ?_; subst hc13; refine vF He ?_; obtain rfl := sI h; refine Aj hI5 ((v6 ++ ([UInt8.ofNat (IntKind.u8.wrap ((((a0.getD v7.toNat 0).toNat : Int)) + 32)).toNat]), IntKind.i64.wrap (v7 + 1))) ?_; exact smF D1
   intro c18 h; simp (disch := omega) at c18; refine vO ?_; subst hc16; obtain ⟨g21, h⟩ := gS h; obtain ⟨g22, h⟩ := gS h; refine vF EJ ?_; subst hc13; refine vF He ?_; obtain rfl := sI h; refine Aj hI5 ((v6 ++ ([UInt8.ofNat (((a0.getD v7.toNat 0).toNat : Int)).toNat]), IntKind.i64.wrap (v7 + 1))) ?_; exact smF D1
  intro c25 h; simp (disch := omega) at c25; refine sG ?_; subst hc17; refine Al eA rfl ?_; refine vO ?_; subst hc16; obtain ⟨g23, h⟩ := gS h; obtain ⟨g24, h⟩ := gS h; refine vF EJ ?_; subst hc13; refine vF He ?_; obtain rfl := sI h; refine Aj hI5 ((v6 ++ ([UInt8.ofNat (((a0.getD v7.toNat 0).toNat : Int)).toNat]), IntKind.i64.wrap (v7 + 1))) ?_; exact smF D1
 intro c12 h; simp (disch := omega) at c12; refine vO ?_; obtain rfl := sI h; have hy5 := hret5 _ rfl; refine hc5 _ _ ?_; refine .same ⟨v6, hy5, rfl, by (simp -implicitDefEqProofs (disch := omega) [go_sem, EJ] <;> omega)⟩
noncomputable def Mz  : Option Bool :=
 some true
noncomputable def Ko (a0 : List S89) (v9 : Int) : Option (Int ⊕ (Unit ⊕ Bool)) :=
 if v9 < (a0.length : Int) then (gd (0 ≤ v9 ∧ v9 < a0.length) ((Ra ((a0.getD v9.toNat S89.zero).fType)).bind fun (x17 : Bool) => if ¬ (x17 = true) then (some (.inr (.inr false))) else (if ((((a0.getD v9.toNat S89.zero).A7).length : Int)) < 1 then (some (.inr (.inr false))) else (if 200 < ((((a0.getD v9.toNat S89.zero).A7).length : Int)) then (some (.inr (.inr false))) else ((Rb ((a0.getD v9.toNat S89.zero).fType)).bind fun (x21 : (List UInt8)) => if ¬ x21 = ((a0.getD v9.toNat S89.zero).fType) then (some (.inr (.inr false))) else (some (.inl (IntKind.i64.wrap (v9 + 1))))))))) else (some (.inr (.inl ())))
noncomputable def F73 (a0 : List S89) : Option Bool :=
 if 16 < (a0.length : Int) then (some false) else ((AD (fun (s : Int) => Ko a0 s) 0).bind fun y => Sum.elim (fun (e : Unit) => Mz) (fun (q : Bool) => some q) y)
theorem Ty {H : A2} {K : Au → A2 → Prop} (a0 : List S89) {r : Bool} (h : F73 a0 = some r) (hK : K (.ret (.v (.bool r))) H) : Aa prog 73 [.sl 2 (a0.map fun x => [.v (str x.fType), .v (str x.A7)])] H K := by
 refine Ag (N := 52) func73 (by kernel_rfl) rfl (by kernel_rfl) (by kernel_rfl) fun cb hcb hw hbd hnb => ?_; clear hbd hnb; subst hcb; unfold F73 at h; refine wG ?_; refine A3 fun cb hc2 => ?_; refine wG ?_; refine A8 h eA rfl ?_ ?_
 ·intro c4 h; refine wG ?_; refine vO ?_; obtain rfl := sI h; refine sG ?_; exact Ap (.refl hw) hK
 intro c4 h; simp (disch := omega) at c4; refine vO ?_; subst hc2; refine A3 fun cb hc6 => ?_; refine wG ?_; obtain ⟨y8, hl8q, hk8⟩ := A4 h; refine AF (fun tm' H' => .inl () = y8 ∧ H = H') ?_ fun cb hc8 => ?_
 ·rintro tm8e H8e ⟨rfl, rfl⟩
  have h : Mz = some r := hk8; unfold Mz at h; simp -implicitDefEqProofs only [go_sem]; subst hc6; refine wG ?_; refine vO ?_; obtain rfl := sI h; refine sG ?_; exact Ap (.refl hw) hK
 refine Ah ?_; refine Az (fun (s : Int) tm' H' => H = H' ∧ tm' 0 = .sl 2 (a0.map fun x => [.v (str x.fType), .v (str x.A7)]) ∧ tm' 3 = .v (.int .i64 s)) hl8q ?_ ?_
 ·exact sm
 rintro I8 hI8 v9 x8 tm8 H8 ⟨rfl, CO, F8⟩ h hret8
 replace h : Ko a0 v9 = some x8 := h; unfold Ko at h; refine A3 fun cb hc11 => ?_; refine wF (nd CO F8) ?_; refine A8 h eA rfl ?_ ?_
 ·intro c13 h; refine vO ?_; subst hc11; refine A3 fun cb hc14 => ?_; refine Ah ?_; refine A3 fun cb hc15 => ?_; refine AB [5, 31] [0, 1, 2, 3, 4, 5, 6, 7, 8, 9, 10, 11, 12, 13, 14, 15, 16, 17, 18, 19, 20, 21, 22, 23, 24, 25, 26, 27, 28, 29, 30, 31, 32, 33, 34, 35, 36, 37, 38] (by kernel_rfl) (by kernel_rfl) (fun _ _ _ _ h => h) ?_; obtain ⟨g16, h⟩ := Ad.1 h; refine sF (nd CO F8) ?_; obtain ⟨x17, hx17, h⟩ := A4 h; refine BS.mk _ (fun _ _ hK => Aa.eqA eA (PZ ((a0.getD v9.toNat S89.zero).fType) hx17 hK)) ?_; refine sG ?_; refine A6 h eA ?_ ?_
  ·intro c26 h; simp (disch := omega) at c26; refine sG ?_; subst hc15; refine Ai eA rfl ?_; refine wG ?_; refine vO ?_; obtain rfl := sI h; obtain rfl := hret8 _ rfl; replace h : some false = some r := hk8; obtain rfl := sI h; refine sG ?_; exact Ap (.refl hw) hK
  intro c26 h; simp (disch := omega) at c26; refine sF (nd CO F8) ?_; refine A6 h eA ?_ ?_
  ·intro c25 h; simp (disch := omega) at c25; refine sG ?_; subst hc15; refine Ai eA rfl ?_; refine wG ?_; refine vO ?_; obtain rfl := sI h; obtain rfl := hret8 _ rfl; replace h : some false = some r := hk8; obtain rfl := sI h; refine sG ?_; exact Ap (.refl hw) hK
  intro c25 h; simp (disch := omega) at c25; refine sF (nd CO F8) ?_; refine A6 h eA ?_ ?_
  ·intro c24 h; simp (disch := omega) at c24; refine sG ?_; subst hc15; refine Ai eA rfl ?_; refine wG ?_; refine vO ?_; obtain rfl := sI h; obtain rfl := hret8 _ rfl; replace h : some false = some r := hk8; obtain rfl := sI h; refine sG ?_; exact Ap (.refl hw) hK
  intro c24 h; simp (disch := omega) at c24; refine sF (nd CO F8) ?_; obtain ⟨x21, hx21, h⟩ := A4 h; refine BS.mk _ (fun _ _ hK => Aa.eqA eA (P_ ((a0.getD v9.toNat S89.zero).fType) hx21 hK)) ?_; refine sG ?_; subst hc15; refine A8 h eA rfl ?_ ?_
  ·intro c22 h; simp (disch := omega) at c22; refine wG ?_; refine vO ?_; obtain rfl := sI h; obtain rfl := hret8 _ rfl; replace h : some false = some r := hk8; obtain rfl := sI h; refine sG ?_; exact Ap (.refl hw) hK
  intro c22 h; simp (disch := omega) at c22; refine vO ?_; subst hc14; refine vF F8 ?_; obtain rfl := sI h; refine Aj hI8 (IntKind.i64.wrap (v9 + 1)) ?_; exact smF CO
 intro c13 h; simp (disch := omega) at c13; refine vO ?_; obtain rfl := sI h; have hy8 := hret8 _ rfl; refine hc8 _ _ ?_; refine .same ⟨hy8, rfl⟩
noncomputable def F41 (a0 : S33) : Option Bool :=
 gd (a0.A5.length = 8) ((F72 a0.Ac).bind fun (x4 : Bool) => if x4 = true then (if (a0.fDn.length : Int) = 0 then ((F71 a0.A9).bind fun (x6 : Bool) => if x6 = true then ((F17 a0.A5).bind fun (x7 : Bool) => some x7) else (some false)) else (if a0.Ac = [] then (if 0 < (a0.fDn.length : Int) then ((F73 a0.fDn).bind fun (x9 : Bool) => if x9 = true then ((F71 a0.A9).bind fun (x11 : Bool) => if x11 = true then ((F17 a0.A5).bind fun (x12 : Bool) => some x12) else (some false)) else (some false)) else (some false)) else (some false))) else (if a0.Ac = [] then (if 0 < (a0.fDn.length : Int) then ((F73 a0.fDn).bind fun (x20 : Bool) => if x20 = true then ((F71 a0.A9).bind fun (x22 : Bool) => if x22 = true then ((F17 a0.A5).bind fun (x23 : Bool) => some x23) else (some false)) else (some false)) else (some false)) else (some false)))
theorem Z8 {H : A2} {K : Au → A2 → Prop} (a0 : S33) {r : Bool} (h : F41 a0 = some r) (hK : K (.ret (.v (.bool r))) H) : Aa prog 41 [.ag (.v (str a0.A9) :: .v (str a0.Ac) :: .sl 2 (a0.fDn.map fun x => [.v (str x.fType), .v (str x.A7)]) :: (a0.A5.map fun x => .sl 1 (x.map fun x => [.v (str x)])))] H K := by
 refine Ag (N := 40) func41 (by kernel_rfl) rfl (by kernel_rfl) (by kernel_rfl) fun cb hcb hw hbd hnb => ?_; clear hbd hnb; subst hcb; unfold F41 at h; obtain ⟨g2, h⟩ := Ad.1 h; refine wG ?_; refine A3 fun cb hc3 => ?_; refine vF g2 ?_; obtain ⟨x4, hx4, h⟩ := A4 h; refine Tx a0.Ac hx4 ?_; refine sG ?_; refine A6 h eA ?_ ?_
 ·intro c30 h; refine sF g2 ?_; refine A6 h eA ?_ ?_
  ·intro c19 h; simp (disch := omega) at c19; refine sG ?_; subst hc3; refine A3 fun cb hc5 => ?_; refine vF g2 ?_; obtain ⟨x6, hx6, h⟩ := A4 h; refine Mt a0.A9 hx6 ?_; refine sG ?_; refine A6 h eA ?_ ?_
   ·intro c8 h; refine sF g2 ?_; obtain ⟨x7, hx7, h⟩ := A4 h; refine Kl a0.A5 hx7 ?_; refine sG ?_; subst hc5; refine vO ?_; obtain rfl := sI h; refine sG ?_; exact Ap (.refl hw) hK
   intro c8 h; simp (disch := omega) at c8; refine sG ?_; subst hc5; refine vO ?_; obtain rfl := sI h; refine sG ?_; exact Ap (.refl hw) hK
  intro c19 h; simp (disch := omega) at c19; refine sF g2 ?_; refine A6 h rfl ?_ ?_
  ·intro c18 h; refine sF g2 ?_; refine A6 h eA ?_ ?_
   ·intro c16 h; simp (disch := omega) at c16; refine sF g2 ?_; obtain ⟨x9, hx9, h⟩ := A4 h; refine Ty a0.fDn hx9 ?_; refine sG ?_; subst hc3; refine A3 fun cb hc10 => ?_; refine vG ?_; refine A6 h eA ?_ ?_
    ·intro c14 h; refine sF g2 ?_; obtain ⟨x11, hx11, h⟩ := A4 h; refine Mt a0.A9 hx11 ?_; refine sG ?_; refine A6 h eA ?_ ?_
     ·intro c13 h; refine sF g2 ?_; obtain ⟨x12, hx12, h⟩ := A4 h; refine Kl a0.A5 hx12 ?_; refine sG ?_; subst hc10; refine vO ?_; obtain rfl := sI h; refine sG ?_; exact Ap (.refl hw) hK
     intro c13 h; simp (disch := omega) at c13; refine sG ?_; subst hc10; refine vO ?_; obtain rfl := sI h; refine sG ?_; exact Ap (.refl hw) hK
    intro c14 h; simp (disch := omega) at c14; refine sG ?_; subst hc10; refine vO ?_; obtain rfl := sI h; refine sG ?_; exact Ap (.refl hw) hK
   intro c16 h; simp (disch := omega) at c16; refine sG ?_; subst hc3; refine wG ?_; refine vO ?_; obtain rfl := sI h; refine sG ?_; exact Ap (.refl hw) hK
  intro c18 h; refine sG ?_; subst hc3; refine wG ?_; refine vO ?_; obtain rfl := sI h; refine sG ?_; exact Ap (.refl hw) hK
 intro c30 h; simp (disch := omega) at c30; refine sF g2 ?_; refine A6 h rfl ?_ ?_
 ·intro c29 h; refine sF g2 ?_; refine A6 h eA ?_ ?_
  ·intro c27 h; simp (disch := omega) at c27; refine sF g2 ?_; obtain ⟨x20, hx20, h⟩ := A4 h; refine Ty a0.fDn hx20 ?_; refine sG ?_; subst hc3; refine A3 fun cb hc21 => ?_; refine vG ?_; refine A6 h eA ?_ ?_
   ·intro c25 h; refine sF g2 ?_; obtain ⟨x22, hx22, h⟩ := A4 h; refine Mt a0.A9 hx22 ?_; refine sG ?_; refine A6 h eA ?_ ?_
    ·intro c24 h; refine sF g2 ?_; obtain ⟨x23, hx23, h⟩ := A4 h; refine Kl a0.A5 hx23 ?_; refine sG ?_; subst hc21; refine vO ?_; obtain rfl := sI h; refine sG ?_; exact Ap (.refl hw) hK
    intro c24 h; simp (disch := omega) at c24; refine sG ?_; subst hc21; refine vO ?_; obtain rfl := sI h; refine sG ?_; exact Ap (.refl hw) hK
   intro c25 h; simp (disch := omega) at c25; refine sG ?_; subst hc21; refine vO ?_; obtain rfl := sI h; refine sG ?_; exact Ap (.refl hw) hK
  intro c27 h; simp (disch := omega) at c27; refine sG ?_; subst hc3; refine wG ?_; refine vO ?_; obtain rfl := sI h; refine sG ?_; exact Ap (.refl hw) hK
 intro c29 h; refine sG ?_; subst hc3; refine wG ?_; refine vO ?_; obtain rfl := sI h; refine sG ?_; exact Ap (.refl hw) hK
end Go.Idl
namespace Go.Idl
set_option maxHeartbeats 8000000
set_option pp.deepTerms false
set_option maxRecDepth 60000
open Go Go.Proofs.Tryz
noncomputable def MA  : Option Bool :=
 some true
noncomputable def Ib (a0 : List S89) (a1 : List S89) (v9 : Int) : Option (Int ⊕ (Unit ⊕ Bool)) :=
 if v9 < (a0.length : Int) then (gd (0 ≤ v9 ∧ v9 < a0.length) (gd (0 ≤ v9 ∧ v9 < a1.length) (if ¬ (((a0.getD v9.toNat S89.zero).fType) = ((a1.getD v9.toNat S89.zero).fType) ∧ ((a0.getD v9.toNat S89.zero).A7) = ((a1.getD v9.toNat S89.zero).A7)) then (some (.inr (.inr false))) else (some (.inl (IntKind.i64.wrap (v9 + 1))))))) else (some (.inr (.inl ())))
noncomputable def F51 (a0 : List S89) (a1 : List S89) : Option Bool :=
 if ¬ (a0.length : Int) = (a1.length : Int) then (some false) else ((AD (fun (s : Int) => Ib a0 a1 s) 0).bind fun y => Sum.elim (fun (e : Unit) => MA) (fun (q : Bool) => some q) y)
theorem Z9 {H : A2} {K : Au → A2 → Prop} (a0 : List S89) (a1 : List S89) {r : Bool} (h : F51 a0 a1 = some r) (hK : K (.ret (.v (.bool r))) H) : Aa prog 51 [.sl 2 (a0.map fun x => [.v (str x.fType), .v (str x.A7)]), .sl 2 (a1.map fun x => [.v (str x.fType), .v (str x.A7)])] H K := by
 refine Ag (N := 26) func51 (by kernel_rfl) rfl (by kernel_rfl) (by kernel_rfl) fun cb hcb hw hbd hnb => ?_; clear hbd hnb; subst hcb; unfold F51 at h; refine wG ?_; refine A3 fun cb hc2 => ?_; refine wG ?_; refine A8 h eA rfl ?_ ?_
 ·intro c4 h; refine wG ?_; refine vO ?_; obtain rfl := sI h; refine sG ?_; exact Ap (.refl hw) hK
 intro c4 h; simp (disch := omega) at c4; refine vO ?_; subst hc2; refine A3 fun cb hc6 => ?_; refine wG ?_; obtain ⟨y8, hl8q, hk8⟩ := A4 h; refine AF (fun tm' H' => .inl () = y8 ∧ H = H') ?_ fun cb hc8 => ?_
 ·rintro tm8e H8e ⟨rfl, rfl⟩
  have h : MA = some r := hk8; unfold MA at h; simp -implicitDefEqProofs only [go_sem]; subst hc6; refine wG ?_; refine vO ?_; obtain rfl := sI h; refine sG ?_; exact Ap (.refl hw) hK
 refine Ah ?_; refine Az (fun (s : Int) tm' H' => H = H' ∧ tm' 0 = .sl 2 (a0.map fun x => [.v (str x.fType), .v (str x.A7)]) ∧ tm' 1 = .sl 2 (a1.map fun x => [.v (str x.fType), .v (str x.A7)]) ∧ tm' 5 = .v (.int .i64 s)) hl8q ?_ ?_
 ·exact sm
 rintro I8 hI8 v9 x8 tm8 H8 ⟨rfl, CO, e_, Tz⟩ h hret8
 replace h : Ib a0 a1 v9 = some x8 := h; unfold Ib at h; refine A3 fun cb hc11 => ?_; refine wF (nd CO Tz) ?_; refine A8 h eA rfl ?_ ?_
 ·intro c13 h; refine vO ?_; subst hc11; refine A3 fun cb hc14 => ?_; refine Ah ?_; refine A3 fun cb hc15 => ?_; refine AB [] [0, 1, 2, 3, 4, 5, 6, 7, 8] (by kernel_rfl) (by kernel_rfl) (fun _ _ _ _ h => h) ?_; obtain ⟨g16, h⟩ := Ad.1 h; obtain ⟨g17, h⟩ := Ad.1 h; refine sF (nd CO (nd e_ Tz)) ?_; subst hc15; refine A8 h eA rfl ?_ ?_
  ·intro c18 h; simp (disch := omega) at c18; refine wG ?_; refine vO ?_; obtain rfl := sI h; obtain rfl := hret8 _ rfl; replace h : some false = some r := hk8; obtain rfl := sI h; refine sG ?_; exact Ap (.refl hw) hK
  intro c18 h; simp (disch := omega) at c18; refine vO ?_; subst hc14; refine vF Tz ?_; obtain rfl := sI h; refine Aj hI8 (IntKind.i64.wrap (v9 + 1)) ?_; exact smF (nd CO e_)
 intro c13 h; simp (disch := omega) at c13; refine vO ?_; obtain rfl := sI h; have hy8 := hret8 _ rfl; refine hc8 _ _ ?_; refine .same ⟨hy8, rfl⟩
noncomputable def F25 (a0 : S33) (a1 : S33) : Option Bool :=
 gd (a0.A5.length = 8) (gd (a1.A5.length = 8) (if a0.A9 = a1.A9 then (if a0.Ac = a1.Ac then ((F51 a0.fDn a1.fDn).bind fun (x5 : Bool) => if x5 = true then ((F48 a0.A5 a1.A5).bind fun (x6 : Bool) => some x6) else (some false)) else (some false)) else (some false)))
theorem TA {H : A2} {K : Au → A2 → Prop} (a0 : S33) (a1 : S33) {r : Bool} (h : F25 a0 a1 = some r) (hK : K (.ret (.v (.bool r))) H) : Aa prog 25 [.ag (.v (str a0.A9) :: .v (str a0.Ac) :: .sl 2 (a0.fDn.map fun x => [.v (str x.fType), .v (str x.A7)]) :: (a0.A5.map fun x => .sl 1 (x.map fun x => [.v (str x)]))), .ag (.v (str a1.A9) :: .v (str a1.Ac) :: .sl 2 (a1.fDn.map fun x => [.v (str x.fType), .v (str x.A7)]) :: (a1.A5.map fun x => .sl 1 (x.map fun x => [.v (str x)])))] H K := by
 refine Ag (N := 31) func25 (by kernel_rfl) rfl (by kernel_rfl) (by kernel_rfl) fun cb hcb hw hbd hnb => ?_; clear hbd hnb; subst hcb; unfold F25 at h; obtain ⟨g2, h⟩ := Ad.1 h; obtain ⟨g3, h⟩ := Ad.1 h; refine wG ?_; refine A3 fun cb hc4 => ?_; refine vF (nd g2 g3) ?_; refine A6 h rfl ?_ ?_
 ·intro c9 h; refine sF (nd g2 g3) ?_; refine A6 h rfl ?_ ?_
  ·intro c8 h; refine sF (nd g2 g3) ?_; obtain ⟨x5, hx5, h⟩ := A4 h; refine Z9 a0.fDn a1.fDn hx5 ?_; refine sG ?_; refine A6 h eA ?_ ?_
   ·intro c7 h; refine sF (nd g2 g3) ?_; obtain ⟨x6, hx6, h⟩ := A4 h; refine T3 a0.A5 a1.A5 hx6 ?_; refine sG ?_; subst hc4; refine vO ?_; obtain rfl := sI h; refine sG ?_; exact Ap (.refl hw) hK
   intro c7 h; simp (disch := omega) at c7; refine sG ?_; subst hc4; refine vO ?_; obtain rfl := sI h; refine sG ?_; exact Ap (.refl hw) hK
  intro c8 h; refine sG ?_; subst hc4; refine vO ?_; obtain rfl := sI h; refine sG ?_; exact Ap (.refl hw) hK
 intro c9 h; refine sG ?_; subst hc4; refine vO ?_; obtain rfl := sI h; refine sG ?_; exact Ap (.refl hw) hK
noncomputable def F19 (a0 : S39) (a1 : S39) : Option Bool :=
 gd (a0.A5.length = 8) (gd (a1.A5.length = 8) (if a0.A9 = a1.A9 then (if a0.Ac = a1.Ac then ((F48 a0.A5 a1.A5).bind fun (x5 : Bool) => some x5) else (some false)) else (some false)))
theorem TB {H : A2} {K : Au → A2 → Prop} (a0 : S39) (a1 : S39) {r : Bool} (h : F19 a0 a1 = some r) (hK : K (.ret (.v (.bool r))) H) : Aa prog 19 [.ag (.v (str a0.A9) :: .v (str a0.Ac) :: (a0.A5.map fun x => .sl 1 (x.map fun x => [.v (str x)]))), .ag (.v (str a1.A9) :: .v (str a1.Ac) :: (a1.A5.map fun x => .sl 1 (x.map fun x => [.v (str x)])))] H K := by
 refine Ag (N := 24) func19 (by kernel_rfl) rfl (by kernel_rfl) (by kernel_rfl) fun cb hcb hw hbd hnb => ?_; clear hbd hnb; subst hcb; unfold F19 at h; obtain ⟨g2, h⟩ := Ad.1 h; obtain ⟨g3, h⟩ := Ad.1 h; refine wG ?_; refine A3 fun cb hc4 => ?_; refine vF (nd g2 g3) ?_; refine A6 h rfl ?_ ?_
 ·intro c7 h; refine sF (nd g2 g3) ?_; refine A6 h rfl ?_ ?_
  ·intro c6 h; refine sF (nd g2 g3) ?_; obtain ⟨x5, hx5, h⟩ := A4 h; refine T3 a0.A5 a1.A5 hx5 ?_; refine sG ?_; subst hc4; refine vO ?_; obtain rfl := sI h; refine sG ?_; exact Ap (.refl hw) hK
  intro c6 h; refine sG ?_; subst hc4; refine vO ?_; obtain rfl := sI h; refine sG ?_; exact Ap (.refl hw) hK
 intro c7 h; refine sG ?_; subst hc4; refine vO ?_; obtain rfl := sI h; refine sG ?_; exact Ap (.refl hw) hK
noncomputable def Ja (a1 : S35) (v27 : Bool) (v28 : Int) : Option Bool :=
 some (decide (v28 = (a1.fL.length : Int)))
noncomputable def Hf (a1 : S35) (el26 : Int × S39) (v24 : Bool) (v25 : Int) : Option ((Bool × Int) ⊕ ((Bool × Int) ⊕ Bool)) :=
 gd (el26.2.A5.length = 8) (if ¬ el26.1 = v25 then (some (.inr (.inr false))) else (if (a1.fL.length : Int) ≤ v25 then (some (.inr (.inr false))) else (gd (0 ≤ v25 ∧ v25 < a1.fL.length) (gd (((a1.fL.getD v25.toNat S39.zero).A5).length = 8) ((F19 el26.2 (a1.fL.getD v25.toNat S39.zero)).bind fun (x38 : Bool) => if ¬ (x38 = true) then (some (.inr (.inr false))) else (some (.inl ((v24, IntKind.i64.wrap (v25 + 1))))))))))
noncomputable def F20 (Ak : List (List UInt8 × S39)) (An : List (List UInt8 × (List UInt8))) (Aw : Option S33) (a1 : S35) : Option Bool :=
 gd (a1.fP.A5.length = 8) ((F14 Ak An Aw).bind fun (x5 : (List S39)) => (F26 Ak An Aw).bind fun (x7 : S33 × Bool) => gd (x7.1.A5.length = 8) (if ¬ x7.2 = (decide (¬ a1.fP.A9 = [])) then (some false) else ((F25 x7.1 a1.fP).bind fun (x12 : Bool) => if ¬ (x12 = true) then (some false) else ((F34 Ak An Aw).bind fun (x17 : Int) => if ¬ x17 = (a1.fL.length : Int) then (some false) else (gd (∀ x, x ∈ x5 → DK x.A5) ((HU (ρ := (Bool × Int) ⊕ Bool) (fun (el26 : Int × S39) (s : Bool × Int) => Hf a1 el26 s.1 s.2) (fun (s : Bool × Int) => .inl (s.1, s.2)) (EC x5) (false, 0)).bind fun y => Sum.elim (fun (e : Bool × Int) => Ja a1 e.1 e.2) (fun (q : Bool) => some q) y))))))
theorem Za {H : A2} {K : Au → A2 → Prop} (Ak : List (List UInt8 × S39)) (An : List (List UInt8 × (List UInt8))) (Aw : Option S33) (a1 : S35) (ka0 : Nat) (Ae : Nat) (Af : Nat) (Ar : H.obj ka0 = some (.cells ([.mp Ae, .mp Af, Be (fun (x : S33) => .v (str x.A9) :: .v (str x.Ac) :: .sl 2 (x.fDn.map fun x => [.v (str x.fType), .v (str x.A7)]) :: (x.A5.map fun x => .sl 1 (x.map fun x => [.v (str x)]))) Aw]))) (Am : H.obj Ae = some (.map (mE (fun (x : S39) => .ag (.v (str x.A9) :: .v (str x.Ac) :: (x.A5.map fun x => .sl 1 (x.map fun x => [.v (str x)])))) Ak))) (Ao : H.obj Af = some (.map (mE (fun (x : List UInt8) => .v (str x)) An))) {r : Bool} (h : F20 Ak An Aw a1 = some r) (hK : K (.ret (.v (.bool r))) H) : Aa prog 20 [.p ka0 0, .ag (.sl 10 (a1.fL.map fun x => .v (str x.A9) :: .v (str x.Ac) :: (x.A5.map fun x => .sl 1 (x.map fun x => [.v (str x)]))) :: .v (str a1.fP.A9) :: .v (str a1.fP.Ac) :: .sl 2 (a1.fP.fDn.map fun x => [.v (str x.fType), .v (str x.A7)]) :: (a1.fP.A5.map fun x => .sl 1 (x.map fun x => [.v (str x)])))] H K := by
 refine Ag (N := 70) func20 (by kernel_rfl) rfl (by kernel_rfl) (by kernel_rfl) fun cb hcb hw hbd hnb => ?_; clear hbd hnb; subst hcb; unfold F20 at h; have DZ : ka0 < H.next := Nat.lt_of_not_le fun q => by rw [hw _ q] at Ar; cases Ar
 have BV : Ae < H.next := Nat.lt_of_not_le fun q => by rw [hw _ q] at Am; cases Am
 have BW : Af < H.next := Nat.lt_of_not_le fun q => by rw [hw _ q] at Ao; cases Ao
 obtain ⟨g2, h⟩ := Ad.1 h; refine wG ?_; refine wF g2 ?_; refine A3 fun cb hc4 => ?_; refine vG ?_; obtain ⟨x5, hx5, h⟩ := A4 h; refine Tk Ak An Aw ka0 Ae Af (eF Ar) (eF Am) (eF Ao) hx5 ?_; refine sG ?_; subst hc4; refine A3 fun cb hc6 => ?_; refine vG ?_; obtain ⟨x7, hx7, h⟩ := A4 h; refine T8 Ak An Aw ka0 Ae Af (eF Ar) (eF Am) (eF Ao) hx7 ?_; obtain ⟨g8, h⟩ := Ad.1 h; refine sF g8 ?_; subst hc6; refine A3 fun cb hc9 => ?_; refine A3 fun cb hc10 => ?_; refine vF g2 ?_; refine A6 h eA ?_ ?_
 ·intro c43 h; simp (disch := omega) at c43; refine sG ?_; subst hc10; refine Ai eA rfl ?_; refine wG ?_; refine vO ?_; obtain rfl := sI h; refine sG ?_; exact Ap (.refl hw) hK
 intro c43 h; simp (disch := omega) at c43; refine sF (nd g2 g8) ?_; obtain ⟨x12, hx12, h⟩ := A4 h; refine TA x7.1 a1.fP hx12 ?_; refine sG ?_; subst hc10; refine A8 h eA rfl ?_ ?_
 ·intro c13 h; simp (disch := omega) at c13; refine wG ?_; refine vO ?_; obtain rfl := sI h; refine sG ?_; exact Ap (.refl hw) hK
 intro c13 h; simp (disch := omega) at c13; refine vO ?_; subst hc9; refine A3 fun cb hc15 => ?_; refine A3 fun cb hc16 => ?_; refine AB [] [0, 1, 2, 3, 5, 6, 4, 7, 8] (by kernel_rfl) (by kernel_rfl) (fun _ _ _ _ h => h) ?_; refine sG ?_; obtain ⟨x17, hx17, h⟩ := A4 h; refine YT Ak An Aw ka0 Ae Af (eF Ar) (eF Am) (eF Ao) hx17 ?_; refine sG ?_; subst hc16; refine A8 h eA rfl ?_ ?_
 ·intro c18 h; refine wG ?_; refine vO ?_; obtain rfl := sI h; refine sG ?_; exact Ap (.refl hw) hK
 intro c18 h; simp (disch := omega) at c18; refine vO ?_; subst hc15; refine wG ?_; refine A3 fun cb hc21 => ?_; refine wG ?_; obtain ⟨gi23, h⟩ := Ad.1 h; obtain ⟨y23, hl23q, hk23⟩ := A4 h; refine AF (fun tm' H' => ∃ v27 : Bool, ∃ v28 : Int, .inl (v27, v28) = y23 ∧ Ext H H' ∧ H.next + 5 ≤ H'.next ∧ tm' 4 = .p (H.next + 1) 0 ∧ tm' 5 = .p (H.next + 2) 0 ∧ tm' 9 = .p (H.next + 4) 0 ∧ H'.obj Ae = some (.map (mE (fun (x : S39) => .ag (.v (str x.A9) :: .v (str x.Ac) :: (x.A5.map fun x => .sl 1 (x.map fun x => [.v (str x)])))) Ak)) ∧ H'.obj Af = some (.map (mE (fun (x : List UInt8) => .v (str x)) An)) ∧ H'.obj ka0 = some (.cells ([.mp Ae, .mp Af, Be (fun (x : S33) => .v (str x.A9) :: .v (str x.Ac) :: .sl 2 (x.fDn.map fun x => [.v (str x.fType), .v (str x.A7)]) :: (x.A5.map fun x => .sl 1 (x.map fun x => [.v (str x)]))) Aw])) ∧ H'.obj H.next = some (.cells (.sl 10 (a1.fL.map fun x => .v (str x.A9) :: .v (str x.Ac) :: (x.A5.map fun x => .sl 1 (x.map fun x => [.v (str x)]))) :: .v (str a1.fP.A9) :: .v (str a1.fP.Ac) :: .sl 2 (a1.fP.fDn.map fun x => [.v (str x.fType), .v (str x.A7)]) :: (a1.fP.A5.map fun x => .sl 1 (x.map fun x => [.v (str x)])))) ∧ H'.obj (H.next + 1) = some (.cells ([.v (.bool v27)])) ∧ H'.obj (H.next + 2) = some (.cells ([.sl 10 (a1.fL.map fun x => .v (str x.A9) :: .v (str x.Ac) :: (x.A5.map fun x => .sl 1 (x.map fun x => [.v (str x)])))])) ∧ H'.obj (H.next + 3) = some (.cells (.v (str x7.1.A9) :: .v (str x7.1.Ac) :: .sl 2 (x7.1.fDn.map fun x => [.v (str x.fType), .v (str x.A7)]) :: (x7.1.A5.map fun x => .sl 1 (x.map fun x => [.v (str x)])))) ∧ H'.obj (H.next + 4) = some (.cells ([.v (.int .i64 v28)]))) ?_ fun cb hc23 => ?_
 ·rintro tm23e H23e ⟨v27, v28, rfl, he23e, hl23e, t4_23e, t5_23e, t9_23e, ob0_23e, ob1_23e, ob2_23e, ob3_23e, ob4_23e, ob5_23e, ob6_23e, ob7_23e⟩
  have h : Ja a1 v27 v28 = some r := hk23; unfold Ja at h; simp -implicitDefEqProofs only [go_sem]; subst hc21; refine wF (nd t4_23e (nd t5_23e (nd t9_23e (nd ob4_23e (nd ob5_23e ob7_23e))))) ?_; refine vO ?_; obtain rfl := sI h; refine sF t4_23e ?_; refine Ay (As he23e) rfl nbA hK
 refine Ah ?_; refine Gj (gf := 46) (cap := [.cp [.sl 10 (x5.map fun x => .v (str x.A9) :: .v (str x.Ac) :: (x.A5.map fun x => .sl 1 (x.map fun x => [.v (str x)])))]]) (C := []) (enc := fun (el26 : Int × S39) => [.v (.int .i64 el26.1), .ag (.v (str el26.2.A9) :: .v (str el26.2.Ac) :: (el26.2.A5.map fun x => .sl 1 (x.map fun x => [.v (str x)])))]) (fun (s : Bool × Int) _ H' => Ext H H' ∧ H.next + 5 ≤ H'.next ∧ H'.obj Ae = some (.map (mE (fun (x : S39) => .ag (.v (str x.A9) :: .v (str x.Ac) :: (x.A5.map fun x => .sl 1 (x.map fun x => [.v (str x)])))) Ak)) ∧ H'.obj Af = some (.map (mE (fun (x : List UInt8) => .v (str x)) An)) ∧ H'.obj ka0 = some (.cells ([.mp Ae, .mp Af, Be (fun (x : S33) => .v (str x.A9) :: .v (str x.Ac) :: .sl 2 (x.fDn.map fun x => [.v (str x.fType), .v (str x.A7)]) :: (x.A5.map fun x => .sl 1 (x.map fun x => [.v (str x)]))) Aw])) ∧ H'.obj H.next = some (.cells (.sl 10 (a1.fL.map fun x => .v (str x.A9) :: .v (str x.Ac) :: (x.A5.map fun x => .sl 1 (x.map fun x => [.v (str x)]))) :: .v (str a1.fP.A9) :: .v (str a1.fP.Ac) :: .sl 2 (a1.fP.fDn.map fun x => [.v (str x.fType), .v (str x.A7)]) :: (a1.fP.A5.map fun x => .sl 1 (x.map fun x => [.v (str x)])))) ∧ H'.obj (H.next + 1) = some (.cells ([.v (.bool s.1)])) ∧ H'.obj (H.next + 2) = some (.cells ([.sl 10 (a1.fL.map fun x => .v (str x.A9) :: .v (str x.Ac) :: (x.A5.map fun x => .sl 1 (x.map fun x => [.v (str x)])))])) ∧ H'.obj (H.next + 3) = some (.cells (.v (str x7.1.A9) :: .v (str x7.1.Ac) :: .sl 2 (x7.1.fDn.map fun x => [.v (str x.fType), .v (str x.A7)]) :: (x7.1.A5.map fun x => .sl 1 (x.map fun x => [.v (str x)])))) ∧ H'.obj (H.next + 4) = some (.cells ([.v (.int .i64 s.2)]))) hl23q (by kernel_rfl) (by rfl) (Tn (x5) gi23) ?_ (fun _ _ _ _ hh => hh) (by intro _ _ _ _ p hp; cases hp) (fun _ => rfl) ?_ ?_
 ·exact ⟨by exact As (Ext.refl hw), by (simp -implicitDefEqProofs (disch := omega) [go_sem] <;> omega), by (simp -implicitDefEqProofs (disch := omega) [go_sem, Am] <;> omega), by (simp -implicitDefEqProofs (disch := omega) [go_sem, Ao] <;> omega), by (simp -implicitDefEqProofs (disch := omega) [go_sem, Ar] <;> omega), by (simp -implicitDefEqProofs (disch := omega) [go_sem] <;> omega), by (simp -implicitDefEqProofs (disch := omega) [go_sem] <;> omega), by (simp -implicitDefEqProofs (disch := omega) [go_sem] <;> omega), by (simp -implicitDefEqProofs (disch := omega) [go_sem] <;> omega), by (simp -implicitDefEqProofs (disch := omega) [go_sem] <;> omega)⟩
 ·rintro I23 hI23 el26 ⟨v24, v25⟩ x23 H23 ⟨he23, hl23, Gm, DL, En, Gn, Cy, Kp, P7, Ic⟩ h hret23
  replace h : Hf a1 el26 v24 v25 = some x23 := h; unfold Hf at h
  skip
  refine wG ?_; obtain ⟨g31, h⟩ := Ad.1 h; refine vF g31 ?_; refine Ah ?_; refine A3 fun cb hc32 => ?_; refine A3 fun cb hc33 => ?_; refine AB [15] [0, 1, 2, 3, 4, 5, 6, 7, 8, 9, 10, 11, 12, 13, 14, 15, 16, 17] (by kernel_rfl) (by kernel_rfl) (fun _ _ _ _ h => h) ?_; refine sF Ic ?_; refine A6 h eA ?_ ?_
  ·intro c42 h; refine sG ?_; subst hc33; refine Ai eA rfl ?_; refine wF Cy ?_; refine vO ?_; obtain rfl := sI h; obtain rfl := hret23 _ rfl; replace h : some false = some r := hk23; obtain rfl := sI h; refine sG ?_; refine Ay (As he23) rfl nbA hK
  intro c42 h; simp (disch := omega) at c42; refine sF (nd Kp Ic) ?_; refine A6 h rfl ?_ ?_
  ·intro c41 h; refine sG ?_; subst hc33; refine Ai eA rfl ?_; refine wF Cy ?_; refine vO ?_; obtain rfl := sI h; obtain rfl := hret23 _ rfl; replace h : some false = some r := hk23; obtain rfl := sI h; refine sG ?_; refine Ay (As he23) rfl nbA hK
  intro c41 h; simp (disch := omega) at c41; obtain ⟨g36, h⟩ := Ad.1 h; obtain ⟨g37, h⟩ := gS h; refine sF (nd Kp (nd Ic (nd g31 g37))) ?_; obtain ⟨x38, hx38, h⟩ := A4 h; refine BS.mk _ (fun _ _ hK => Aa.eqA eA (TB el26.2 (a1.fL.getD v25.toNat S39.zero) hx38 hK)) ?_; refine sG ?_; subst hc33; refine A8 h eA rfl ?_ ?_
  ·intro c39 h; simp (disch := omega) at c39; refine wF Cy ?_; refine vO ?_; obtain rfl := sI h; obtain rfl := hret23 _ rfl; replace h : some false = some r := hk23; obtain rfl := sI h; refine sG ?_; refine Ay (As he23) rfl nbA hK
  intro c39 h; simp (disch := omega) at c39; refine vO ?_; subst hc32; refine vF Ic ?_; obtain rfl := sI h; refine Aj hI23 ((v24, IntKind.i64.wrap (v25 + 1))) ?_; refine .same ⟨by exact As he23, by (simp -implicitDefEqProofs (disch := omega) [go_sem] <;> omega), ?_, ?_, ?_, ?_, ?_, ?_, ?_, ?_⟩ <;> (simp -implicitDefEqProofs (disch := omega) [go_sem, Gm, DL, En, Gn, Cy, Kp, P7] <;> omega)
 rintro ⟨v24, v25⟩ H23 ⟨he23, hl23, Gm, DL, En, Gn, Cy, Kp, P7, Ic⟩ hy23
 simp -implicitDefEqProofs only [go_sem]; refine hc23 _ _ ?_; refine .same ⟨v24, v25, hy23, by exact As he23, by (simp -implicitDefEqProofs (disch := omega) [go_sem] <;> omega), ?_, ?_, ?_, ?_, ?_, ?_, ?_, ?_, ?_, ?_, ?_⟩ <;> (simp -implicitDefEqProofs (disch := omega) [go_sem, Gm, DL, En, Gn, Cy, Kp, P7, Ic] <;> omega)
end Go.Idl
namespace Go.Idl
set_option maxHeartbeats 8000000
set_option pp.deepTerms false
set_option maxRecDepth 60000
open Go Go.Proofs.Tryz
end Go.Idl
namespace Go.Idl
set_option maxHeartbeats 8000000
set_option pp.deepTerms false
set_option maxRecDepth 60000
open Go Go.Proofs.Tryz
end Go.Idl
namespace Go.Idl
set_option maxHeartbeats 8000000
set_option pp.deepTerms false
set_option maxRecDepth 60000
open Go Go.Proofs.Tryz
noncomputable def Lt  : Option Bool :=
 some true
theorem Hg {H : A2} {K : Au → A2 → Prop}  {r : Bool} (h : Lt  = some r) (hK : K (.ret (.v (.bool r))) H) : Aa prog 42 [.v (.pointer none)] H K := by
 refine Ag (N := 13) func42 (by kernel_rfl) rfl (by kernel_rfl) (by kernel_rfl) fun cb hcb hw hbd hnb => ?_; clear hbd hnb; subst hcb; unfold Lt at h; refine wG ?_; refine wG ?_; refine vO ?_; obtain rfl := sI h; refine sG ?_; exact Ap (.refl hw) hK
noncomputable def Xq (a1 : List UInt8) : Option (S39 × Bool) :=
 (Lt ).bind fun (x4 : Bool) => some (((⟨[], [], [[], [], [], [], [], [], [], []]⟩ : S39), false))
theorem fc {H : A2} {K : Au → A2 → Prop} (a1 : List UInt8) {r : S39 × Bool} (h : Xq a1 = some r) (hK : K (.ret (.tu [.ag (.v (str r.1.A9) :: .v (str r.1.Ac) :: (r.1.A5.map fun x => .sl 1 (x.map fun x => [.v (str x)]))), .v (.bool r.2)])) H) : Aa prog 21 [.v (.pointer none), .v (str a1)] H K := by
 refine Ag (N := 24) func21 (by kernel_rfl) rfl (by kernel_rfl) (by kernel_rfl) fun cb hcb hw hbd hnb => ?_; clear hbd hnb; subst hcb; unfold Xq at h; refine wG ?_; refine A3 fun cb hc2 => ?_; refine A3 fun cb hc3 => ?_; refine vG ?_; obtain ⟨x4, hx4, h⟩ := A4 h; cases (show some true = some x4 from hx4); refine Hg  hx4 ?_; refine sG ?_; subst hc3; refine Ai eA rfl ?_; refine A3 fun cb hc5 => ?_; refine v0 ?_; simp -implicitDefEqProofs (disch := omega) [go_sem, bdP]; subst hc5; refine vO ?_; obtain rfl := sI h; refine sG ?_; refine Aq (J := H) (r' := _) (Ext.Bp (by exact As (Ext.refl hw))) eA (.wk _ (.tu [.ag ([.v (str []), .v (str []), .sl 1 ((([] : List (List UInt8))).map fun x => [.v (str x)]), .sl 1 ((([] : List (List UInt8))).map fun x => [.v (str x)]), .sl 1 ((([] : List (List UInt8))).map fun x => [.v (str x)]), .sl 1 ((([] : List (List UInt8))).map fun x => [.v (str x)]), .sl 1 ((([] : List (List UInt8))).map fun x => [.v (str x)]), .sl 1 ((([] : List (List UInt8))).map fun x => [.v (str x)]), .sl 1 ((([] : List (List UInt8))).map fun x => [.v (str x)]), .sl 1 ((([] : List (List UInt8))).map fun x => [.v (str x)])]), .v (.bool false)]) (by repeat (first | exact WkL.nil | refine WkL.cons ?_ ?_ | exact Wk.refl _ | exact Wk.nil _ | refine Wk.agL ?_ | refine Wk.tuL ?_)) (by exact nbA)) hK
noncomputable def TC  : Option (S33 × Bool) :=
 (Lt ).bind fun (x4 : Bool) => some (((⟨[], [], [], [[], [], [], [], [], [], [], []]⟩ : S33), false))
theorem TD {H : A2} {K : Au → A2 → Prop}  {r : S33 × Bool} (h : TC  = some r) (hK : K (.ret (.tu [.ag (.v (str r.1.A9) :: .v (str r.1.Ac) :: .sl 2 (r.1.fDn.map fun x => [.v (str x.fType), .v (str x.A7)]) :: (r.1.A5.map fun x => .sl 1 (x.map fun x => [.v (str x)]))), .v (.bool r.2)])) H) : Aa prog 26 [.v (.pointer none)] H K := by
 refine Ag (N := 21) func26 (by kernel_rfl) rfl (by kernel_rfl) (by kernel_rfl) fun cb hcb hw hbd hnb => ?_; clear hbd hnb; subst hcb; unfold TC at h; refine wG ?_; refine A3 fun cb hc2 => ?_; refine A3 fun cb hc3 => ?_; refine vG ?_; obtain ⟨x4, hx4, h⟩ := A4 h; cases (show some true = some x4 from hx4); refine Hg  hx4 ?_; refine sG ?_; subst hc3; refine Ai eA rfl ?_; refine A3 fun cb hc5 => ?_; refine v0 ?_; simp -implicitDefEqProofs (disch := omega) [go_sem, bdP]; subst hc5; refine vO ?_; obtain rfl := sI h; refine sG ?_; refine Aq (J := H) (r' := _) (Ext.Bp (by exact As (Ext.refl hw))) eA (.wk _ (.tu [.ag ([.v (str []), .v (str []), .sl 2 (([] : List S89).map fun x => [.v (str x.fType), .v (str x.A7)]), .sl 1 ((([] : List (List UInt8))).map fun x => [.v (str x)]), .sl 1 ((([] : List (List UInt8))).map fun x => [.v (str x)]), .sl 1 ((([] : List (List UInt8))).map fun x => [.v (str x)]), .sl 1 ((([] : List (List UInt8))).map fun x => [.v (str x)]), .sl 1 ((([] : List (List UInt8))).map fun x => [.v (str x)]), .sl 1 ((([] : List (List UInt8))).map fun x => [.v (str x)]), .sl 1 ((([] : List (List UInt8))).map fun x => [.v (str x)]), .sl 1 ((([] : List (List UInt8))).map fun x => [.v (str x)])]), .v (.bool false)]) (by repeat (first | exact WkL.nil | refine WkL.cons ?_ ?_ | exact Wk.refl _ | exact Wk.nil _ | refine Wk.agL ?_ | refine Wk.tuL ?_)) (by exact nbA)) hK
noncomputable def TE  : Option (List S39) :=
 (Lt ).bind fun (x5 : Bool) => some ([] : List S39)
theorem TF {H : A2} {K : Au → A2 → Prop}  {r : (List S39)} (h : TE  = some r) (hK : K (.ret (.fn (.func 46) [] [.cp [.sl 10 (r.map fun x => .v (str x.A9) :: .v (str x.Ac) :: (x.A5.map fun x => .sl 1 (x.map fun x => [.v (str x)])))]])) H) : Aa prog 14 [.v (.pointer none)] H K := by
 refine Ag (N := 34) func14 (by kernel_rfl) rfl (by kernel_rfl) (by kernel_rfl) fun cb hcb hw hbd hnb => ?_; clear hbd hnb; subst hcb; unfold TE at h; refine wG ?_; refine wG ?_; refine A3 fun cb hc3 => ?_; refine A3 fun cb hc4 => ?_; refine vG ?_; obtain ⟨x5, hx5, h⟩ := A4 h; cases (show some true = some x5 from hx5); refine Hg  hx5 ?_; refine sG ?_; subst hc4; refine Al eA rfl ?_; refine vO ?_; subst hc3; refine wG ?_; refine vO ?_; obtain rfl := sI h; refine sG ?_; refine Aq (J := H) (r' := .fn (.func 46) [] [.cp [.sl 10 (([] : List S39).map fun x => .v (str x.A9) :: .v (str x.Ac) :: (x.A5.map fun x => .sl 1 (x.map fun x => [.v (str x)])))]]) (Ext.Bp (by exact As (Ext.refl hw))) rfl (Fz.Nr (VI (hw _ (by omega)) eA)) hK
end Go.Idl
namespace Go.Idl
set_option maxHeartbeats 8000000
set_option pp.deepTerms false
set_option maxRecDepth 60000
open Go Go.Proofs.Tryz
noncomputable def TG  : Option Int :=
 (Lt ).bind fun (x4 : Bool) => some 0
theorem TH {H : A2} {K : Au → A2 → Prop}  {r : Int} (h : TG  = some r) (hK : K (.ret (.v (.int .i64 r))) H) : Aa prog 34 [.v (.pointer none)] H K := by
 refine Ag (N := 11) func34 (by kernel_rfl) rfl (by kernel_rfl) (by kernel_rfl) fun cb hcb hw hbd hnb => ?_; clear hbd hnb; subst hcb; unfold TG at h; refine wG ?_; refine A3 fun cb hc2 => ?_; refine A3 fun cb hc3 => ?_; refine vG ?_; obtain ⟨x4, hx4, h⟩ := A4 h; cases (show some true = some x4 from hx4); refine Hg  hx4 ?_; refine sG ?_; subst hc3; refine Ai eA rfl ?_; refine wG ?_; refine vO ?_; obtain rfl := sI h; refine sG ?_; exact Ap (.refl hw) hK
end Go.Idl
namespace Go.Idl
open Go Go.RowKit
variable {P : Program} {N : Nat} {tm : Tm} {H : A2}
theorem P8 {P : Program} (t : TypeId) (v : Value) (w : World) : (Instr.panic (.iface t v)).run P w = .halt (.panic (.iface t v)) w := by
 simp [Instr.panic]
theorem NV {o : Oper} {K : IV → A2 → Prop} {Qp : List PanicEntry → A2 → Prop} {x : Operand} (ho : o.op = .panic x) (hok : okO N o = true) {t : TypeId} {y : Value} (hv : vOf (ev tm x) = some (.iface t y))
    (hq : Qp [{ v := .iface t y, recovered := false }] H) : AE P N o tm H K Qp := by
 refine ⟨fun c e => (by rw [ho] at e; cases e), fun rr w g a s r hN => ?_⟩; subst hN; simp only [okO, ho, Bool.and_eq_true, List.all_eq_true, Op.operands] at hok; have rx := Q_ (r.ev (x := x) (hok.1 x (by simp))) hv; have hrun : (execOp a.eval o).run P w = .halt (.panic (.iface t y)) w := by
  simp [execOp, ho, rx, P8]
 rw [hrun]; exact ⟨_, g, H, rfl, rfl, .refl w g, s, hq⟩
theorem P9 {f : FuncId} {fn : Func} {c : Code} {args : List IV} {K : Au → A2 → Prop} (hf : P.funcs[f]? = some fn) (hbd : Bj P f = true) (hb : fn.body = some c) (hN : fn.ntmps = N)
    (hn : (decide (args.length ≤ N) && fn.results.toList.all (rvN N)) = true)
    (h : ∀ cb, cb = c → H.Wf → HP P N cb (SA P fn.results.toList H K) (tm0 args) H []) : Aa P f args H K := by
 subst hN; simp only [Bool.and_eq_true, decide_eq_true_eq] at hn; exact JP hbd hf hb hn.1 hn.2 fun hw => h c rfl hw
theorem Kq {f : FuncId} {fn : Func} {c : Code} {args : List IV} {u : FrameMode} {K : Au → FrameMode → A2 → Prop} (hf : P.funcs[f]? = some fn) (hbd : Bj P f = true) (hb : fn.body = some c) (hN : fn.ntmps = N)
    (hn : (decide (args.length ≤ N) && fn.results.toList.all (rvN N)) = true)
    (h : ∀ cb, cb = c → H.Wf → HQ P N cb (Vo P fn.results.toList H K) (tm0 args) H u) : BB P f args u H K := by
 subst hN; simp only [Bool.and_eq_true, decide_eq_true_eq] at hn; exact IW hbd hf hb hn.1 hn.2 fun hw => h c rfl hw
theorem BB.eqA {f : FuncId} {args args' : List IV} {u : FrameMode} {K : Au → FrameMode → A2 → Prop} (e : args = args') (h : BB P f args' u H K) : BB P f args u H K := e ▸ h
section
variable {K : Tm → A2 → List GD → Prop} {Q : Exit → Tm → A2 → List GD → Prop} {dl : List GD} {c : List PanicEntry} {l : Nat}
@[go_sem] theorem VY : JO K Q .normal tm H dl = K tm H dl := rfl
@[go_sem] theorem Zb : JO K Q (.exit l) tm H dl = Q (.exit l) tm H dl := rfl
@[go_sem] theorem Zc : JO K Q (.goto l) tm H dl = Q (.goto l) tm H dl := rfl
@[go_sem] theorem bI : JO K Q .ret tm H dl = Q .ret tm H dl := rfl
@[go_sem] theorem Xr : JO K Q (.panic c) tm H dl = Q (.panic c) tm H dl := rfl
end
section
variable {K : Tm → A2 → FrameMode → Prop} {Q : Exit → Tm → A2 → FrameMode → Prop} {u : FrameMode} {c : List PanicEntry} {l : Nat}
@[go_sem] theorem VZ : thenS K Q .normal tm H u = K tm H u := rfl
@[go_sem] theorem Zd : thenS K Q (.exit l) tm H u = Q (.exit l) tm H u := rfl
@[go_sem] theorem Ze : thenS K Q (.goto l) tm H u = Q (.goto l) tm H u := rfl
@[go_sem] theorem bJ : thenS K Q .ret tm H u = Q .ret tm H u := rfl
@[go_sem] theorem Xs : thenS K Q (.panic c) tm H u = Q (.panic c) tm H u := rfl
end
section
variable {H0 : A2} {rs : List ResultVar} {Q : Au → A2 → Prop} {dl : List GD} {c : List PanicEntry} {q : GD}
@[go_sem] theorem Zf : Oz P rs H0 Q (.panic c) tm H = ((∃ J, BZ H0 H J ∧ Q (.pan c) J) ∨ Q (.pan c) H) := rfl
@[go_sem] theorem Xt : SA P rs H0 Q .normal tm H dl = LvD P rs H0 Q tm dl .returning H := rfl
@[go_sem] theorem fm : SA P rs H0 Q .ret tm H dl = LvD P rs H0 Q tm dl .returning H := rfl
@[go_sem] theorem Zg : SA P rs H0 Q (.panic c) tm H dl = LvD P rs H0 Q tm dl (.panicking c) H := rfl
@[go_sem] theorem jd : LvD P rs H0 Q tm [] .returning H = OG (FH P H tm rs) H0 Q H := J0
@[go_sem] theorem fo : LvD P rs H0 Q tm [] (.panicking c) H = ((∃ J, BZ H0 H J ∧ Q (.pan c) J) ∨ Q (.pan c) H) := rfl
theorem V_ (h : BB P q.f (q.args ++ q.cap) .returning H (lvQ (LvD P rs H0 Q tm dl))) : LvD P rs H0 Q tm (q :: dl) .returning H := ⟨by simp, h⟩
theorem Q0 (h : BB P q.f (q.args ++ q.cap) (.panicking c) H (lvQ (LvD P rs H0 Q tm dl))) : LvD P rs H0 Q tm (q :: dl) (.panicking c) H := ⟨by simp, h⟩
end
section
variable {H0 : A2} {rs : List ResultVar} {Q : Au → FrameMode → A2 → Prop} {c : List PanicEntry} {u : FrameMode}
@[go_sem] theorem Xu : Vo P rs H0 Q .normal tm H u = OG (FH P H tm rs) H0 (fun e J => Q e u J) H := J0
@[go_sem] theorem Zh : Vo P rs H0 Q (.panic c) tm H u = ((∃ J, BZ H0 H J ∧ Q (.pan c) u J) ∨ Q (.pan c) u H) := rfl
end
section
variable {K : FrameMode → A2 → Prop} {u : FrameMode} {c : List PanicEntry} {i : IV} {v : Value}
@[go_sem] theorem je : lvQ K (.ret i) u H = K (settle u) H := rfl
@[go_sem] theorem jf : lvQ K (.pan c) u H = K (raised u c) H := rfl
@[go_sem] theorem Zi : settle .returning = .returning := rfl
@[go_sem] theorem Zj : settle (.panicking [{ v := v, recovered := true }]) = .returning := rfl
@[go_sem] theorem Zk : settle (.panicking [{ v := v, recovered := false }]) = .panicking [{ v := v, recovered := false }] := rfl
@[go_sem] theorem fq : M8 (.panicking [{ v := v, recovered := false }]) = (v, .panicking [{ v := v, recovered := true }]) := rfl
@[go_sem] theorem fu : M8 .returning = (.nilIface, .returning) := rfl
end
def isD : Op → Bool
  | .defer _ => true
  | _ => false
section
variable {full : Array Oper} {L : List Oper} {Q : Exit → Tm → A2 → List GD → Prop} {dl : List GD} {d : Option Tmp} {t : TypeId} {p : String} {af : Array Edge}
theorem Pa : Eh P N full [] Q tm H dl = Q .normal tm H dl := rfl
theorem MB {x : Operand} {l : List Operand} {ats : Array TypeId} : Eh P N full (⟨d, .defer ⟨.value x, ⟨l⟩, ats⟩, t, p, af, none⟩ :: L) Q tm H dl =
    CY (fnP (ev tm x)) (fun f cap => Eh P N full L Q (Bq tm d (.v undef)) H (⟨f, cap, l.map (ev tm)⟩ :: dl)) False := propext ⟨fun h => h.2, fun h => ⟨rfl, h⟩⟩
theorem Rc {op : Op} (h : isD op = false) : Eh P N full (⟨d, op, t, p, af, none⟩ :: L) Q tm H dl =
    BC P N ⟨d, op, t, p, af, none⟩ tm H (fun x H' => Eh P N full L Q (Bq tm d x) H' dl) (fun ch H' => Q (.panic ch) tm H' dl) := by
 cases op <;> first | (simp [isD] at h; done) | exact propext ⟨fun h => h.2, fun h => ⟨rfl, h⟩⟩
end
structure Dl (H D : A2) : Prop where
  next : D.next = H.next
  sn : D.sn = H.sn
  sub : ∀ k o, D.obj k = some o → H.obj k = some o
theorem Dl.refl (H : A2) : Dl H H := ⟨rfl, rfl, fun _ _ h => h⟩
theorem Dl.del {D : A2} (h : Dl H D) (k : Nat) : Dl H (D.del k) := ⟨h.next, h.sn, fun i o hi => by
  simp only [A2.del] at hi
  split at hi
  · cases hi
  · exact h.sub i o hi⟩
theorem Dl.Bp {D H' : A2} (h : Dl H D) (he : Ext D H') : BZ H H' D :=
  ⟨by rw [h.next]; exact Nat.le_refl _, he.le, he.sub, fun k o hk => Nat.lt_of_not_le fun q => (by rw [he.wf k q] at hk; cases hk), .inr fun k o hk => .inl (h.sub k o hk), h.sn⟩
theorem Ext.kA {H' : A2} (h : Ext H H') {k : Nat} (hk : H.obj k = none) : Ext H (H'.del k) := by
 refine ⟨h.wf, h.le, fun i o' hi => ?_, h.sn⟩; simp only [A2.del]; by_cases e : i = k
 ·subst e; rw [hk] at hi; cases hi
 ·rw [if_neg e]; exact h.sub i o' hi
theorem Fb {H0 D : A2} {Q : Au → A2 → Prop} {c : List PanicEntry} (he : Ext D H) (hd : Dl H0 D) (h : Q (.pan c) D) : (∃ J, BZ H0 H J ∧ Q (.pan c) J) ∨ Q (.pan c) H := .inl ⟨D, hd.Bp he, h⟩
theorem EK {H0 H1 H : A2} (h1 : Ext H0 H1)
    (he : Ext H0 H1 → Ext H0 H := by intro he1; repeat (first | exact he1 | refine Ext.skip ?_ | refine Ext.new ?_ _ | refine Ext.set ?_ (by first | omega | (simp [go_sem]; done) | (simp [go_sem]; omega)) _ | refine Ext.del ?_ (by first | omega | (simp [go_sem]; done) | (simp [go_sem]; omega)) | refine Ext.kA ?_ (by simp [go_sem]) | refine Ext.eo ?_ (by simp [go_sem]) _)) : Ext H0 H := he h1
def orP {ε α β : Type} (x : Except ε α) (p : ε → β) (k : α → β) : β :=
  match x with
  | .error e => p e
  | .ok a => k a
theorem Jb {ε α β : Type} {a : α} {p : ε → Option β} {k : α → Option β} {r : β} (h : orP (.ok a) p k = some r) : k a = some r := h
theorem Hi {ε α β : Type} {e : ε} {p : ε → Option β} {k : α → Option β} {r : β} (h : orP (.error e) p k = some r) : p e = some r := h
end Go.Idl
namespace Go.Idl
open Go Go.RowKit
variable {P : Program} {N : Nat} {tm : Tm} {H : A2}
theorem Gp {t xT : TypeId} {d : TypeDesc} {v : Value} {w : World} (hu : P.underlying t = some d) (hd : ∀ ms, d ≠ .interface ms) : (Instr.typeAssert (.iface t v) xT t true).run P w = .ok (.tuple #[v, .bool true]) w := by
 cases d <;> first | (exact absurd rfl (hd _)) | simp [Instr.typeAssert, run_underlying hu]
theorem MC {o : Oper} {K : IV → A2 → Prop} {Qp : List PanicEntry → A2 → Prop} {x : Operand} {xT T : TypeId} {d : TypeDesc} {c : IV} (ho : o.op = .typeAssert x xT T true) (hok : okO N o = true) (hx : ev tm x = .ifc T c)
    (hu : P.underlying T = some d) (hd : ∀ ms, d ≠ .interface ms) (hK : K (.tu [c, .v (.bool true)]) H) : AE P N o tm H K Qp := by
 refine Jp (i := .tu [c, .v (.bool true)]) (fun c e => by rw [ho] at e; cases e) (fun w g a r hN => ?_) hK; subst hN; simp only [okO, ho, Bool.and_eq_true, List.all_eq_true, Op.operands] at hok; have rx := r.ev (x := x) (hok.1 x (by simp)); rw [hx] at rx; generalize hz : a.eval x = z at rx; cases rx with
 | ifc _ y _ hy =>
  refine ⟨.tuple #[y, .bool true], ?_, .tu _ _ rfl ?_⟩
  ·simp [execOp, ho, hz, Gp hu hd]
  ·intro j x' c' h1 h2
   match j, h1, h2 with
   | 0, h1, h2 => simp at h1 h2; subst h1; subst h2; exact hy
   | 1, h1, h2 => simp at h1 h2; subst h1; subst h2; exact .v _
   | j + 2, h1, h2 => simp at h2
theorem MD {o : Oper} {K : IV → A2 → Prop} {Qp : List PanicEntry → A2 → Prop} {t : TypeId} {x y : Operand} {k off : Nat} (ho : o.op = .store t x y) (hok : okO N o = true) (hx : ev tm x = .p k off) (hy : ev tm y = .ag [])
    (hs : ∀ w, (sizeOf t).run P w = .ok 0 w) (hK : K (.v undef) H) : AE P N o tm H K Qp := by
 refine AY (fun c e => by rw [ho] at e; cases e) fun w g a s r hN => ?_; subst hN; simp [okO, ho, Op.operands] at hok; have rx := r.ev (x := x) hok.1.1; have ry := OL (by have := r.ev (x := y) hok.1.2; rwa [hy] at this); rw [hx] at rx; obtain ⟨b, hb⟩ := rx.Hz; refine ⟨undef, w, g, H, .v undef, .inr ⟨?_, rfl⟩, .refl w g, s, .v _, hK⟩; simp [execOp, ho, hb, ry, Instr.storeAt, Instr.sureAddr, storeVar, hs, Value.cells, storeCells]
def Hj : ResultVar → Nat
  | .tmp t => t
  | .cell a _ => a
def fy (ops : Array Oper) (rs : List ResultVar) : Bool := ops.toList.all fun o => rs.all fun r => o.dst != some (Hj r)
theorem Kr {tm' : Tm} : ∀ {rs : List ResultVar}, (∀ r, r ∈ rs → tm (Hj r) = tm' (Hj r)) → FH P H tm rs = FH P H tm' rs
  | [], _ => rfl
  | r :: rs, h => by
    have h1 : rvI P H tm r = rvI P H tm' r := by
      have := h r (by simp)
      cases r <;> simp only [Hj] at this <;> simp only [rvI, this]
    simp only [FH, h1, Kr (rs := rs) fun r hr => h r (by simp [hr])]
theorem Ie {tm' : Tm} {rs : List ResultVar} {H0 : A2} {Q : Au → A2 → Prop} (h : ∀ r, r ∈ rs → tm (Hj r) = tm' (Hj r)) : ∀ {dl : List GD} {u : FrameMode} {H : A2}, LvD P rs H0 Q tm dl u H → LvD P rs H0 Q tm' dl u H
  | [], .returning, H, ⟨s, is, h1, h2⟩ => ⟨s, is, by rw [← Kr h]; exact h1, h2⟩
  | [], .panicking _, _, hl => hl
  | [], .run, _, hl => hl
  | q :: dl, u, H, ⟨h1, h2⟩ => ⟨h1, h2.mono fun e u' H' hq => by
    cases e with
    | ret => exact Ie (dl := dl) h hq
    | pan => exact Ie (dl := dl) h hq⟩
theorem W3 {rs : List ResultVar} {H0 : A2} {Q : Au → A2 → Prop} {ops : Array Oper} {i : Nat} {oi : Oper} {x : IV} {dl : List GD} {u : FrameMode} (hc : fy ops rs = true) (ho : ops[i]? = some oi)
    (h : LvD P rs H0 Q (Bq tm oi.dst x) dl u H) : LvD P rs H0 Q tm dl u H := by
 refine Ie (fun r hr => ?_) h; have h1 := List.all_eq_true.1 hc oi (by rw [Array.mem_toList_iff]; exact Array.mem_of_getElem? ho); have h2 := List.all_eq_true.1 h1 r hr; cases hd : oi.dst with
 | none => rfl
 | some d =>
  rw [hd] at h2; have h3 : ¬ d = Hj r := by simpa using h2
  show (if Hj r = d then x else tm (Hj r)) = _; rw [if_neg (fun e => h3 e.symm)]
end Go.Idl
namespace Go.Idl
set_option maxHeartbeats 8000000
set_option maxRecDepth 60000
set_option pp.deepTerms false
open Go Go.Proofs.Tryz
theorem Rn.tuL {H J : A2} {ρ : Nat → Nat} {m : Nat} {l k : List IV} (h : RnL H J ρ m l k) : Rn H J ρ m (.tu l) (.tu k) := .tu _ _ h.len h.get
def opP {α β : Type} (x : Option α) (n : β) (s : α → β) : β :=
  match x with
  | none => n
  | some a => s a
theorem TI {α β : Type} {n : Option β} {s : α → Option β} {r : β} (h : opP none n s = some r) : n = some r := h
theorem TJ {α β : Type} {a : α} {n : Option β} {s : α → Option β} {r : β} (h : opP (some a) n s = some r) : s a = some r := h
def Gq (_ : Unit) : List PanicEntry := [{ v := .iface 187 (.agg #[]), recovered := false }]
theorem Gr {H : A2} {K : Au → A2 → Prop} {c : Bool} (hc : c = true) (hK : K (.ret (.tu [])) H) : Aa prog 136 [.v (.bool c)] H K := by
 subst hc; refine Ag (N := 6) func136 (by kernel_rfl) rfl (by kernel_rfl) (by kernel_rfl) fun cb hcb hw hbd hnb => ?_; subst hcb; refine AA _ (by kernel_rfl) _ _ _ ?_; simp -implicitDefEqProofs [go_sem]; exact AL (.refl hw) (EZ .nil) hK
theorem C8 {H : A2} {K : Au → A2 → Prop} {c : Bool} (hc : c = false) (hP : K (.pan (Gq ())) H) : Aa prog 136 [.v (.bool c)] H K := by
 subst hc; refine Ag (N := 6) func136 (by kernel_rfl) rfl (by kernel_rfl) (by kernel_rfl) fun cb hcb hw hbd hnb => ?_; subst hcb; refine AA _ (by kernel_rfl) _ _ _ ?_; simp -implicitDefEqProofs [go_sem, bdP]; refine (show AE prog 6 _ _ _ _ _ from ?_); refine NV rfl (by kernel_rfl) (t := 187) (y := .agg #[]) (by simp [go_sem, vOf]) ?_; simp -implicitDefEqProofs [go_sem]; exact .inr hP
theorem TK {H : A2} {Q : Au → FrameMode → A2 → Prop} {kd ke : Nat} (hQ : Q (.ret (.tu [])) .returning H) : BB prog 132 [.p kd 0, .p ke 0] .returning H Q := by
 refine Kq (N := 11) func132 (by kernel_rfl) rfl (by kernel_rfl) (by kernel_rfl) fun cb hcb hw => ?_; subst hcb; refine Ld fun cb hc => ?_; refine IF (by kernel_rfl) ?_; simp [Ge, go_sem, SD]; subst hc; refine HQ.of ?_; refine AA _ (by kernel_rfl) _ _ _ ?_; simp -implicitDefEqProofs [go_sem, N4]; exact AL (.refl hw) (EZ .nil) hQ
theorem NW {H : A2} {Q : Au → FrameMode → A2 → Prop} (kd ke : Nat) (cd ce : IV) (okd : H.obj kd = some (.cells [cd])) (oke : H.obj ke = some (.cells [ce])) (hd : ¬ ke = kd)
    (hQ : Q (.ret (.tu [])) (.panicking [{ v := .iface 187 (.agg #[]), recovered := true }]) ((H.set kd (.cells [.v (.slice none 0 0)])).set ke (.cells [.v (.int .i64 160)]))) :
    BB prog 132 [.p kd 0, .p ke 0] (.panicking (Gq ())) H Q := by
 refine Kq (N := 11) func132 (by kernel_rfl) rfl (by kernel_rfl) (by kernel_rfl) fun cb hcb hw => ?_; subst hcb; refine Ld fun cb hc => ?_; refine IF (by kernel_rfl) ?_; simp [Ge, go_sem, SD, Gq]; subst hc; refine HQ.of ?_; refine Ah ?_; refine A3 fun cb hc => ?_; refine AA _ (by kernel_rfl) _ _ _ ?_; simp -implicitDefEqProofs [go_sem, N4]; subst hc; refine Al (by simp [go_sem]) rfl ?_; refine A3 fun cb hc => ?_; refine AA _ (by kernel_rfl) _ _ _ ?_; simp -implicitDefEqProofs [go_sem]; refine (show AE prog 11 _ _ _ _ _ from ?_); refine MC (T := 187) (c := .ag []) rfl (by kernel_rfl) (by simp [go_sem]) underlying187 (by simp) ?_; simp -implicitDefEqProofs [go_sem]; subst hc; refine Ai (by simp [go_sem]) rfl ?_; refine A3 fun cb hc => ?_; refine Jm ?_; refine (show Jk prog 11 _ [0, 1] _ _ _ from ?_); refine Jl rfl (fun _ _ _ _ _ => rfl) (Ed (by kernel_rfl) ?_); simp -implicitDefEqProofs [go_sem]; refine Jl rfl (fun _ _ _ _ _ => rfl) ?_; refine MD rfl (by kernel_rfl) (k := H.next) (off := 0) (by simp [go_sem]) (by simp [go_sem]) (fun w => by kernel_rfl) ?_; refine M_ ?_; have hkd : ¬ kd = H.next := fun q => by rw [q, hw _ (Nat.le_refl _)] at okd; cases okd
 have hke : ¬ ke = H.next := fun q => by rw [q, hw _ (Nat.le_refl _)] at oke; cases oke
 simp -implicitDefEqProofs [go_sem]; subst hc; refine AA _ (by kernel_rfl) _ _ _ ?_; simp -implicitDefEqProofs [go_sem, okd, oke, hd, hkd, hke]; have lkd : kd < H.next := Nat.lt_of_not_le fun q => by rw [hw _ q] at okd; cases okd
 have lke : ke < H.next := Nat.lt_of_not_le fun q => by rw [hw _ q] at oke; cases oke
 have hd' : ¬ kd = ke := fun q => hd q.symm; refine AX (J := BE H [(kd, .cells [.v (.slice none 0 0)]), (ke, .cells [.v (.int .i64 160)])]) (BZ.ioL _ ?_ ?_) (.same (EZ .nil)) hQ
 ·simp only [BD, BT]; exact EK (Ext.AW (Ext.AW (Ext.refl hw) kd) ke)
 ·intro p hp; simp only [List.mem_cons, List.not_mem_nil, or_false] at hp; rcases hp with hp | hp <;> subst hp
  ·exact ⟨lkd, by simp [go_sem, hd', hkd], CT⟩
  ·exact ⟨lke, by simp [go_sem], CT⟩
end Go.Idl
namespace Go.Idl
open Go Go.RowKit Go.Proofs Go.Shelf
variable {P : Program} {H : A2} {K : Au → A2 → Prop}
theorem NX (w : World) (o : Obj) : Below w.heap.size w (w.alloc o) := by
 refine ⟨rfl, rfl, rfl, ?_, fun i hi => ?_⟩
 ·show w.heap.size ≤ (w.heap.push o).size; simp
 ·show (w.heap.push o)[i]? = w.heap[i]?; rw [Array.getElem?_push]; split
  ·omega
  ·rfl
theorem Pb (w : World) (xs : Array Value) (t : TypeId) (i : Nat) : World.cell? (w.alloc (.cells xs t)) ⟨w.heap.size, i, none⟩ = xs[i]? := by
 have h : (w.alloc (.cells xs t)).heap[w.heap.size]? = some (.cells xs t) := by
  show (w.heap.push (.cells xs t))[w.heap.size]? = _; simp
 unfold World.cell?; rw [h]; simp [Addr.spot]
theorem KW {ρ : Go.Shelf.Ren} {f : FuncId} (Ly : Lays.n147 P ρ) (hf : ρ.f 147 = f) (hi9 : (P.info? (ρ.t 9)).map (fun i => (i.zero, i.size, i.bytes)) = some (some (.string ByteArray.empty), 1, 16))
    (hg : P.globalNamed "internal/bytealg.MaxLen" = some (ρ.g 1)) (hb : Bj P f = true) (hV : VOK P H) (s t : List UInt8) (n : Nat) (hs : s.length < 4294967281) (ht : 1 ≤ t.length) (hn : 1 ≤ n) (hn63 : n ≤ 1000000)
    (hK : K (.ret (.sl 1 ((Lib.splitN s t n).map fun x => [.v (str x)]))) H) : Aa P f [.v (str s), .v (str t), .v (.int .i64 n)] H K := by
 refine ⟨hb, fun w g vs sm rl => ?_⟩; obtain ⟨x, y, z, rfl, hx, hy, hz⟩ : ∃ x y z, vs = #[x, y, z] ∧ R w g x (.v (str s)) ∧ R w g y (.v (str t)) ∧ R w g z (.v (.int .i64 n)) := by
  obtain ⟨l1, l2⟩ := rl; obtain ⟨vs⟩ := vs
  match vs, l1 with
  | [x, y, z], _ => exact ⟨x, y, z, rfl, l2 0 _ _ rfl rfl, l2 1 _ _ rfl rfl, l2 2 _ _ rfl rfl⟩
 rw [hx.v_eq, hy.v_eq, hz.v_eq, ← hf]; obtain ⟨b1, b2, b3, b4, t2, t3, p2, p3, x4, m4, q1, q2, q3, q5, q6, q4⟩ := hV; obtain ⟨el4, fz4, hc4⟩ := F0 sm q4 (i := 3) rfl; have e4 : b4 = ρ.g 1 := by rw [hg] at q5; exact (Option.some.inj q5).symm
 subst e4; have hm : w.cell? ⟨ρ.g 1, 0, none⟩ = some (.int .i64 m4) := by simp only [World.cell?, hc4]; exact q6
 refine (Any.strings_SplitN Ly hi9 ⟨s.toArray⟩ ⟨t.toArray⟩ n m4 w (by show s.toArray.size < _; simpa using hs) hm (by show 1 ≤ t.toArray.size; simpa using ht) hn (by omega)).mono ?_
 rintro e w' ⟨rfl, rfl⟩
 generalize hM : min n ((ByteArray.mk s.toArray).size + 1) = M; have hM' : min n (s.length + 1) = M := by rw [← hM]; rfl
 have hMn : M ≤ n := by omega
 have hM1 : 1 ≤ M := by omega
 generalize hL : Lib.splitB (ByteArray.mk t.toArray) 0 (M - 1) (ByteArray.mk s.toArray) = L; have hlen : L.length ≤ M := by
  have := Lib.splitB_length_le (ByteArray.mk t.toArray) 0 (M - 1) (ByteArray.mk s.toArray); rw [hL] at this; omega
 have hdata : Lib.splitN s t n = L.map (·.data.toList) := by
  have := Lib.splitB_data (ByteArray.mk t.toArray) 0 (M - 1) (ByteArray.mk s.toArray); rw [hL] at this; rw [this, Lib.splitN, hM']
 rw [hdata] at hK; have hB := NX w (.cells (Lib.cellsOf L M) (ρ.t 9)); refine ⟨_, g, H, .B9 hB, sm.B9 hB, .ret _ _ ?_, hK⟩; have hll : (List.map (fun x => [IV.v (str x)]) (L.map (·.data.toList))).length = L.length := by simp
 rw [← hll]; refine .sl w.heap.size 0 M 1 _ (fun i j => (Lib.cellsOf L M)[i]?.getD undef) (fun ho => ?_) ?_ ?_ ?_ ?_ ?_ ?_ ?_
 ·exact sm.fresh (Nat.le_refl _) ho
 ·show w.heap.size < (w.heap.push _).size; simp
 ·have : L.length ≤ 1000000 := by omega
  have h2 : 1000000 ≤ Cf := by decide
  simp only [List.length_map]; omega
 ·simpa using hlen
 ·intro e he; simp only [List.map_map, List.mem_map] at he; obtain ⟨_, _, rfl⟩ := he; rfl
 all_goals
  intro i e j c h1 h2; rw [List.getElem?_map, List.getElem?_map] at h1; cases hi : L[i]? with
  | none => rw [hi] at h1; cases h1
  | some b =>
   rw [hi] at h1; simp only [Option.map_some, Option.some.injEq] at h1; subst h1; have hil := (List.getElem?_eq_some_iff.1 hi).1; have hcell : (Lib.cellsOf L M)[i]? = some (.string b) := by
    simp only [Lib.cellsOf, List.getElem?_toArray]; rw [List.getElem?_append_left (by simpa using hil), List.getElem?_map, hi]; rfl
   cases j with
   | succ j => simp at h2
   | zero =>
    simp only [List.getElem?_cons_zero, Option.some.injEq] at h2; subst h2
    first
     | (show World.cell? (w.alloc _) ⟨w.heap.size, 0 + i * 1 + 0, none⟩ = _
        have e1 : 0 + i * 1 + 0 = i := by omega
        rw [e1]
        rw [hcell]
        exact (Pb w _ _ i).trans hcell)
     | (rw [hcell]; rfl)
     | (rw [hcell]
        exact .v _)
end Go.Idl
namespace Go.Idl
open Go Go.Proofs.Tryz Go.RowKit Go.Proofs Go.Shelf
variable {H : A2} {K : Au → A2 → Prop}
@[go_sem] theorem jg {b : Bool} {t : TypeId} : N4 prog .neq 146 (Me t b) = some (True, .v (.bool b)) := R3 underlying146 rfl
noncomputable def F65 (s t : List UInt8) : Option (List UInt8 × List UInt8 × Bool) := gd ((s.length : Int) < 4294967281) (some (Lib.cut s t))
theorem TL (s t : List UInt8) (hV : VOK prog H) {r : List UInt8 × List UInt8 × Bool} (h : F65 s t = some r) (hK : K (.ret (.tu [.v (str r.1), .v (str r.2.1), .v (.bool r.2.2)])) H) : Aa prog 65 [.v (str s), .v (str t)] H K := by
 obtain ⟨h0, h⟩ := Ad.1 h; cases h; exact OV Go.Proofs.Tryz.VE rfl (by kernel_rfl) (by kernel_rfl) hV s t (by omega) hK
noncomputable def Zl (s : List UInt8) : Option (Int × Bool) := gd ((s.length : Int) ≤ 281474976710656) (some (CL s))
theorem W4 (s : List UInt8) (hV : VOK prog H) {r : Int × Bool} (h : Zl s = some r) (hK : K (.ret (.tu [.v (.int .i64 r.1), Me 238 r.2])) H) : Aa prog 141 [.v (str s)] H K := by
 obtain ⟨h0, h⟩ := Ad.1 h; cases h; exact NF Go.Proofs.Tryz.SU rfl rfl (by kernel_rfl) hV s (by omega) hK
noncomputable def F98 (s t : List UInt8) (n : Int) : Option (List (List UInt8)) := gd ((s.length : Int) < 4294967281) (gd (1 ≤ (t.length : Int)) (gd (1 ≤ n ∧ n ≤ 1000000) (some (Lib.splitN s t n.toNat))))
theorem Zm (s t : List UInt8) (n : Int) (hV : VOK prog H) {r : List (List UInt8)} (h : F98 s t n = some r) (hK : K (.ret (.sl 1 (r.map fun x => [.v (str x)]))) H) : Aa prog 98 [.v (str s), .v (str t), .v (.int .i64 n)] H K := by
 obtain ⟨h0, h⟩ := Ad.1 h; obtain ⟨h1, h⟩ := Ad.1 h; obtain ⟨h2, h⟩ := Ad.1 h; cases h; obtain ⟨m, rfl⟩ : ∃ m : Nat, n = (m : Int) := ⟨n.toNat, by omega⟩; exact KW Go.Proofs.Tryz.VD rfl (by kernel_rfl) (by kernel_rfl) (by kernel_rfl) hV s t m (by omega) (by omega) (by omega) (by omega) hK
end Go.Idl
namespace Go.Idl
set_option maxHeartbeats 8000000
set_option pp.deepTerms false
set_option maxRecDepth 60000
open Go Go.Proofs.Tryz
structure Pc where
 fs : List UInt8
deriving DecidableEq
def Pc.zero : Pc := ⟨[]⟩
structure Bv where
 Ax : Pc
 Bh : Bool
deriving DecidableEq
def Bv.zero : Bv := ⟨Pc.zero, false⟩
noncomputable def Re (a0 : Bv) (a1 : Int) : Option ((List UInt8) × Bv) :=
 gd (0 ≤ a1 ∧ a1 ≤ 255) ((F65 a0.Ax.fs ([UInt8.ofNat a1.toNat])).bind fun (x4 : (List UInt8) × (List UInt8) × Bool) => if a0.Bh = true then (some ((x4.1, (⟨(⟨x4.2.1⟩ : Pc), true⟩ : Bv)))) else (some ((x4.1, (⟨(⟨x4.2.1⟩ : Pc), !x4.2.2⟩ : Bv)))))
theorem ME {H : A2} {K : Au → A2 → Prop} (a0 : Bv) (a1 : Int) (ka0 : Nat) (Ar : H.obj ka0 = some (.cells ([.v (str a0.Ax.fs), .v (.bool a0.Bh)]))) (hV : VOK prog H) {r : (List UInt8) × Bv} (h : Re a0 a1 = some r) (hK : K (.ret (.v (str r.1))) (BE H [(ka0, .cells ([.v (str r.2.Ax.fs), .v (.bool r.2.Bh)]))])) : Aa prog 103 [.p ka0 0, .v (.int .u8 a1)] H K := by
 refine Ag (N := 38) func103 (by kernel_rfl) rfl (by kernel_rfl) (by kernel_rfl) fun cb hcb hw hbd hnb => ?_; clear hbd hnb; subst hcb; unfold Re at h; have DZ : ka0 < H.next := Nat.lt_of_not_le fun q => by rw [hw _ q] at Ar; cases Ar
 refine wG ?_; refine A3 fun cb hc2 => ?_; refine AB [8] [0, 1, 2, 3, 4, 5, 6, 7, 8, 9, 10, 11, 12, 13, 14, 15] (by kernel_rfl) (by kernel_rfl) (fun _ _ _ _ h => h) ?_; obtain ⟨g3, h⟩ := Ad.1 h; refine sF Ar ?_; obtain ⟨x4, hx4, h⟩ := A4 h; refine BS.mkT (fun H0 => VOK prog H0) _ (by exact hV.of rfl) (fun H0 K0 hT hK => TL a0.Ax.fs ([UInt8.ofNat a1.toNat]) hT hx4 hK) ?_; refine sG ?_; subst hc2; refine A3 fun cb hc5 => ?_; refine vF Ar ?_; refine A6 h eA ?_ ?_
 ·intro c8 h; refine sF Ar ?_; subst hc5; refine wG ?_; refine vO ?_; obtain rfl := sI h; refine sG ?_; refine Aq (r' := .v (str x4.1)) (io1 ka0 (.cells ([.v (str x4.2.1), .v (.bool true)])) (by exact As (Ext.AW (Ext.refl hw) ka0)) (by omega) (by simp -implicitDefEqProofs (disch := omega) [go_sem]) (by exact Bz)) rfl (.same (by exact nbA)) hK
 intro c8 h; simp (disch := omega) at c8; refine sF Ar ?_; subst hc5; refine wG ?_; refine vO ?_; obtain rfl := sI h; refine sG ?_; refine Aq (r' := .v (str x4.1)) (io1 ka0 (.cells ([.v (str x4.2.1), .v (.bool (!x4.2.2))])) (by exact As (Ext.AW (Ext.refl hw) ka0)) (by omega) (by simp -implicitDefEqProofs (disch := omega) [go_sem]) (by exact Bz)) rfl (.same (by exact nbA)) hK
noncomputable def Rf (a0 : Bv) (a1 : List UInt8) (a2 : Int) : Option (Int × Bv) :=
 (Zl a1).bind fun (x3 : Int × Bool) => if x3.2 = true then (some ((0, (⟨a0.Ax, true⟩ : Bv)))) else (if x3.1 < 1 then (some ((0, (⟨a0.Ax, true⟩ : Bv)))) else (if a2 < x3.1 then (some ((0, (⟨a0.Ax, true⟩ : Bv)))) else ((F95 x3.1).bind fun (x12 : (List UInt8)) => if ¬ x12 = a1 then (some ((0, (⟨a0.Ax, true⟩ : Bv)))) else (some (x3.1, a0)))))
theorem Q1 {H : A2} {K : Au → A2 → Prop} (a0 : Bv) (a1 : List UInt8) (a2 : Int) (ka0 : Nat) (Ar : H.obj ka0 = some (.cells ([.v (str a0.Ax.fs), .v (.bool a0.Bh)]))) (hV : VOK prog H) {r : Int × Bv} (h : Rf a0 a1 a2 = some r) (hK : K (.ret (.v (.int .i64 r.1))) (BE H [(ka0, .cells ([.v (str r.2.Ax.fs), .v (.bool r.2.Bh)]))])) : Aa prog 104 [.p ka0 0, .v (str a1), .v (.int .i64 a2)] H K := by
 refine Ag (N := 35) func104 (by kernel_rfl) rfl (by kernel_rfl) (by kernel_rfl) fun cb hcb hw hbd hnb => ?_; clear hbd hnb; subst hcb; unfold Rf at h; have DZ : ka0 < H.next := Nat.lt_of_not_le fun q => by rw [hw _ q] at Ar; cases Ar
 refine wG ?_; refine A3 fun cb hc2 => ?_; refine vG ?_; obtain ⟨x3, hx3, h⟩ := A4 h; refine W4 a1 (by exact hV.of rfl) hx3 ?_; refine sG ?_; subst hc2; refine A3 fun cb hc4 => ?_; refine A3 fun cb hc5 => ?_; refine vG ?_; refine A6 h eA ?_ ?_
 ·intro c19 h; refine sG ?_; subst hc5; refine Ai eA rfl ?_; refine wF Ar ?_; refine wG ?_; refine vO ?_; obtain rfl := sI h; refine sG ?_; refine Aq (r' := .v (.int .i64 0)) (io1 ka0 (.cells ([.v (str a0.Ax.fs), .v (.bool true)])) (by exact As (Ext.AW (Ext.refl hw) ka0)) (by omega) (by simp -implicitDefEqProofs (disch := omega) [go_sem]) (by exact Bz)) rfl (.same (by exact nbA)) hK
 intro c19 h; simp (disch := omega) at c19; refine sG ?_; refine A6 h rfl ?_ ?_
 ·intro c18 h; refine sG ?_; subst hc5; refine Ai eA rfl ?_; refine wF Ar ?_; refine wG ?_; refine vO ?_; obtain rfl := sI h; refine sG ?_; refine Aq (r' := .v (.int .i64 0)) (io1 ka0 (.cells ([.v (str a0.Ax.fs), .v (.bool true)])) (by exact As (Ext.AW (Ext.refl hw) ka0)) (by omega) (by simp -implicitDefEqProofs (disch := omega) [go_sem]) (by exact Bz)) rfl (.same (by exact nbA)) hK
 intro c18 h; simp (disch := omega) at c18; refine sG ?_; refine A6 h rfl ?_ ?_
 ·intro c17 h; refine sG ?_; subst hc5; refine Ai eA rfl ?_; refine wF Ar ?_; refine wG ?_; refine vO ?_; obtain rfl := sI h; refine sG ?_; refine Aq (r' := .v (.int .i64 0)) (io1 ka0 (.cells ([.v (str a0.Ax.fs), .v (.bool true)])) (by exact As (Ext.AW (Ext.refl hw) ka0)) (by omega) (by simp -implicitDefEqProofs (disch := omega) [go_sem]) (by exact Bz)) rfl (.same (by exact nbA)) hK
 intro c17 h; simp (disch := omega) at c17; refine sG ?_; obtain ⟨x12, hx12, h⟩ := A4 h; refine T4 x3.1 (by exact (VOK.of hV rfl).tok) hx12 ?_; refine sG ?_; subst hc5; refine A8 h eA rfl ?_ ?_
 ·intro c13 h; refine wF Ar ?_; refine wG ?_; refine vO ?_; obtain rfl := sI h; refine sG ?_; refine Aq (r' := .v (.int .i64 0)) (io1 ka0 (.cells ([.v (str a0.Ax.fs), .v (.bool true)])) (by exact As (Ext.AW (Ext.refl hw) ka0)) (by omega) (by simp -implicitDefEqProofs (disch := omega) [go_sem]) (by exact Bz)) rfl (.same (by exact nbA)) hK
 intro c13 h; simp (disch := omega) at c13; refine vO ?_; subst hc4; refine wG ?_; refine vO ?_; obtain rfl := sI h; refine sG ?_; refine Aq (r' := .v (.int .i64 x3.1)) (io1 ka0 (.cells ([.v (str a0.Ax.fs), .v (.bool a0.Bh)])) (by exact As (Ext.AW (Ext.refl hw) ka0)) (by omega) (by with_reducible assumption) (by exact Bz)) rfl (.same (by exact nbA)) hK
noncomputable def W5 (a0 : Bv) : Option ((List UInt8) × Bv) :=
 (Re a0 32).bind fun (x3 : (List UInt8) × Bv) => (Rf x3.2 x3.1 200).bind fun (x4 : Int × Bv) => if x4.2.Bh = true then (some (([], (⟨x4.2.Ax, true⟩ : Bv)))) else (if (x4.2.Ax.fs.length : Int) ≤ x4.1 then (some (([], (⟨x4.2.Ax, true⟩ : Bv)))) else (gd (0 ≤ x4.1 ∧ x4.1 < x4.2.Ax.fs.length) (if ¬ (((x4.2.Ax.fs.getD x4.1.toNat 0).toNat : Int)) = 10 then (some (([], (⟨x4.2.Ax, true⟩ : Bv)))) else (gd (0 ≤ x4.1) (gd (x4.1 ≤ x4.2.Ax.fs.length) (gd (0 ≤ (IntKind.i64.wrap (x4.1 + 1))) (gd (IntKind.i64.wrap (x4.1 + 1) ≤ x4.2.Ax.fs.length) (some (((x4.2.Ax.fs.take x4.1.toNat), (⟨(⟨x4.2.Ax.fs.drop (IntKind.i64.wrap (x4.1 + 1)).toNat⟩ : Pc), x4.2.Bh⟩ : Bv)))))))))))
theorem CF {H : A2} {K : Au → A2 → Prop} (a0 : Bv) (ka0 : Nat) (Ar : H.obj ka0 = some (.cells ([.v (str a0.Ax.fs), .v (.bool a0.Bh)]))) (hV : VOK prog H) {r : (List UInt8) × Bv} (h : W5 a0 = some r) (hK : K (.ret (.v (str r.1))) (BE H [(ka0, .cells ([.v (str r.2.Ax.fs), .v (.bool r.2.Bh)]))])) : Aa prog 105 [.p ka0 0] H K := by
 refine Ag (N := 56) func105 (by kernel_rfl) rfl (by kernel_rfl) (by kernel_rfl) fun cb hcb hw hbd hnb => ?_; clear hbd hnb; subst hcb; unfold W5 at h; have DZ : ka0 < H.next := Nat.lt_of_not_le fun q => by rw [hw _ q] at Ar; cases Ar
 refine A3 fun cb hc1 => ?_; refine vcK ?_
 try simp -implicitDefEqProofs (disch := omega) [go_sem, Ar]
 subst hc1; refine A3 fun cb hc2 => ?_; refine vcK ?_
 try simp -implicitDefEqProofs (disch := omega) [go_sem, Ar]
 obtain ⟨x3, hx3, h⟩ := A4 h; refine Aa.eqA (args' := [.p ka0 0, .v (.int .u8 32)]) (by first | with_reducible rfl | (simp -implicitDefEqProofs (disch := omega) [go_sem, Ar] <;> omega)) (ME a0 32 ka0 (by first | with_reducible assumption | simp -implicitDefEqProofs (disch := omega) [go_sem, Ar]) (by first | exact hV.of rfl | exact hV.of ((Ext.AW (Ext.refl hw) ka0)).sn | exact hV.of (Ext.sn (H := H) (by exact As (Ext.AW (Ext.refl hw) ka0))) | exact (VOK.of hV rfl).tok | exact (VOK.of hV ((Ext.AW (Ext.refl hw) ka0)).sn).tok | exact (VOK.of hV (Ext.sn (H := H) (by exact As (Ext.AW (Ext.refl hw) ka0)))).tok) hx3 ?_)
 try simp -implicitDefEqProofs (disch := omega) [go_sem, Ar]
 obtain ⟨x4, hx4, h⟩ := A4 h; refine Aa.eqA (args' := [.p ka0 0, .v (str x3.1), .v (.int .i64 200)]) (by first | with_reducible rfl | (simp -implicitDefEqProofs (disch := omega) [go_sem, Ar] <;> omega)) (Q1 x3.2 x3.1 200 ka0 (by first | with_reducible assumption | simp -implicitDefEqProofs (disch := omega) [go_sem, Ar]) (by first | exact hV.of rfl | exact hV.of ((Ext.AW (Ext.refl hw) ka0)).sn | exact hV.of (Ext.sn (H := H) (by exact As (Ext.AW (Ext.refl hw) ka0))) | exact (VOK.of hV rfl).tok | exact (VOK.of hV ((Ext.AW (Ext.refl hw) ka0)).sn).tok | exact (VOK.of hV (Ext.sn (H := H) (by exact As (Ext.AW (Ext.refl hw) ka0)))).tok) hx4 ?_)
 try simp -implicitDefEqProofs (disch := omega) [go_sem, Ar]
 subst hc2; refine A3 fun cb hc5 => ?_; refine A3 fun cb hc6 => ?_; refine vcK ?_
 try simp -implicitDefEqProofs (disch := omega) [go_sem, Ar]
 refine A6 h (by first | with_reducible rfl | (simp -implicitDefEqProofs (disch := omega) [go_sem, Ar] <;> omega)) ?_ ?_
 ·intro c23 h
  try simp (disch := omega) at c23
  try simp -implicitDefEqProofs (disch := omega) [go_sem, Ar]
  subst hc6; refine Ai (by first | with_reducible rfl | (simp -implicitDefEqProofs (disch := omega) [go_sem, Ar] <;> omega)) rfl ?_; refine A3 fun cb hc7 => ?_; refine vcK ?_
  try simp -implicitDefEqProofs (disch := omega) [go_sem, Ar]
  subst hc7; refine A3 fun cb hc8 => ?_; refine vcK ?_
  try simp -implicitDefEqProofs (disch := omega) [go_sem, Ar]
  subst hc8; refine vcK ?_; simp -implicitDefEqProofs only [go_sem]; have er := Option.some.inj h; subst er
  try simp -implicitDefEqProofs (disch := omega) [go_sem, Ar]
  refine Aq (r' := .v (str [])) (io1 ka0 (.cells ([.v (str x4.2.Ax.fs), .v (.bool true)])) (by exact As (Ext.AW (Ext.refl hw) ka0)) (by omega) (by first | with_reducible assumption | rfl | simp -implicitDefEqProofs (disch := omega) [go_sem, Ar]) (by first | exact nbA | exact Bz | exact CT)) (by first | with_reducible rfl | (simp -implicitDefEqProofs (disch := omega) [go_sem, Ar] <;> omega)) (.same (by first | exact nbA | exact Bz | exact CT)) hK
 ·intro c23 h
  try simp (disch := omega) at c23
  try simp -implicitDefEqProofs (disch := omega) [go_sem, Ar]
  refine A6 h (by first | with_reducible rfl | (simp -implicitDefEqProofs (disch := omega) [go_sem, Ar] <;> omega)) ?_ ?_
  ·intro c22 h
   try simp (disch := omega) at c22
   try simp -implicitDefEqProofs (disch := omega) [go_sem, Ar]
   subst hc6; refine Ai (by first | with_reducible rfl | (simp -implicitDefEqProofs (disch := omega) [go_sem, Ar] <;> omega)) rfl ?_; refine A3 fun cb hc9 => ?_; refine vcK ?_
   try simp -implicitDefEqProofs (disch := omega) [go_sem, Ar]
   subst hc9; refine A3 fun cb hc10 => ?_; refine vcK ?_
   try simp -implicitDefEqProofs (disch := omega) [go_sem, Ar]
   subst hc10; refine vcK ?_; simp -implicitDefEqProofs only [go_sem]; have er := Option.some.inj h; subst er
   try simp -implicitDefEqProofs (disch := omega) [go_sem, Ar]
   refine Aq (r' := .v (str [])) (io1 ka0 (.cells ([.v (str x4.2.Ax.fs), .v (.bool true)])) (by exact As (Ext.AW (Ext.refl hw) ka0)) (by omega) (by first | with_reducible assumption | rfl | simp -implicitDefEqProofs (disch := omega) [go_sem, Ar]) (by first | exact nbA | exact Bz | exact CT)) (by first | with_reducible rfl | (simp -implicitDefEqProofs (disch := omega) [go_sem, Ar] <;> omega)) (.same (by first | exact nbA | exact Bz | exact CT)) hK
  ·intro c22 h
   try simp (disch := omega) at c22
   obtain ⟨g11, h⟩ := Ad.1 h
   try simp (disch := omega) at g11
   try simp -implicitDefEqProofs (disch := omega) [go_sem, Ar]
   subst hc6; refine A8 h (by first | with_reducible rfl | (simp -implicitDefEqProofs (disch := omega) [go_sem, Ar] <;> omega)) rfl ?_ ?_
   ·intro c12 h
    try simp (disch := omega) at c12
    refine A3 fun cb hc13 => ?_; refine vcK ?_
    try simp -implicitDefEqProofs (disch := omega) [go_sem, Ar]
    subst hc13; refine A3 fun cb hc14 => ?_; refine vcK ?_
    try simp -implicitDefEqProofs (disch := omega) [go_sem, Ar]
    subst hc14; refine vcK ?_; simp -implicitDefEqProofs only [go_sem]; have er := Option.some.inj h; subst er
    try simp -implicitDefEqProofs (disch := omega) [go_sem, Ar]
    refine Aq (r' := .v (str [])) (io1 ka0 (.cells ([.v (str x4.2.Ax.fs), .v (.bool true)])) (by exact As (Ext.AW (Ext.refl hw) ka0)) (by omega) (by first | with_reducible assumption | rfl | simp -implicitDefEqProofs (disch := omega) [go_sem, Ar]) (by first | exact nbA | exact Bz | exact CT)) (by first | with_reducible rfl | (simp -implicitDefEqProofs (disch := omega) [go_sem, Ar] <;> omega)) (.same (by first | exact nbA | exact Bz | exact CT)) hK
   ·intro c12 h
    try simp (disch := omega) at c12
    refine vcK ?_; simp -implicitDefEqProofs only [go_sem]; subst hc5; refine A3 fun cb hc15 => ?_; refine vcK ?_; obtain ⟨g16, h⟩ := Ad.1 h
    try simp (disch := omega) at g16
    obtain ⟨g17, h⟩ := Ad.1 h
    try simp (disch := omega) at g17
    try simp -implicitDefEqProofs (disch := omega) [go_sem, Ar]
    subst hc15; refine A3 fun cb hc18 => ?_; refine vcK ?_; obtain ⟨g19, h⟩ := Ad.1 h
    try simp (disch := omega) at g19
    obtain ⟨g20, h⟩ := Ad.1 h
    try simp (disch := omega) at g20
    try simp -implicitDefEqProofs (disch := omega) [go_sem] at g19
    try simp -implicitDefEqProofs (disch := omega) [go_sem] at g20
    try simp -implicitDefEqProofs (disch := omega) [go_sem, Ar]
    subst hc18; refine A3 fun cb hc21 => ?_; refine vcK ?_
    try simp -implicitDefEqProofs (disch := omega) [go_sem, Ar]
    subst hc21; refine vcK ?_; simp -implicitDefEqProofs only [go_sem]; have er := Option.some.inj h; subst er
    try simp -implicitDefEqProofs (disch := omega) [go_sem, Ar]
    refine Aq (r' := .v (str (x4.2.Ax.fs.take x4.1.toNat))) (io1 ka0 (.cells ([.v (str (x4.2.Ax.fs.drop (IntKind.i64.wrap (x4.1 + 1)).toNat)), .v (.bool x4.2.Bh)])) (by exact As (Ext.AW (Ext.refl hw) ka0)) (by omega) (by first | with_reducible assumption | rfl | simp -implicitDefEqProofs (disch := omega) [go_sem, Ar]) (by first | exact nbA | exact Bz | exact CT)) (by first | with_reducible rfl | (simp -implicitDefEqProofs (disch := omega) [go_sem, Ar] <;> omega)) (.same (by first | exact nbA | exact Bz | exact CT)) hK
noncomputable def MF  : Option ((List UInt8) × (List UInt8) × Bool) :=
 some ([], [], false)
noncomputable def Eo (a0 : List UInt8) (a1 : Int) (v5 : Int) : Option (Int ⊕ (Unit ⊕ ((List UInt8) × (List UInt8) × Bool))) :=
 if v5 < (a0.length : Int) then (gd (0 ≤ v5 ∧ v5 < a0.length) (if (((a0.getD v5.toNat 0).toNat : Int)) = a1 then (gd (0 ≤ v5) (gd (v5 ≤ a0.length) (gd (0 ≤ (IntKind.i64.wrap (v5 + 1))) (gd (IntKind.i64.wrap (v5 + 1) ≤ a0.length) (some (.inr (.inr (((a0.take v5.toNat), a0.drop (IntKind.i64.wrap (v5 + 1)).toNat, true))))))))) else (some (.inl (IntKind.i64.wrap (v5 + 1)))))) else (some (.inr (.inl ())))
noncomputable def TM (a0 : List UInt8) (a1 : Int) : Option ((List UInt8) × (List UInt8) × Bool) :=
 (AD (fun (s : Int) => Eo a0 a1 s) 0).bind fun y => Sum.elim (fun (e : Unit) => MF) (fun (q : (List UInt8) × (List UInt8) × Bool) => some q) y
theorem MG {H : A2} {K : Au → A2 → Prop} (a0 : List UInt8) (a1 : Int) {r : (List UInt8) × (List UInt8) × Bool} (h : TM a0 a1 = some r) (hK : K (.ret (.tu [.v (str r.1), .v (str r.2.1), .v (.bool r.2.2)])) H) : Aa prog 109 [.v (str a0), .v (.int .u8 a1)] H K := by
 refine Ag (N := 26) func109 (by kernel_rfl) rfl (by kernel_rfl) (by kernel_rfl) fun cb hcb hw hbd hnb => ?_; clear hbd hnb; subst hcb; unfold TM at h; refine wG ?_; refine A3 fun cb hc2 => ?_; refine wG ?_; obtain ⟨y4, hl4q, hk4⟩ := A4 h; refine AF (fun tm' H' => .inl () = y4 ∧ H = H') ?_ fun cb hc4 => ?_
 ·rintro tm4e H4e ⟨rfl, rfl⟩
  have h : MF = some r := hk4; unfold MF at h; simp -implicitDefEqProofs only [go_sem]; subst hc2; refine wG ?_; refine vO ?_; obtain rfl := sI h; refine sG ?_; exact Ap (.refl hw) hK
 refine Ah ?_; refine Az (fun (s : Int) tm' H' => H = H' ∧ tm' 0 = .v (str a0) ∧ tm' 1 = .v (.int .u8 a1) ∧ tm' 7 = .v (.int .i64 s)) hl4q ?_ ?_
 ·exact sm
 rintro I4 hI4 v5 x4 tm4 H4 ⟨rfl, B4, F2, KT⟩ h hret4
 replace h : Eo a0 a1 v5 = some x4 := h; unfold Eo at h; refine A3 fun cb hc7 => ?_; refine wF (nd B4 KT) ?_; refine A8 h eA rfl ?_ ?_
 ·intro c9 h; refine vO ?_; subst hc7; refine A3 fun cb hc10 => ?_; refine Ah ?_; obtain ⟨g12, h⟩ := Ad.1 h; refine wF (nd B4 (nd F2 KT)) ?_; refine A8 h eA rfl ?_ ?_
  ·intro c13 h; simp (disch := omega) at c13; refine A3 fun cb hc14 => ?_; refine AB [] [0, 1, 2, 3, 4, 5, 6, 7, 8, 9] (by kernel_rfl) (by kernel_rfl) (fun _ _ _ _ h => h) ?_; obtain ⟨g15, h⟩ := Ad.1 h; obtain ⟨g16, h⟩ := Ad.1 h; obtain ⟨g17, h⟩ := Ad.1 h; obtain ⟨g18, h⟩ := Ad.1 h; refine sF (nd B4 KT) ?_; subst hc14; refine vO ?_; obtain rfl := sI h; obtain rfl := hret4 _ rfl; replace h : some (((a0.take v5.toNat), a0.drop (IntKind.i64.wrap (v5 + 1)).toNat, true)) = some r := hk4; obtain rfl := sI h; refine sG ?_; exact Ap (.refl hw) hK
  intro c13 h; simp (disch := omega) at c13; refine vO ?_; subst hc10; refine vF KT ?_; obtain rfl := sI h; refine Aj hI4 (IntKind.i64.wrap (v5 + 1)) ?_; exact smF (nd B4 F2)
 intro c9 h; simp (disch := omega) at c9; refine vO ?_; obtain rfl := sI h; have hy4 := hret4 _ rfl; refine hc4 _ _ ?_; refine .same ⟨hy4, rfl⟩
noncomputable def Fy (v4 : Int) (v5 : List UInt8) : Option ((Int × (List UInt8)) ⊕ (List UInt8)) :=
 gd (0 ≤ (IntKind.u8.wrap (IntKind.i64.wrap (48 + (v4.tmod 10)))) ∧ (IntKind.u8.wrap (IntKind.i64.wrap (48 + (v4.tmod 10)))) ≤ 255) (gd ((([UInt8.ofNat (IntKind.u8.wrap (IntKind.i64.wrap (48 + (v4.tmod 10)))).toNat]).length : Int) + v5.length ≤ 9223372036854775807) (if (IntKind.i64.wrap (v4.tdiv 10)) = 0 then (some (.inr (([UInt8.ofNat (IntKind.u8.wrap (IntKind.i64.wrap (48 + (v4.tmod 10)))).toNat]) ++ v5))) else (some (.inl ((IntKind.i64.wrap (v4.tdiv 10), ([UInt8.ofNat (IntKind.u8.wrap (IntKind.i64.wrap (48 + (v4.tmod 10)))).toNat]) ++ v5))))))
noncomputable def TN (a0 : Int) : Option (List UInt8) :=
 (AD (fun (s : Int × (List UInt8)) => Fy s.1 s.2) (a0, [])).bind fun (q : (List UInt8)) => some q
theorem W6 {H : A2} {K : Au → A2 → Prop} (a0 : Int) {r : (List UInt8)} (h : TN a0 = some r) (hK : K (.ret (.v (str r))) H) : Aa prog 112 [.v (.int .i64 a0)] H K := by
 refine Ag (N := 17) func112 (by kernel_rfl) rfl (by kernel_rfl) (by kernel_rfl) fun cb hcb hw hbd hnb => ?_; clear hbd hnb; subst hcb; unfold TN at h; refine wG ?_; refine wG ?_; obtain ⟨y3, hl3q, hk3⟩ := A4 h; refine Ah ?_; refine Az (fun (s : Int × (List UInt8)) tm' H' => H = H' ∧ tm' 0 = .v (.int .i64 s.1) ∧ tm' 3 = .v (str s.2)) hl3q ?_ ?_
 ·exact sm
 rintro I3 hI3 ⟨v4, v5⟩ x3 tm3 H3 ⟨rfl, GY, VW⟩ h hret3
 replace h : Fy v4 v5 = some x3 := h; unfold Fy at h; refine Ah ?_; refine A3 fun cb hc6 => ?_; obtain ⟨g7, h⟩ := Ad.1 h; obtain ⟨g8, h⟩ := gS h; refine v0 ?_; simp -implicitDefEqProofs (disch := omega) [go_sem] at g7; refine sF (nd GY VW) ?_; subst hc6; refine wF GY ?_; refine wG ?_; refine A8 h eA rfl ?_ ?_
 ·intro c11 h; refine wG ?_; refine vO ?_; obtain rfl := sI h; obtain rfl := hret3 _ rfl; replace h : some (([UInt8.ofNat (IntKind.u8.wrap (IntKind.i64.wrap (48 + (v4.tmod 10)))).toNat]) ++ v5) = some r := hk3; obtain rfl := sI h; refine sG ?_; exact Ap (.refl hw) hK
 intro c11 h; refine vO ?_; obtain rfl := sI h; refine Aj hI3 ((IntKind.i64.wrap (v4.tdiv 10), ([UInt8.ofNat (IntKind.u8.wrap (IntKind.i64.wrap (48 + (v4.tmod 10)))).toNat]) ++ v5)) ?_; exact sm
noncomputable def MH  : Option Int :=
 some 0
noncomputable def Ep (a0 : List UInt8) (a1 : Int) (v5 : Int) : Option (Int ⊕ (Unit ⊕ Int)) :=
 if v5 ≤ a1 then ((TN v5).bind fun (x12 : (List UInt8)) => if x12 = a0 then (some (.inr (.inr v5))) else (some (.inl (IntKind.i64.wrap (v5 + 1))))) else (some (.inr (.inl ())))
noncomputable def W7 (a0 : List UInt8) (a1 : Int) : Option Int :=
 (AD (fun (s : Int) => Ep a0 a1 s) 1).bind fun y => Sum.elim (fun (e : Unit) => MH) (fun (q : Int) => some q) y
theorem Q2 {H : A2} {K : Au → A2 → Prop} (a0 : List UInt8) (a1 : Int) {r : Int} (h : W7 a0 a1 = some r) (hK : K (.ret (.v (.int .i64 r))) H) : Aa prog 111 [.v (str a0), .v (.int .i64 a1)] H K := by
 refine Ag (N := 16) func111 (by kernel_rfl) rfl (by kernel_rfl) (by kernel_rfl) fun cb hcb hw hbd hnb => ?_; clear hbd hnb; subst hcb; unfold W7 at h; refine wG ?_; refine A3 fun cb hc2 => ?_; refine wG ?_; obtain ⟨y4, hl4q, hk4⟩ := A4 h; refine AF (fun tm' H' => .inl () = y4 ∧ H = H') ?_ fun cb hc4 => ?_
 ·rintro tm4e H4e ⟨rfl, rfl⟩
  have h : MH = some r := hk4; unfold MH at h; simp -implicitDefEqProofs only [go_sem]; subst hc2; refine wG ?_; refine vO ?_; obtain rfl := sI h; refine sG ?_; exact Ap (.refl hw) hK
 refine Ah ?_; refine Az (fun (s : Int) tm' H' => H = H' ∧ tm' 0 = .v (str a0) ∧ tm' 1 = .v (.int .i64 a1) ∧ tm' 5 = .v (.int .i64 s)) hl4q ?_ ?_
 ·exact sm
 rintro I4 hI4 v5 x4 tm4 H4 ⟨rfl, B4, F2, El⟩ h hret4
 replace h : Ep a0 a1 v5 = some x4 := h; unfold Ep at h; refine A3 fun cb hc7 => ?_; refine wF (nd F2 El) ?_; refine A8 h eA rfl ?_ ?_
 ·intro c9 h; refine vO ?_; subst hc7; refine A3 fun cb hc10 => ?_; refine Ah ?_; refine A3 fun cb hc11 => ?_; refine vF El ?_; obtain ⟨x12, hx12, h⟩ := A4 h; refine W6 v5 hx12 ?_; refine sF B4 ?_; subst hc11; refine A8 h eA rfl ?_ ?_
  ·intro c13 h; refine wF El ?_; refine vO ?_; obtain rfl := sI h; obtain rfl := hret4 _ rfl; replace h : some v5 = some r := hk4; obtain rfl := sI h; refine sG ?_; exact Ap (.refl hw) hK
  intro c13 h; refine vO ?_; subst hc10; refine vF El ?_; obtain rfl := sI h; refine Aj hI4 (IntKind.i64.wrap (v5 + 1)) ?_; exact smF (nd B4 F2)
 intro c9 h; simp (disch := omega) at c9; refine vO ?_; obtain rfl := sI h; have hy4 := hret4 _ rfl; refine hc4 _ _ ?_; refine .same ⟨hy4, rfl⟩
noncomputable def MI  : Option Int :=
 some (-1)
noncomputable def FA (a0 : List (List UInt8)) (a1 : List UInt8) (v5 : Int) : Option (Int ⊕ (Unit ⊕ Int)) :=
 if v5 < (a0.length : Int) then (gd (0 ≤ v5 ∧ v5 < a0.length) (if a1 = (a0.getD v5.toNat []) then (some (.inr (.inr v5))) else (some (.inl (IntKind.i64.wrap (v5 + 1)))))) else (some (.inr (.inl ())))
noncomputable def W8 (a0 : List (List UInt8)) (a1 : List UInt8) : Option Int :=
 (AD (fun (s : Int) => FA a0 a1 s) 0).bind fun y => Sum.elim (fun (e : Unit) => MI) (fun (q : Int) => some q) y
theorem W9 {H : A2} {K : Au → A2 → Prop} (a0 : List (List UInt8)) (a1 : List UInt8) {r : Int} (h : W8 a0 a1 = some r) (hK : K (.ret (.v (.int .i64 r))) H) : Aa prog 140 [.sl 1 (a0.map fun x => [.v (str x)]), .v (str a1)] H K := by
 refine Ag (N := 19) func140 (by kernel_rfl) rfl (by kernel_rfl) (by kernel_rfl) fun cb hcb hw hbd hnb => ?_; clear hbd hnb; subst hcb; unfold W8 at h; refine wG ?_; refine A3 fun cb hc2 => ?_; refine wG ?_; obtain ⟨y4, hl4q, hk4⟩ := A4 h; refine AF (fun tm' H' => .inl () = y4 ∧ H = H') ?_ fun cb hc4 => ?_
 ·rintro tm4e H4e ⟨rfl, rfl⟩
  have h : MI = some r := hk4; unfold MI at h; simp -implicitDefEqProofs only [go_sem]; subst hc2; refine wG ?_; refine vO ?_; obtain rfl := sI h; refine sG ?_; exact Ap (.refl hw) hK
 refine Ah ?_; refine Az (fun (s : Int) tm' H' => H = H' ∧ tm' 0 = .sl 1 (a0.map fun x => [.v (str x)]) ∧ tm' 1 = .v (str a1) ∧ tm' 7 = .v (.int .i64 (a0.length : Int)) ∧ tm' 8 = .v (.int .i64 s)) hl4q ?_ ?_
 ·exact sm
 rintro I4 hI4 v5 x4 tm4 H4 ⟨rfl, B4, F2, KT, OX⟩ h hret4
 replace h : FA a0 a1 v5 = some x4 := h; unfold FA at h; refine wF (nd KT OX) ?_; refine A3 fun cb hc8 => ?_; refine A8 h eA rfl ?_ ?_
 ·intro c9 h; refine vO ?_; subst hc8; refine A3 fun cb hc10 => ?_; refine Ah ?_; refine wF OX ?_; obtain ⟨g13, h⟩ := Ad.1 h; refine wF (nd B4 F2) ?_; refine A8 h eA rfl ?_ ?_
  ·intro c14 h; simp (disch := omega) at c14; refine wG ?_; refine vO ?_; obtain rfl := sI h; obtain rfl := hret4 _ rfl; replace h : some v5 = some r := hk4; obtain rfl := sI h; refine sG ?_; exact Ap (.refl hw) hK
  intro c14 h; simp (disch := omega) at c14; refine vO ?_; subst hc10; refine vF OX ?_; obtain rfl := sI h; refine Aj hI4 (IntKind.i64.wrap (v5 + 1)) ?_; exact smF (nd B4 (nd F2 KT))
 intro c9 h; simp (disch := omega) at c9; refine vO ?_; obtain rfl := sI h; have hy4 := hret4 _ rfl; refine hc4 _ _ ?_; refine .same ⟨hy4, rfl⟩
noncomputable def fA  : Option ((List (List UInt8))) :=
 some ([[102, 117, 108, 108], [103, 105, 118, 101, 110], [102, 97, 109, 105, 108, 121], [111, 114, 103], [116, 105, 116, 108, 101], [110, 111, 116, 101], [109, 97, 105, 108], [112, 104, 111, 110, 101]])
theorem Wa {H : A2} {K : Au → A2 → Prop}  {r : (List (List UInt8))} (h : fA  = some r) (hK : K (.ret (.sl 1 (r.map fun x => [.v (str x)]))) H) : Aa prog 110 [] H K := by
 refine Ag (N := 2) func110 (by kernel_rfl) rfl (by kernel_rfl) (by kernel_rfl) fun cb hcb hw hbd hnb => ?_; clear hbd hnb; subst hcb; unfold fA at h; refine wG ?_; refine wG ?_; refine vO ?_; obtain rfl := sI h; refine sG ?_; exact Ap (.refl hw) hK
end Go.Idl
namespace Go.Idl
open Go
theorem AK {i : Nat} (h : i < 9223372036854775807) : IntKind.i64.wrap ((i : Int) + 1) = ((i + 1 : Nat) : Int) := by
 rw [wrap_i64 (by omega) (by omega)]; rfl
theorem Cz {ρ : Type} {step : Int → Option (Int ⊕ ρ)} {Post : ρ → Prop} (n : Nat) (Inv : Nat → Prop) (h0 : Inv 0)
    (hs : ∀ i : Nat, i < n → Inv i → (step i = some (.inl ((i + 1 : Nat) : Int)) ∧ Inv (i + 1)) ∨ ∃ r, step i = some (.inr r) ∧ Post r)
    (hf : Inv n → ∃ r, step n = some (.inr r) ∧ Post r) : ∃ r, AD step 0 = some r ∧ Post r := by
 refine HS (fun s : Int => ∃ i : Nat, i ≤ n ∧ s = (i : Int) ∧ Inv i) (fun s : Int => n - s.toNat) ?_ ⟨0, Nat.zero_le _, rfl, h0⟩
 rintro s ⟨i, hi, rfl, hI⟩
 by_cases h : i < n
 ·rcases hs i h hI with ⟨h1, h2⟩ | h1
  ·exact .inl ⟨_, h1, ⟨i + 1, h, rfl, h2⟩, by simp; omega⟩
  ·exact .inr h1
 ·have e : i = n := by omega
  subst e; exact .inr (hf hI)
theorem Pd {σ ρ : Type} {step : σ × Int → Option ((σ × Int) ⊕ ρ)} {Post : ρ → Prop} (n : Nat) (Inv : Nat → σ → Prop) {a : σ} (h0 : Inv 0 a)
    (hs : ∀ (i : Nat) (a : σ), i < n → Inv i a → (∃ a', step (a, (i : Int)) = some (.inl (a', ((i + 1 : Nat) : Int))) ∧ Inv (i + 1) a') ∨ ∃ r, step (a, (i : Int)) = some (.inr r) ∧ Post r)
    (hf : ∀ a, Inv n a → ∃ r, step (a, (n : Int)) = some (.inr r) ∧ Post r) : ∃ r, AD step (a, 0) = some r ∧ Post r := by
 refine HS (fun s : σ × Int => ∃ i : Nat, i ≤ n ∧ s.2 = (i : Int) ∧ Inv i s.1) (fun s : σ × Int => n - s.2.toNat) ?_ ⟨0, Nat.zero_le _, rfl, h0⟩
 rintro ⟨a, s⟩ ⟨i, hi, hs2, hI⟩
 simp only at hs2 hI; subst hs2; by_cases h : i < n
 ·rcases hs i a h hI with ⟨a', h1, h2⟩ | h1
  ·exact .inl ⟨_, h1, ⟨i + 1, h, rfl, h2⟩, by simp; omega⟩
  ·exact .inr h1
 ·have e : i = n := by omega
  subst e; exact .inr (hf a hI)
theorem Pe {σ ρ : Type} {step : Int × σ → Option ((Int × σ) ⊕ ρ)} {Post : ρ → Prop} (n : Nat) (Inv : Nat → σ → Prop) {a : σ} (h0 : Inv 0 a)
    (hs : ∀ (i : Nat) (a : σ), i < n → Inv i a → (∃ a', step ((i : Int), a) = some (.inl (((i + 1 : Nat) : Int), a')) ∧ Inv (i + 1) a') ∨ ∃ r, step ((i : Int), a) = some (.inr r) ∧ Post r)
    (hf : ∀ a, Inv n a → ∃ r, step ((n : Int), a) = some (.inr r) ∧ Post r) : ∃ r, AD step (0, a) = some r ∧ Post r := by
 refine HS (fun s : Int × σ => ∃ i : Nat, i ≤ n ∧ s.1 = (i : Int) ∧ Inv i s.2) (fun s : Int × σ => n - s.1.toNat) ?_ ⟨0, Nat.zero_le _, rfl, h0⟩
 rintro ⟨s, a⟩ ⟨i, hi, hs2, hI⟩
 simp only at hs2 hI; subst hs2; by_cases h : i < n
 ·rcases hs i a h hI with ⟨a', h1, h2⟩ | h1
  ·exact .inl ⟨_, h1, ⟨i + 1, h, rfl, h2⟩, by simp; omega⟩
  ·exact .inr h1
 ·have e : i = n := by omega
  subst e; exact .inr (hf a hI)
theorem getD_some {α : Type} {l : List α} {i : Nat} (h : i < l.length) (d : α) : l.getD i d = l[i] := by simp [h]
end Go.Idl
